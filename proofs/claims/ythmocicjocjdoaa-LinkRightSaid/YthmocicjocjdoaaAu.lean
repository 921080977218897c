/- The tables, read off the program. -/
import Derived.Test.YthmocicjocjdoaaAt
import Derived.ChangeKeysEq
set_option linter.unusedVariables false
set_option linter.unusedSimpArgs false
namespace Go.Proofs.Ythmocicjocjdoaa.V
open Go

def tkOf : TypeDesc → TK
  | .int k => .int k
  | .bool => .bool
  | .string => .str
  | .pointer e => .ptr e
  | .slice e => .slice e
  | .array n e => .array n e
  | .struct fs => .struct (fs.toList.map fun f => (f.offset, f.type))
  | .func _ _ _ => .fn
  | _ => .other
def aggK : TK → Bool
  | .struct _ => true
  | .array _ _ => true
  | _ => false
def zeroOK (agg : Bool) (size : Nat) (z : Value) : Bool :=
  Nat.beq z.cells.size size && (match z with | .agg _ => agg | z => !agg && Nat.beq size 1 && z.oneCell')
def zeroV (agg : Bool) (size : Nat) : Option Value → List AV
  | some z => bif zeroOK agg size z then (cvL z.cells.toList).getD [] else []
  | none => []
/-- The shapes of a type's cells (d: how deep structs are followed). -/
def shL (P : Program) : Nat → Nat → List Sh
  | 0, _ => [.any]
  | d + 1, t => match P.underlying t with
    | some (.int k) => [.int k]
    | some .bool => [.bool]
    | some .string => [.str]
    | some (.slice e) => match P.info? e with | some i => [.lst i.size] | none => [.any]
    | some (.struct fs) => fs.toList.flatMap fun f => shL P d f.type
    | some (.array n e) => bif Nat.ble n 64 then (List.replicate n (shL P d e)).flatten else [.arr]
    | _ => [.any]
def shOf (P : Program) (t : Nat) : Sh := match P.underlying t with
  | some (.struct _) => .agg (shL P 8 t)
  | some (.array _ _) => .agg (shL P 8 t)
  | _ => match shL P 1 t with | [s] => s | _ => .any
/-- The cells of a type whose values may be compared cell by cell. -/
def eqF (P : Program) (rec : Nat → Option (List Sh)) : List Field → Nat → Option (List Sh)
  | [], _ => some []
  | f :: fs, o => bif f.name != "_" && Nat.beq f.offset o then match rec f.type with
      | some s => bif Nat.beq (P.cellsOf f.type) s.length then (match eqF P rec fs (o + s.length) with | some r => some (s ++ r) | none => none) else none
      | none => none
    else none
def eqK (P : Program) : Nat → Nat → Option (List Sh)
  | 0, _ => none
  | d + 1, t => match P.underlying t with
    | some (.int k) => some [.int k]
    | some .bool => some [.bool]
    | some .string => some [.str]
    | some (.struct fs) => (match eqF P (eqK P d) fs.toList 0 with | some s => bif P.stoodInHeld t then none else some s | none => none)
    | some (.array n e) => bif Nat.ble n 64 then (match eqK P d e with | some s => bif Nat.beq (P.cellsOf e) s.length then some (List.replicate n s).flatten else none | none => none) else none
    | _ => none
/-- The cells of a struct or an array whose values may be compared; the empty list otherwise. -/
def eqOf (P : Program) (t : Nat) : List Sh :=
  match P.underlying t with
  | some (.struct _) => (match eqK P 8 t with | some s => bif P.eqGuardType P.depth t then [] else s | none => [])
  | some (.array _ _) => (match eqK P 8 t with | some s => bif P.eqGuardType P.depth t then [] else s | none => [])
  | _ => []

theorem fitL_append : ∀ {s1 s2 : List Sh} {l : List AV}, fitL (s1 ++ s2) l = true → ∃ l1 l2, l = l1 ++ l2 ∧ l1.length = s1.length ∧ fitL s1 l1 = true ∧ fitL s2 l2 = true
  | [], s2, l, h => ⟨[], l, rfl, rfl, rfl, h⟩
  | s :: s1, s2, [], h => by cases h
  | s :: s1, s2, x :: l, h => by
    simp only [List.cons_append, fitL, Bool.and_eq_true] at h
    obtain ⟨l1, l2, rfl, h1, h2, h3⟩ := fitL_append h.2
    exact ⟨x :: l1, l2, rfl, by simp [h1], by simp [fitL, h.1, h2], h3⟩
theorem eqL_append : ∀ {l1 l2 r1 r2 : List AV} {b : Bool}, l1.length = r1.length → eqL (l1 ++ l2) (r1 ++ r2) = some b → ∃ b1 b2, eqL l1 r1 = some b1 ∧ eqL l2 r2 = some b2 ∧ b = (b1 && b2)
  | [], l2, [], r2, b, _, h => ⟨true, b, rfl, h, by simp⟩
  | x :: l1, l2, [], r2, b, hl, h => by cases hl
  | [], l2, y :: r1, r2, b, hl, h => by cases hl
  | x :: l1, l2, y :: r1, r2, b, hl, h => by
    simp only [List.cons_append, eqL] at h
    split at h
    · rename_i a c ha hc
      cases h
      obtain ⟨b1, b2, e1, e2, rfl⟩ := eqL_append (by simpa using hl) hc
      exact ⟨a && b1, b2, by simp [eqL, ha, e1], e2, by simp [Bool.and_assoc]⟩
    · cases h
theorem repL_append {E : E3} : ∀ {l1 l2 : List AV} {vs : List Value}, RepL E (l1 ++ l2) vs → RepL E l1 (vs.take l1.length) ∧ RepL E l2 (vs.drop l1.length)
  | [], l2, vs, h => ⟨by simp [RepL], h⟩
  | x :: l1, l2, vs, h => by
    simp only [List.cons_append, RepL] at h
    obtain ⟨v, r, rfl, h1, h2, h3, h4⟩ := h
    obtain ⟨a, b⟩ := repL_append h4
    exact ⟨by simp only [List.length_cons, List.take_succ_cons, RepL]; exact ⟨v, _, rfl, h1, h2, h3, a⟩, by simpa using b⟩

section
variable {P : Program}
/-- What a comparison of two parts answers. -/
def EqStep (P : Program) (D t : Nat) (s : List Sh) : Prop := ∀ (E : E3) (l r : List AV) (xs ys : List Value) (o : Nat) (b : Bool) (w : World), fitL s l = true → fitL s r = true →
  RepL E l ((xs.drop o).take s.length) → RepL E r ((ys.drop o).take s.length) → eqL l r = some b →
  ∃ a c, (Go.part t xs.toArray o).run P w = .ok a w ∧ (Go.part t ys.toArray o).run P w = .ok c w ∧ (Op.equalIn D t a c).run P w = .ok b w
def EqAgg (P : Program) (D t : Nat) (s : List Sh) : Prop := ∀ (E : E3) (l r : List AV) (xs ys : List Value) (b : Bool) (w : World), fitL s l = true → fitL s r = true →
  RepL E l xs → RepL E r ys → eqL l r = some b → (Op.equalIn D t (.agg xs.toArray) (.agg ys.toArray)).run P w = .ok b w

theorem eqF_sound {D : Nat} {rec : Nat → Option (List Sh)} (hrec : ∀ t s, rec t = some s → P.cellsOf t = s.length → EqStep P D t s) :
    ∀ (fs : List Field) (o : Nat) (s : List Sh), eqF P rec fs o = some s → ∀ (E : E3) (l r : List AV) (xs ys : List Value) (b : Bool) (w : World), fitL s l = true → fitL s r = true →
    RepL E l (xs.drop o) → RepL E r (ys.drop o) → eqL l r = some b → (Op.eqFields D xs.toArray ys.toArray fs).run P w = .ok b w
  | [], o, s, h, E, l, r, xs, ys, b, w, hl, hr, _, _, hb => by
    cases h
    obtain rfl : l = [] := by cases l <;> first | rfl | cases hl
    obtain rfl : r = [] := by cases r <;> first | rfl | cases hr
    cases hb
    simp [Op.eqFields]
  | f :: fs, o, s, h, E, l, r, xs, ys, b, w, hl, hr, hx, hy, hb => by
    simp only [eqF] at h
    cases hc : (f.name != "_" && Nat.beq f.offset o) with
    | false => rw [hc] at h; cases h
    | true =>
      rw [hc] at h
      simp only [cond_true] at h
      split at h
      · rename_i s1 hs1
        cases hz : Nat.beq (P.cellsOf f.type) s1.length with
        | false => rw [hz] at h; cases h
        | true =>
          rw [hz] at h
          simp only [cond_true] at h
          split at h
          · rename_i s2 hs2
            cases h
            simp only [Bool.and_eq_true, bne_iff_ne, ne_eq, Nat.beq_eq] at hc
            obtain ⟨hn, rfl⟩ := hc
            obtain ⟨l1, l2, rfl, hl1, hl2, hl3⟩ := fitL_append hl
            obtain ⟨r1, r2, rfl, hr1, hr2, hr3⟩ := fitL_append hr
            obtain ⟨b1, b2, e1, e2, rfl⟩ := eqL_append (by omega) hb
            obtain ⟨x1, x2⟩ := repL_append hx
            obtain ⟨y1, y2⟩ := repL_append hy
            rw [hl1] at x1 x2
            rw [hr1] at y1 y2
            rw [List.drop_drop] at x2 y2
            obtain ⟨a, c, p1, p2, p3⟩ := hrec _ _ hs1 (Nat.eq_of_beq_eq_true hz) E l1 r1 xs ys f.offset b1 w hl2 hr2 x1 y1 e1
            have ih := eqF_sound hrec fs _ _ hs2 E l2 r2 xs ys b2 w hl3 hr3 x2 y2 e2
            simp only [Op.eqFields, hn, ne_eq, not_false_eq_true, if_true, Sem.run_bind, p1, p2, p3, Result.andThen_ok]
            cases b1
            · simp
            · simpa using ih
          · cases h
      · cases h
theorem eqI_sound {D e : Nat} {s : List Sh} (hrec : EqStep P D e s) : ∀ (n i : Nat) (E : E3) (l r : List AV) (xs ys : List Value) (b : Bool) (w : World), fitL (List.replicate n s).flatten l = true → fitL (List.replicate n s).flatten r = true →
    RepL E l (xs.drop (i * s.length)) → RepL E r (ys.drop (i * s.length)) → eqL l r = some b → (Op.eqItems D e s.length xs.toArray ys.toArray (List.range' i n)).run P w = .ok b w
  | 0, i, E, l, r, xs, ys, b, w, hl, hr, _, _, hb => by
    simp only [List.replicate_zero, List.flatten_nil] at hl hr
    obtain rfl : l = [] := by cases l <;> first | rfl | cases hl
    obtain rfl : r = [] := by cases r <;> first | rfl | cases hr
    cases hb
    simp [Op.eqItems]
  | n + 1, i, E, l, r, xs, ys, b, w, hl, hr, hx, hy, hb => by
    rw [List.replicate_succ, List.flatten_cons] at hl hr
    obtain ⟨l1, l2, rfl, hl1, hl2, hl3⟩ := fitL_append hl
    obtain ⟨r1, r2, rfl, hr1, hr2, hr3⟩ := fitL_append hr
    obtain ⟨b1, b2, e1, e2, rfl⟩ := eqL_append (by omega) hb
    obtain ⟨x1, x2⟩ := repL_append hx
    obtain ⟨y1, y2⟩ := repL_append hy
    rw [hl1] at x1 x2
    rw [hr1] at y1 y2
    rw [List.drop_drop] at x2 y2
    obtain ⟨a, c, p1, p2, p3⟩ := hrec E l1 r1 xs ys (i * s.length) b1 w hl2 hr2 x1 y1 e1
    have hi : i * s.length + s.length = (i + 1) * s.length := by rw [Nat.add_mul]; omega
    have ih := eqI_sound hrec n (i + 1) E l2 r2 xs ys b2 w hl3 hr3 (by rw [← hi]; exact x2) (by rw [← hi]; exact y2) e2
    simp only [List.range'_succ, Op.eqItems, Sem.run_bind, p1, p2, p3, Result.andThen_ok]
    cases b1
    · simp
    · simpa using ih

theorem get_chunk {xs : List Value} {o : Nat} {v : Value} (h : (xs.drop o).take 1 = [v]) : xs.toArray[o]? = some v := by
  have : ((xs.drop o).take 1)[0]? = some v := by rw [h]; rfl
  simpa using this
theorem repL_sing {E : E3} {x : AV} {vs : List Value} (h : RepL E [x] vs) : ∃ v, vs = [v] ∧ Rep E x v := by
  simp only [RepL] at h
  obtain ⟨v, r, rfl, _, _, h3, rfl⟩ := h
  exact ⟨v, rfl, h3⟩
theorem fitL_one {s : Sh} {l : List AV} (h : fitL [s] l = true) : ∃ x, l = [x] ∧ fit1 s x = true := by
  cases l with
  | nil => cases h
  | cons x l => cases l with
    | nil => exact ⟨x, rfl, by simpa [fitL] using h⟩
    | cons y l => simp [fitL] at h
theorem eqL_one {x y : AV} {b : Bool} (h : eqL [x] [y] = some b) : eq1 x y = some b := by
  simp only [eqL] at h
  split at h
  · rename_i a c ha hc
    cases hc
    cases h
    simpa using ha
  · cases h
theorem eqStep_of_agg {D t : Nat} {s : List Sh} (hs : P.cellsOf t = s.length) (hi : ∃ i, P.info? t = some i) (ha : ∀ w, (Go.isAgg t).run P w = .ok true w) (h : EqAgg P D t s) : EqStep P D t s := by
  intro E l r xs ys o b w hl hr hx hy hb
  obtain ⟨i, hi⟩ := hi
  have ex : ∀ zs : List Value, (zs.toArray.extract o (o + s.length)) = ((zs.drop o).take s.length).toArray := by
    intro zs
    apply Array.ext'
    rw [Array.toList_extract]
    simp [List.extract]
  refine ⟨.agg (xs.toArray.extract o (o + s.length)), .agg (ys.toArray.extract o (o + s.length)), ?_, ?_, ?_⟩
  · simp [Go.part, ha, run_sizeOf w hi, hs]
  · simp [Go.part, ha, run_sizeOf w hi, hs]
  · rw [ex, ex]
    exact h E l r _ _ b w hl hr hx hy hb

theorem eqK_sound : ∀ (d t : Nat) (s : List Sh), eqK P d t = some s → ∀ D, d ≤ D →
    (P.cellsOf t = s.length → EqStep P D t s) ∧ ((∃ fs, P.underlying t = some (.struct fs)) ∨ (∃ n e, P.underlying t = some (.array n e)) → EqAgg P D t s)
  | 0, t, s, h, D, hD => by cases h
  | d + 1, t, s, h, 0, hD => by omega
  | d + 1, t, s, h, D + 1, hD => by
    simp only [eqK] at h
    split at h
    · rename_i k hu
      cases h
      refine ⟨fun _ => ?_, fun hc => by rcases hc with ⟨fs, e⟩ | ⟨n, e', e⟩ <;> · rw [hu] at e; cases e⟩
      intro E l r xs ys o b w hl hr hx hy hb
      obtain ⟨x, rfl, hx1⟩ := fitL_one hl
      obtain ⟨y, rfl, hy1⟩ := fitL_one hr
      obtain ⟨v, ev, rv⟩ := repL_sing hx
      obtain ⟨u, eu, ru⟩ := repL_sing hy
      have e1 := eqL_one hb
      refine ⟨v, u, by simp [Go.part, Go.isAgg, run_underlying hu, get_chunk ev], by simp [Go.part, Go.isAgg, run_underlying hu, get_chunk eu], ?_⟩
      cases x <;> simp only [fit1, Bool.false_eq_true] at hx1
      cases y <;> simp only [fit1, Bool.false_eq_true] at hy1
      simp only [decide_eq_true_eq] at hx1 hy1
      subst hx1; subst hy1
      simp only [Rep] at rv ru
      simp only [eq1, decide_true, cond_true, Option.some.injEq] at e1
      subst e1; subst rv; subst ru
      exact run_equalIn_int w D t _ _ _ _ hu
    · rename_i hu
      cases h
      refine ⟨fun _ => ?_, fun hc => by rcases hc with ⟨fs, e⟩ | ⟨n, e', e⟩ <;> · rw [hu] at e; cases e⟩
      intro E l r xs ys o b w hl hr hx hy hb
      obtain ⟨x, rfl, hx1⟩ := fitL_one hl
      obtain ⟨y, rfl, hy1⟩ := fitL_one hr
      obtain ⟨v, ev, rv⟩ := repL_sing hx
      obtain ⟨u, eu, ru⟩ := repL_sing hy
      have e1 := eqL_one hb
      refine ⟨v, u, by simp [Go.part, Go.isAgg, run_underlying hu, get_chunk ev], by simp [Go.part, Go.isAgg, run_underlying hu, get_chunk eu], ?_⟩
      cases x <;> simp only [fit1, Bool.false_eq_true] at hx1
      cases y <;> simp only [fit1, Bool.false_eq_true] at hy1
      simp only [Rep] at rv ru
      simp only [eq1, Option.some.injEq] at e1
      subst e1; subst rv; subst ru
      exact run_equalIn_bool' w D t _ _ hu
    · rename_i hu
      cases h
      refine ⟨fun _ => ?_, fun hc => by rcases hc with ⟨fs, e⟩ | ⟨n, e', e⟩ <;> · rw [hu] at e; cases e⟩
      intro E l r xs ys o b w hl hr hx hy hb
      obtain ⟨x, rfl, hx1⟩ := fitL_one hl
      obtain ⟨y, rfl, hy1⟩ := fitL_one hr
      obtain ⟨v, ev, rv⟩ := repL_sing hx
      obtain ⟨u, eu, ru⟩ := repL_sing hy
      have e1 := eqL_one hb
      refine ⟨v, u, by simp [Go.part, Go.isAgg, run_underlying hu, get_chunk ev], by simp [Go.part, Go.isAgg, run_underlying hu, get_chunk eu], ?_⟩
      cases x <;> simp only [fit1, Bool.false_eq_true] at hx1
      cases y <;> simp only [fit1, Bool.false_eq_true] at hy1
      simp only [Rep] at rv ru
      simp only [eq1, Option.some.injEq] at e1
      subst e1
      obtain ⟨rfl, _⟩ := rv
      obtain ⟨rfl, _⟩ := ru
      rw [run_equalIn_string w D t _ _ hu, ByteArray.toList_eq, ByteArray.toList_eq]
    · rename_i fs hu
      split at h
      · rename_i s' hs'
        cases hh : P.stoodInHeld t with
        | true => rw [hh] at h; cases h
        | false =>
          rw [hh] at h
          cases h
          have hf : P.fieldsOf t = fs := by simp [Program.fieldsOf, hu]
          have agg : EqAgg P (D + 1) t s := by
            intro E l r xs ys b w hl hr hx hy hb
            rw [run_equalIn_struct w D t _ _ (by rw [hf]; exact hu) hh, hf]
            exact eqF_sound (fun t' s'' h' hc => (eqK_sound d t' s'' h' D (by omega)).1 hc) _ 0 _ hs' E l r xs ys b w hl hr (by simpa using hx) (by simpa using hy) hb
          exact ⟨fun hc => eqStep_of_agg hc (info_of_underlying hu) (fun w => by simp [Go.isAgg, run_underlying hu]) agg, fun _ => agg⟩
      · cases h
    · rename_i n e hu
      cases hn : Nat.ble n 64 with
      | false => rw [hn] at h; cases h
      | true =>
        rw [hn] at h
        simp only [cond_true] at h
        split at h
        · rename_i s' hs'
          cases hz : Nat.beq (P.cellsOf e) s'.length with
          | false => rw [hz] at h; cases h
          | true =>
            rw [hz] at h
            cases h
            have hz' : P.cellsOf e = s'.length := Nat.eq_of_beq_eq_true hz
            have hs := (eqK_sound d e s' hs' D (by omega)).1 hz'
            have agg : EqAgg P (D + 1) t (List.replicate n s').flatten := by
              intro E l r xs ys b w hl hr hx hy hb
              have hie : ∃ i, P.info? e = some i := by
                cases d with
                | zero => cases hs'
                | succ d =>
                  cases hue : P.underlying e with
                  | none => simp [eqK, hue] at hs'
                  | some _ => exact info_of_underlying hue
              obtain ⟨i, hi⟩ := hie
              rw [run_equalIn_array w D _ _ hu hi, hz', List.range_eq_range']
              exact eqI_sound hs n 0 E l r xs ys b w hl hr (by simpa using hx) (by simpa using hy) hb
            exact ⟨fun hc => eqStep_of_agg hc (info_of_underlying hu) (fun w => by simp [Go.isAgg, run_underlying hu]) agg, fun _ => agg⟩
        · cases h
    · cases h
theorem eqOf_sound {t : Nat} {E : E3} {l r : List AV} {xs ys : List Value} {b : Bool} {w : World} (h : (!(eqOf P t).isEmpty && (fitL (eqOf P t) l && fitL (eqOf P t) r)) = true) (hx : RepL E l xs) (hy : RepL E r ys) (hb : eqL l r = some b) :
    P.eqGuardType P.depth t = false ∧ (Op.equalIn 10000 t (.agg xs.toArray) (.agg ys.toArray)).run P w = .ok b w := by
  have key : ∀ s, eqK P 8 t = some s → P.eqGuardType P.depth t = false → ((∃ fs, P.underlying t = some (.struct fs)) ∨ (∃ n e, P.underlying t = some (.array n e))) → fitL s l = true → fitL s r = true → P.eqGuardType P.depth t = false ∧ (Op.equalIn 10000 t (.agg xs.toArray) (.agg ys.toArray)).run P w = .ok b w := by
    intro s hs hg hk hl hr
    exact ⟨hg, (eqK_sound 8 t s hs 10000 (by omega)).2 hk E l r xs ys b w hl hr hx hy hb⟩
  unfold eqOf at h
  split at h
  · rename_i fs hu
    split at h
    · rename_i s hs
      cases hg : P.eqGuardType P.depth t with
      | true => rw [hg] at h; simp at h
      | false =>
        rw [hg] at h
        simp only [cond_false, Bool.and_eq_true] at h
        exact ⟨rfl, (key s hs hg (Or.inl ⟨_, hu⟩) h.2.1 h.2.2).2⟩
    · simp at h
  · rename_i n e hu
    split at h
    · rename_i s hs
      cases hg : P.eqGuardType P.depth t with
      | true => rw [hg] at h; simp at h
      | false =>
        rw [hg] at h
        simp only [cond_false, Bool.and_eq_true] at h
        exact ⟨rfl, (key s hs hg (Or.inr ⟨_, _, hu⟩) h.2.1 h.2.2).2⟩
    · simp at h
  · simp at h
end

def otherTD : TD := ⟨.other, 0, 0, [], .any, []⟩
def tdOf (P : Program) (t : Nat) : TD :=
  match P.info? t, P.underlying t with
  | some i, some d => ⟨tkOf d, i.size, i.bytes, zeroV (aggK (tkOf d)) i.size i.zero, shOf P t, eqOf P t⟩
  | _, _ => otherTD

theorem tdOf_ok {P : Program} {T : Tab} {t : Nat} (h : T.ty t = otherTD ∨ T.ty t = tdOf P t) : TyOK P T t := by
  have other : T.ty t = otherTD → TyOK P T t := by
    intro h
    refine ⟨by rw [h]; trivial, ?_, ?_⟩
    · intro hk; rw [h] at hk; cases hk
    · intro E l r xs ys b w hk; rw [h] at hk; cases hk
  rcases h with h | h
  · exact other h
  · unfold tdOf at h
    split at h
    · rename_i i d hi hd
      have hkd : (T.ty t).k = tkOf d := by rw [h]
      refine ⟨?_, ?_, ?_⟩
      · rw [hkd]
        cases d <;> simp only [tkOf] <;> first
          | exact hd
          | trivial
          | exact ⟨_, hd, rfl⟩
          | exact ⟨_, _, _, hd⟩
      · intro _
        refine ⟨i, hi, by rw [h], by rw [h], ?_⟩
        intro hz
        have hz' : (T.ty t).zero = zeroV (aggK (tkOf d)) i.size i.zero := by rw [h]
        have hag : (T.ty t).isAgg = aggK (tkOf d) := by
          unfold TD.isAgg
          rw [hkd]
          cases d <;> rfl
        have hsz : (T.ty t).size = i.size := by rw [h]
        rw [hz'] at hz ⊢
        rw [hag, hsz]
        unfold zeroV at hz ⊢
        cases hiz : i.zero with
        | none => rw [hiz] at hz; cases hz
        | some z =>
          rw [hiz] at hz
          dsimp only at hz ⊢
          cases hok : zeroOK (aggK (tkOf d)) i.size z with
          | false => rw [hok] at hz; cases hz
          | true =>
            rw [hok] at hz
            simp only [cond_true] at hz ⊢
            cases hcv : cvL z.cells.toList with
            | none => rw [hcv] at hz; cases hz
            | some l =>
              simp only [zeroOK, Bool.and_eq_true, Nat.beq_eq] at hok
              obtain ⟨h1, h2⟩ := hok
              refine ⟨z, rfl, h1, ?_, ?_, fun E => by simpa using cvL_rep hcv⟩
              · intro ha
                split at h2
                · exact ⟨_, rfl⟩
                · rw [ha] at h2; simp at h2
              · intro ha
                split at h2
                · rw [ha] at h2; cases h2
                · simp only [Bool.and_eq_true, Nat.beq_eq] at h2
                  exact ⟨h2.1.2, h2.2⟩
      · intro E l r xs ys b w he hx hy hb
        rw [h] at he
        exact eqOf_sound he hx hy hb
    · exact other h

/-- A table kept as a list, which a look at the program bears out. -/
def tabOf (l : List TD) (osh : Nat → List Sh) (res : Nat → List Sh) (fns : List Bool) (ash : Nat → List Sh) : Tab := ⟨fun t => (l[t]?).getD otherTD, osh, res, fun f => (fns[f]?).getD false, ash, fun _ => false, fun _ => false⟩
theorem tab_ok {P : Program} {l : List TD} {osh : Nat → List Sh} {res : Nat → List Sh} {fns : List Bool} {ash : Nat → List Sh} (h : (List.range l.length).map (tdOf P) = l) : TabOK P (tabOf l osh res fns ash) := by
  intro t
  refine tdOf_ok ?_
  show (l[t]?).getD otherTD = otherTD ∨ (l[t]?).getD otherTD = tdOf P t
  cases hl : l[t]? with
  | none => exact .inl rfl
  | some d =>
    right
    rw [← h, List.getElem?_map] at hl
    have hlt : t < l.length := by
      rcases Nat.lt_or_ge t l.length with h' | h'
      · exact h'
      · rw [List.getElem?_eq_none (by simpa using h')] at hl; cases hl
    rw [List.getElem?_range hlt] at hl
    simpa using hl.symm
def fnOf (P : Program) (f : Nat) : Bool := match P.funcs[f]? with | some fn => fn.body.isSome && !(fn.name == "runtime.NumGoroutine") | none => false
theorem fn_ok {P : Program} {l : List TD} {osh : Nat → List Sh} {res : Nat → List Sh} {fns : List Bool} {ash : Nat → List Sh} (h : (List.range fns.length).map (fnOf P) = fns) : FnOK P (tabOf l osh res fns ash) := by
  intro f hf
  change (fns[f]?).getD false = true at hf
  have hf' : fnOf P f = true := by
    cases hl : fns[f]? with
    | none => rw [hl] at hf; cases hf
    | some b =>
      rw [hl] at hf
      simp only [Option.getD_some] at hf
      subst hf
      rw [← h, List.getElem?_map] at hl
      have hlt : f < fns.length := by
        rcases Nat.lt_or_ge f fns.length with h' | h'
        · exact h'
        · rw [List.getElem?_eq_none (by simpa using h')] at hl; cases hl
      rw [List.getElem?_range hlt] at hl
      simpa using hl
  unfold fnOf at hf'
  split at hf'
  · rename_i fn hfn
    simp only [Bool.and_eq_true, Bool.not_eq_true'] at hf'
    cases hb : fn.body with
    | none => rw [hb] at hf'; simp at hf'
    | some body => exact ⟨fn, body, hfn, hb, hf'.2⟩
  · cases hf'
end Go.Proofs.Ythmocicjocjdoaa.V
