/- From what a row reads to the interpreter's values: generic over the program. -/
import Derived.Test.YthmocicjocjdoaaBc
import Derived.ProofKit
import Derived.Carry
import Derived.SizedLaws
set_option linter.unusedVariables false
set_option linter.unusedSimpArgs false
namespace Go.Proofs.Ythmocicjocjdoaa.V
open Go Go.ChangeShapes Go.WideShapes Go.ChangeAt Go.RowKit
variable {H : Type} {enc : TypeId × Value → H} {P : Program} {T : Tab}

def Each {α β : Type} (R : α → β → Prop) : List α → List β → Prop
  | [], [] => True
  | a :: l, b :: r => R a b ∧ Each R l r
  | _, _ => False
def Each3 {α β γ : Type} (R : α → β → γ → Prop) : List α → List β → List γ → Prop
  | [], [], [] => True
  | a :: l, b :: r, c :: s => R a b c ∧ Each3 R l r s
  | _, _, _ => False
/-- A value of a type, and its cells. -/
def ElemOf (td : TD) (x : AV) (ys : List AV) : Prop := if td.isAgg then x = .agg ys else ys = [x]
/-- The interpreter's cells for a datum of a type. -/
def Fit (T : Tab) : Nat → Nat → DataW H → List AV → Prop
  | 0, _, _, _ => False
  | n + 1, t, d, xs =>
    match (T.ty t).k with
    | .bool => ∃ b, d = .lit (.bool b) ∧ xs = [.bool b]
    | .int k => ∃ z, (Lit.int k z).wf = true ∧ d = .lit (.int k z) ∧ xs = [.int k z]
    | .str => ∃ s : List UInt8, d = .lit (.string s) ∧ xs = [.str s]
    | .slice e => ∃ (ds sp : List (DataW H)) (l : List AV), (d = .slice ds sp ∨ (d = .nil ∧ ds = [])) ∧ xs = [.lst .ro (T.ty e).size l] ∧ Each (fun d x => ∃ ys, Fit T n e d ys ∧ ElemOf (T.ty e) x ys) ds l
    | .struct fs => ∃ (ds : List (DataW H)) (yss : List (List AV)), d = .agg ds ∧ xs = yss.flatten ∧ Each3 (fun f d ys => Fit T n f.2 d ys) fs ds yss
    | _ => False
def offsOK (T : Tab) : Nat → List (Nat × Nat) → Nat → Bool
  | o, [], n => Nat.beq o n
  | o, f :: fs, n => Nat.beq f.1 o && offsOK T (o + (T.ty f.2).size) fs n
/-- A type that is made of numbers, bools, strings, slices, structs and arrays. -/
def fitTy (T : Tab) : Nat → Nat → Bool
  | 0, _ => false
  | n + 1, t => (T.ty t).known &&
    match (T.ty t).k with
    | .bool | .int _ | .str => Nat.beq (T.ty t).size 1
    | .slice e => Nat.beq (T.ty t).size 1 && Nat.blt 0 (T.ty e).size && fitTy T n e
    | .struct fs => offsOK T 0 fs (T.ty t).size && fs.all (fun f => fitTy T n f.2)
    | _ => false
theorem TabOK.cellsOf (hT : TabOK P T) {t : Nat} (hk : (T.ty t).known = true) : P.cellsOf t = (T.ty t).size := by
  obtain ⟨i, h1, h2, _⟩ := (hT t).info hk
  simp [Program.cellsOf, h1, h2]
/-- What stands in memory. -/
def snapE (W : World) : E3 := ⟨fun b i => W.cell? ⟨b, i, none⟩, fun _ => none, fun _ => none⟩
theorem RepL.append {E : E3} : ∀ {l r : List AV} {vs us : List Value}, RepL E l vs → RepL E r us → RepL E (l ++ r) (vs ++ us)
  | [], r, vs, us, h, h' => by simp only [RepL] at h; subst h; simpa using h'
  | x :: l, r, vs, us, h, h' => by
    simp only [RepL] at h
    obtain ⟨v, r', rfl, h1, h2, h3, h4⟩ := h
    exact ⟨v, r' ++ us, rfl, h1, h2, h3, RepL.append h4 h'⟩
def fitsAt (E : E3) (T : Tab) (W : World) (n t : Nat) (d : DataW H) (cs : List Value) : Prop := ∃ xs, RepL E xs cs ∧ xs.all AV.flat1 = true ∧ Fit T n t d xs
theorem Each.length {α β : Type} {R : α → β → Prop} : ∀ {l : List α} {r : List β}, Each R l r → l.length = r.length
  | [], [], _ => rfl
  | _ :: _, _ :: _, h => by simp [Each.length h.2]
  | [], _ :: _, h => h.elim
  | _ :: _, [], h => h.elim
theorem elem_rep {E : E3} {td : TD} {ys : List AV} {cs : List Value} (hr : RepL E ys cs) (hf : ys.all AV.flat1 = true) (h1 : td.isAgg = false → cs.length = 1) : ∃ x u, ElemOf td x ys ∧ x.flat = true ∧ Rep E x u ∧ u.cells.toList = cs := by
  unfold ElemOf
  cases hagg : td.isAgg with
  | true =>
    refine ⟨.agg ys, .agg cs.toArray, by simp, by simpa [AV.flat] using hf, ?_, by simp [Value.cells]⟩
    simp only [Rep]
    exact ⟨cs, rfl, hr⟩
  | false =>
    have hl := h1 hagg
    have hl2 := hr.length
    match cs, hl, ys, hl2 with
    | [c], _, [y], _ =>
      simp only [RepL] at hr
      obtain ⟨v, r, e, h1, h2, h3, h4⟩ := hr
      cases e
      refine ⟨y, c, by simp, ?_, h3, ?_⟩
      · simp only [List.all_cons, List.all_nil, Bool.and_true] at hf
        cases y <;> first | exact hf | (simp [AV.flat1] at hf)
      · cases c <;> first | rfl | (simp [Value.oneCell'] at h2)
theorem repL_one {E : E3} {x : AV} {v : Value} (h1 : x.one = true) (h2 : v.oneCell' = true) (h3 : Rep E x v) : RepL E [x] [v] := by
  simp only [RepL]
  exact ⟨v, [], rfl, h1, h2, h3, rfl⟩
theorem size_cells (hT : TabOK P T) {n t : Nat} (hk : fitTy T n t = true) (ha : (T.ty t).isAgg = false) : P.cellsOf t = 1 := by
  cases n with
  | zero => cases hk
  | succ n =>
    simp only [fitTy, Bool.and_eq_true] at hk
    rw [hT.cellsOf hk.1]
    have h := hk.2
    unfold TD.isAgg at ha
    cases hh : (T.ty t).k <;> rw [hh] at h ha <;> simp at h ha
    all_goals first | exact h | exact h.1 | exact h.1.1

theorem each_of {α β : Type} {R : α → β → Prop} : ∀ (l : List α), (∀ (i : Nat) (a : α), l[i]? = some a → ∃ b, R a b) → ∃ r, Each R l r
  | [], _ => ⟨[], trivial⟩
  | a :: l, h => by
    obtain ⟨b, hb⟩ := h 0 a rfl
    obtain ⟨r, hr⟩ := each_of l fun i a ha => h (i + 1) a ha
    exact ⟨b :: r, hb, hr⟩
theorem Each.get {α β : Type} {R : α → β → Prop} : ∀ {l : List α} {r : List β}, Each R l r → ∀ (i : Nat) (b : β), r[i]? = some b → ∃ a, l[i]? = some a ∧ R a b
  | [], [], _, i, b, h => by simp at h
  | a :: l, b :: r, h, i, x, hx => by
    cases i with
    | zero => simp at hx; subst hx; exact ⟨a, rfl, h.1⟩
    | succ i => exact Each.get h.2 i x (by simpa using hx)
  | [], _ :: _, h, _, _, _ => h.elim
  | _ :: _, [], h, _, _, _ => h.elim
theorem Each.mk {α β : Type} {R : α → β → Prop} : ∀ {l : List α} {r : List β}, l.length = r.length → (∀ (i : Nat) (a : α) (b : β), l[i]? = some a → r[i]? = some b → R a b) → Each R l r
  | [], [], _, _ => trivial
  | a :: l, b :: r, hl, h => ⟨h 0 a b rfl rfl, Each.mk (by simpa using hl) fun i a b h1 h2 => h (i + 1) a b h1 h2⟩
  | [], _ :: _, h, _ => by cases h
  | _ :: _, [], h, _ => by cases h
theorem fitTy_known {n t : Nat} (h : fitTy T n t = true) : (T.ty t).known = true := by
  cases n with
  | zero => cases h
  | succ n => simp only [fitTy, Bool.and_eq_true] at h; exact h.1
theorem fields_fit (hT : TabOK P T) {W : World} {m n : Nat} {cs : List Value} (ih : ∀ (n t : Nat) (cs : List Value) (d : DataW H) (ps : List MemPlace), fitTy T m t = true → DataW.trod enc P W 0 (fun _ => true) true n t cs = some (d, ps) → fitsAt (snapE W) T W m t d cs) :
    ∀ (fs : List Field) (o : Nat) (xs : List (DataW H × List MemPlace)), offsOK T o (fs.map fun f => (f.offset, f.type)) cs.length = true → (fs.all fun f => fitTy T m f.type) = true → xs.length = fs.length →
      (∀ (i : Nat) (f : Field), fs[i]? = some f → DataW.trod enc P W 0 (fun _ => true) true n f.type ((cs.drop f.offset).take (P.cellsOf f.type)) = xs[i]?) →
      ∃ yss : List (List AV), Each3 (fun (f : Nat × Nat) (d : DataW H) ys => Fit T m f.2 d ys) (fs.map fun f => (f.offset, f.type)) (xs.map (·.1)) yss ∧ RepL (snapE W) yss.flatten (cs.drop o) ∧ yss.flatten.all AV.flat1 = true
  | [], o, xs, ho, _, hl, _ => by
    simp only [List.map_nil, offsOK, Nat.beq_eq] at ho
    cases xs with
    | nil => exact ⟨[], trivial, by simp [RepL, ho], rfl⟩
    | cons x l => simp at hl
  | f :: fs, o, xs, ho, hf, hl, hx => by
    cases xs with
    | nil => simp at hl
    | cons x xs =>
      simp only [List.map_cons, offsOK, Bool.and_eq_true, Nat.beq_eq] at ho
      simp only [List.all_cons, Bool.and_eq_true] at hf
      have h0 := hx 0 f rfl
      simp only [List.getElem?_cons_zero] at h0
      obtain ⟨ys, g1, g2, g3⟩ := ih _ _ _ x.1 x.2 hf.1 h0
      obtain ⟨yss, q1, q2, q3⟩ := fields_fit hT ih fs (o + (T.ty f.type).size) xs ho.2 hf.2 (by simpa using hl) fun i f h => by simpa using hx (i + 1) f (by simpa using h)
      refine ⟨ys :: yss, ⟨g3, q1⟩, ?_, by simp [g2, q3]⟩
      rw [List.flatten_cons]
      have e : cs.drop o = (cs.drop f.offset).take (P.cellsOf f.type) ++ cs.drop (o + (T.ty f.type).size) := by
        rw [ho.1, hT.cellsOf (fitTy_known hf.1), ← List.drop_drop]
        exact (List.take_append_drop _ _).symm
      rw [e]
      exact RepL.append g1 q2
theorem trod_fit (hT : TabOK P T) {W : World} : ∀ (m : Nat) (n t : Nat) (cs : List Value) (d : DataW H) (ps : List MemPlace), fitTy T m t = true → DataW.trod enc P W 0 (fun _ => true) true n t cs = some (d, ps) → fitsAt (snapE W) T W m t d cs
  | 0, n, t, cs, d, ps, hk, h => by cases hk
  | m + 1, n, t, cs, d, ps, hk, h => by
    simp only [fitTy, Bool.and_eq_true] at hk
    obtain ⟨hkn, hk⟩ := hk
    have hd := (hT t).desc
    have hsz := hT.cellsOf hkn
    unfold fitsAt Fit
    cases hh : (T.ty t).k with
    | int k =>
      rw [hh] at hd
      obtain ⟨z, rfl, e, hw⟩ := DataW.trod_int hd h
      cases e
      exact ⟨[.int k z], repL_one rfl rfl (by rw [Rep]), rfl, z, hw, rfl, rfl⟩
    | bool =>
      rw [hh] at hd
      obtain ⟨b, rfl, e⟩ := DataW.trod_bool hd h
      cases e
      exact ⟨[.bool b], repL_one rfl rfl (by rw [Rep]), rfl, b, rfl, rfl⟩
    | str =>
      rw [hh] at hd
      obtain ⟨s, rfl, e, hs⟩ := DataW.trod_string hd h
      cases e
      refine ⟨[.str s.data.toList], repL_one rfl rfl ?_, rfl, _, rfl, rfl⟩
      rw [Rep]
      refine ⟨rfl, ?_⟩
      have : s.data.toList.length = s.size := by rw [Array.length_toList]; rfl
      rw [this]
      exact hs
    | slice e =>
      rw [hh] at hd hk
      simp only [Bool.and_eq_true, Nat.beq_eq, Nat.blt_eq] at hk
      have hce := hT.cellsOf (fitTy_known hk.2)
      rcases DataW.trod_slice hd h with ⟨rfl, e1⟩ | ⟨a, len, cap, elems, rest, n', rfl, rfl, e1, _, hlc, hcap, hlen, hel, _, _⟩
      · cases e1
        refine ⟨[.lst .ro (T.ty e).size []], repL_one rfl rfl ?_, rfl, [], [], [], .inr ⟨rfl, rfl⟩, rfl, trivial⟩
        rw [Rep]
        exact ⟨none, 0, 0, rfl, rfl, Nat.le_refl _, Nat.zero_le _, fun h => absurd rfl h, fun h => (by cases h), fun q h => (by cases h)⟩
      · cases e1
        have hone : ∀ i x, elems[i]? = some x → a.spot = none ∧ ∃ y u, (∃ ys, Fit T m e x.1 ys ∧ ElemOf (T.ty e) y ys) ∧ y.flat = true ∧ Rep (snapE W) y u ∧ u.cells.size = (T.ty e).size ∧ ∀ j, j < (T.ty e).size → W.cell? ⟨a.block, a.off + i * (T.ty e).size + j, none⟩ = u.cells[j]? := by
          intro i x hx
          have hi : i < len := by rw [← hlen]; exact (List.getElem?_eq_some_iff.1 hx).1
          have h1 := hel i hi
          rw [hx, hce] at h1
          simp only [Option.bind_eq_some_iff] at h1
          obtain ⟨ecs, hc1, hc2⟩ := h1
          obtain ⟨_, hcl, hcg⟩ := World.cells?_some hc1
          have hsp : (a.add (i * (T.ty e).size)).spot = none := by
            have h2 := hcg 0 hk.1.2
            have e0 : (a.add (i * (T.ty e).size)).add 0 = a.add (i * (T.ty e).size) := by simp [Addr.add]
            rw [e0, List.getElem?_eq_getElem (by omega)] at h2
            unfold World.cell? at h2
            cases hs : (a.add (i * (T.ty e).size)).spot with
            | none => rfl
            | some z => rw [hs] at h2; split at h2 <;> simp at h2
          obtain ⟨ys, g1, g2, g3⟩ := trod_fit hT m n' e ecs x.1 x.2 hk.2 hc2
          obtain ⟨y, u, q1, q2, q3, q4⟩ := elem_rep (td := T.ty e) g1 g2 (fun ha => by rw [hcl, ← hce]; exact size_cells hT hk.2 ha)
          have ha0 : a.spot = none := by
            -- the first element's place
            have hx0 := hel 0 (by omega)
            rw [Nat.zero_mul] at hx0
            have e0 : a.add 0 = a := by simp [Addr.add]
            rw [e0, hce] at hx0
            have hsome : (elems[0]?).isSome = true := by
              rw [List.getElem?_eq_getElem (by omega)]; rfl
            rw [← hx0] at hsome
            cases hc : W.cells? 0 a (T.ty e).size with
            | none => rw [hc] at hsome; cases hsome
            | some cs0 =>
              obtain ⟨_, hcl0, hcg0⟩ := World.cells?_some hc
              have h2 := hcg0 0 hk.1.2
              rw [e0, List.getElem?_eq_getElem (by omega)] at h2
              unfold World.cell? at h2
              cases hs : a.spot with
              | none => rfl
              | some z => rw [hs] at h2; split at h2 <;> simp at h2
          refine ⟨ha0, y, u, ⟨ys, g3, q1⟩, q2, q3, by rw [← Array.length_toList, q4, hcl], fun j hj => ?_⟩
          have h5 := hcg j hj
          have e3 : (a.add (i * (T.ty e).size)).add j = ⟨a.block, a.off + i * (T.ty e).size + j, none⟩ := by
            obtain ⟨b0, o0, s0⟩ := a
            simp only at ha0
            subst ha0
            unfold Addr.add
            split <;> split <;> simp_all [Nat.add_assoc]
          rw [e3] at h5
          rw [h5, ← q4]
          simp
        obtain ⟨l, hl⟩ := each_of (R := fun (p : (DataW H × List MemPlace) × Nat) y => ∃ u, (∃ ys, Fit T m e p.1.1 ys ∧ ElemOf (T.ty e) y ys) ∧ y.flat = true ∧ Rep (snapE W) y u ∧ u.cells.size = (T.ty e).size ∧ ∀ j, j < (T.ty e).size → W.cell? ⟨a.block, a.off + p.2 * (T.ty e).size + j, none⟩ = u.cells[j]?) elems.zipIdx (by
          intro i p hp
          rw [List.getElem?_zipIdx] at hp
          cases hx : elems[i]? with
          | none => rw [hx] at hp; cases hp
          | some x =>
            rw [hx] at hp
            simp only [Option.map_some, Option.some.injEq, Nat.zero_add] at hp
            obtain ⟨_, y, u, h1⟩ := hone i x hx
            subst hp
            exact ⟨y, u, h1⟩)
        have hll : len = l.length := by rw [← hl.length, List.length_zipIdx, hlen]
        have hget : ∀ (i : Nat) (y : AV), l[i]? = some y → ∃ x, elems[i]? = some x ∧ ∃ u, (∃ ys, Fit T m e x.1 ys ∧ ElemOf (T.ty e) y ys) ∧ y.flat = true ∧ Rep (snapE W) y u ∧ u.cells.size = (T.ty e).size ∧ ∀ j, j < (T.ty e).size → W.cell? ⟨a.block, a.off + i * (T.ty e).size + j, none⟩ = u.cells[j]? := by
          intro i y hy
          obtain ⟨p, hp, hr⟩ := hl.get i y hy
          rw [List.getElem?_zipIdx] at hp
          cases hx : elems[i]? with
          | none => rw [hx] at hp; cases hp
          | some x =>
            rw [hx] at hp
            simp only [Option.map_some, Option.some.injEq, Nat.zero_add] at hp
            subst hp
            exact ⟨x, rfl, hr⟩
        refine ⟨[.lst .ro (T.ty e).size l], repL_one rfl rfl ?_, rfl, elems.map (·.1), rest.map (·.1), l, .inl rfl, rfl, ?_⟩
        · rw [Rep]
          refine ⟨some a, len, cap, rfl, hll, hlc, hcap, fun hne => ?_, fun h => (by cases h), fun q h => (by cases h)⟩
          have hpos : 0 < l.length := by
            cases l with
            | nil => exact absurd rfl hne
            | cons _ _ => simp
          obtain ⟨x0, hx0, _⟩ := hget 0 l[0] (List.getElem?_eq_getElem hpos)
          have ha0 := (hone 0 x0 hx0).1
          refine ⟨a.block, a.off, ?_, ?_⟩
          · obtain ⟨b0, o0, s0⟩ := a
            simp only at ha0
            subst ha0
            rfl
          · refine RepE.of_get fun i y hy => ?_
            obtain ⟨x, hx, u, _, h2, h3, h4, h5⟩ := hget i y hy
            exact ⟨h2, u, h3, h4, h5⟩
        · refine Each.mk (by rw [List.length_map, hlen, hll]) fun i d y h1 h2 => ?_
          obtain ⟨x, hx, u, h3, _⟩ := hget i y h2
          rw [List.getElem?_map, hx] at h1
          cases h1
          exact h3
    | struct fs =>
      rw [hh] at hk
      simp only [Bool.and_eq_true] at hk
      obtain ⟨fields, hu, hfs⟩ := hT.struct hh
      obtain ⟨xs, n', rfl, e, hcl, hxl, hx⟩ := DataW.trod_struct hu h
      cases e
      subst hfs
      have hcl' : cs.length = (T.ty t).size := by rw [hcl, hsz]
      rw [← hcl'] at hk
      obtain ⟨yss, q1, q2, q3⟩ := fields_fit hT (enc := enc) (W := W) (m := m) (n := n') (cs := cs) (fun n t cs d ps h1 h2 => trod_fit hT m n t cs d ps h1 h2) fields.toList 0 xs hk.1 (by simpa using hk.2) (by simpa using hxl) (fun i f hf => hx i f (by simpa using hf))
      exact ⟨yss.flatten, by simpa using q2, q3, xs.map (·.1), yss, rfl, rfl, q1⟩
    | array len e => rw [hh] at hk; cases hk
    | ptr e => rw [hh] at hk; cases hk
    | fn => rw [hh] at hk; cases hk
    | other => rw [hh] at hk; cases hk
end Go.Proofs.Ythmocicjocjdoaa.V
