/- Contracts of forms. -/
import Derived.Test.YthehhlaomiifnaaC7
set_option linter.unusedVariables false
set_option linter.unusedSimpArgs false
namespace Go.Proofs.Ythehhlaomiifnaa.V
open Go
theorem drop_c {α : Type} {l r : List α} {i : Nat} {a : α} (h : l.drop i = a :: r) : i < l.length ∧ l[i]? = some a ∧ l.drop (i + 1) = r := by
  have hlt : i < l.length := by
    rcases Nat.lt_or_ge i l.length with h' | h'
    · exact h'
    · rw [List.drop_eq_nil_of_le h'] at h; cases h
  rw [List.drop_eq_getElem_cons hlt] at h
  injection h with h1 h2
  exact ⟨hlt, by rw [List.getElem?_eq_getElem hlt, h1], h2⟩
theorem i64_succ {i : Nat} (h : i < 9223372036854775807) : IntKind.i64.wrap ((i : Int) + 1) = ((i + 1 : Nat) : Int) := by rw [wrap_i64 _ (by omega) (by omega)]; omega
theorem wdS_le (k : Nat) : ∀ n, n < 256 ^ k → wdS n ≤ k := by
  induction k with
  | zero => intro n h; simp at h; subst h; rw [wdS]; simp
  | succ k ih =>
    intro n h
    rw [wdS]
    split
    · omega
    · have := ih (n / 256) (by rw [Nat.div_lt_iff_lt_mul (by omega)]; rw [Nat.pow_succ] at h; exact h)
      omega
theorem sizeS_rng (f : Fld) : 0 ≤ sizeS f ∧ sizeS f ≤ 33 := by
  unfold sizeS
  split
  · rename_i h
    have r := rgt_rng h
    split
    · rename_i k; have := r.2.2.2.2.2.2.2.2.2.1 k; omega
    · have := wdS_le 6 (hiS f - loS f).toNat (by have : (256 : Nat) ^ 6 = 281474976710656 := by decide
                                                 omega)
      omega
  · omega
theorem longS_rng : ∀ (l : List Fld), 0 ≤ longS l ∧ longS l ≤ 33 * l.length
  | [] => by simp [longS]
  | f :: l => by
    have h1 := sizeS_rng f
    have h2 := longS_rng l
    simp only [longS, List.map_cons, List.sum_cons, List.length_cons] at h2 ⊢
    omega
theorem longS_cons (f : Fld) (l : List Fld) : longS (f :: l) = sizeS f + longS l := by simp [longS]
theorem c_sLongL (l : List Fld) (hl : l.length ≤ 140737488355328) : ∀ (r : List Fld) (i : Nat) (n : Int), l.drop i = r → 0 ≤ n → n ≤ 33 * i →
    ltbl E0 46 0 3 [.int .i64 n, fldsV l, .int .i64 l.length, .int .i64 i] [] = some (1, [.int .i64 (n + longS r)], []) := by
  intro r
  induction r with
  | nil =>
    intro i n hr h0 h1
    have h : l.length ≤ i := by simpa using hr
    refine t_sLongL _ _ _ _ ?_
    have : ¬ ((i : Int) < l.length) := by omega
    simp [s_sLongL, this, longS]
  | cons f r ih =>
    intro i n hr h0 h1
    obtain ⟨hlt, hget, hr2⟩ := drop_c hr
    have hs := sizeS_rng f
    have h2 : (i : Int) < l.length := by omega
    have e1 := i64_succ (i := i) (by omega)
    have e2 : IntKind.i64.wrap (n + sizeS f) = n + sizeS f := wrap_i64 _ (by omega) (by omega)
    have h := ih (i + 1) (n + sizeS f) hr2 (by omega) (by omega)
    have c := c_fSize f
    refine t_sLongL _ _ _ _ ?_
    rw [longS_cons, ← Int.add_assoc, ← h]
    simp only [s_sLongL, h2, decide_true, cond_true, OA_chk, Int.natCast_nonneg, nthE, Int.toNat_natCast, List.getElem?_map, hget, Option.map_some, u_asA, u_asC, u_asI, u_asN, OA_callx, c, Option.bind_some, e1, e2]
theorem c_sLong (f : Frm) (h : f.fields.length ≤ 140737488355328) : tbl E0 46 [frmV f] [] = some ([.int .i64 (longS f.fields)], []) :=
  t_sLong f (by
    have e := c_sLongL f.fields h f.fields 0 0 rfl (by omega) (by omega)
    simp only [Int.natCast_zero, Int.zero_add] at e
    simp [s_sLong, e])
theorem c_yLongL (f : Frm) (hl : f.fields.length ≤ 140737488355328) : ∀ (r : List Fld) (i : Nat) (n : Int), f.fields.drop i = r → 0 ≤ n → n ≤ 33 * i →
    ltbl E0 47 0 3 [.int .i64 n, .int .i64 i] [[.int .i64 f.id, fldsV f.fields]] = some (1, [.int .i64 (n + longS r)], []) := by
  intro r
  induction r with
  | nil =>
    intro i n hr h0 h1
    have h : f.fields.length ≤ i := by simpa using hr
    refine t_yLongL _ _ _ ?_
    have : ¬ ((i : Int) < f.fields.length) := by omega
    simp [s_yLongL, this, longS]
  | cons x r ih =>
    intro i n hr h0 h1
    obtain ⟨hlt, hget, hr2⟩ := drop_c hr
    have hs := sizeS_rng x
    have h2 : (i : Int) < f.fields.length := by omega
    have e1 := i64_succ (i := i) (by omega)
    have e2 : IntKind.i64.wrap (n + sizeS x) = n + sizeS x := wrap_i64 _ (by omega) (by omega)
    have h := ih (i + 1) (n + sizeS x) hr2 (by omega) (by omega)
    have c := c_ySize x
    refine t_yLongL _ _ _ ?_
    rw [longS_cons, ← Int.add_assoc, ← h]
    simp only [s_yLongL, OA_asm, List.length_map, h2, decide_true, cond_true, OA_chk, Int.natCast_nonneg, nthE, Int.toNat_natCast, List.getElem?_map, hget, Option.map_some, u_asA, u_asC, u_asI, u_asN, OA_callx, c, Option.bind_some, e1, e2]
theorem c_yLong (f : Frm) (h : f.fields.length ≤ 140737488355328) : tbl E0 47 [frmV f] [] = some ([.int .i64 (longS f.fields)], []) :=
  t_yLong f (by
    have e := c_yLongL f h f.fields 0 0 rfl (by omega) (by omega)
    simp only [Int.natCast_zero, Int.zero_add] at e
    simp [s_yLong, e])
/-! Where a field is. -/
def atS (l : List Fld) (id : Int) : Int := firstS (fun f : Fld => f.id == id) l
def fromS {α : Type} (p : α → Bool) (i : Nat) (l : List α) : LR := match l.findIdx? p with | some j => (0, [.int .i64 ((i + j : Nat) : Int)], []) | none => (1, [], [])
theorem fromS_nil {α : Type} (p : α → Bool) (i : Nat) : fromS p i [] = (1, [], []) := rfl
theorem fromS_cons {α : Type} (p : α → Bool) (i : Nat) (a : α) (l : List α) : fromS p i (a :: l) = if p a then (0, [.int .i64 (i : Int)], []) else fromS p (i + 1) l := by
  unfold fromS
  rw [List.findIdx?_cons]
  cases p a with
  | true => simp
  | false =>
    simp only [Bool.false_eq_true, if_false]
    cases l.findIdx? p with
    | none => rfl
    | some j => simp [Nat.add_assoc, Nat.add_comm 1 j]
theorem c_sAt1 (f : Fld) (id : Int) : tbl E0 105 [fldV f, .rp [.int .i64 id] 0] [] = some ([.bool (f.id == id)], []) := t_sAt1 f id (by simp [s_sAt1])
theorem c_IndexFuncL (l : List Fld) (id : Int) (hl : l.length ≤ 140737488355328) : ∀ (r : List Fld) (i : Nat), l.drop i = r →
    ltbl E0 104 0 2 [fldsV l, .clo 105 [.rp [.int .i64 id] 0], .int .i64 l.length, .int .i64 i] [] = some (fromS (fun f : Fld => f.id == id) i r) := by
  intro r
  induction r with
  | nil =>
    intro i hr
    have h : l.length ≤ i := by simpa using hr
    refine t_IndexFuncL _ _ _ _ ?_
    have : ¬ ((i : Int) < l.length) := by omega
    simp [s_IndexFuncL, this, fromS_nil]
  | cons f r ih =>
    intro i hr
    obtain ⟨hlt, hget, hr2⟩ := drop_c hr
    have h2 : (i : Int) < l.length := by omega
    have e1 := i64_succ (i := i) (by omega)
    have h := ih (i + 1) hr2
    have c := c_sAt1 f id
    refine t_IndexFuncL _ _ _ _ ?_
    rw [fromS_cons]
    simp only [s_IndexFuncL, h2, decide_true, cond_true, OA_chk, Int.natCast_nonneg, nthE, Int.toNat_natCast, List.getElem?_map, hget, Option.map_some, u_asA, u_asC, u_asI, u_asB, u_asN, OA_callx, c, Option.bind_some, e1, h]
    cases f.id == id <;> rfl
theorem c_sAt (f : Frm) (id : Int) (h : f.fields.length ≤ 140737488355328) : tbl E0 48 [frmV f, .int .i64 id] [] = some ([.int .i64 (atS f.fields id)], []) :=
  t_sAt f id (by
    have e : tbl E0 104 [fldsV f.fields, .clo 105 [.rp [.int .i64 id] 0]] [] = some ([.int .i64 (atS f.fields id)], []) := t_IndexFunc f.fields id (by
      have e := c_IndexFuncL f.fields id h f.fields 0 rfl
      simp only [Int.natCast_zero] at e
      simp only [s_IndexFunc, OA_asm, OA_loop, List.length_map, e, Option.bind_some, fromS, atS, firstS]
      cases f.fields.findIdx? (fun f : Fld => f.id == id) <;> simp)
    simp [s_sAt, e])
theorem c_yAtL (f : Frm) (id : Int) (hl : f.fields.length ≤ 140737488355328) : ∀ (r : List Fld) (i : Nat), f.fields.drop i = r →
    ltbl E0 49 0 2 [.int .i64 id, .int .i64 i] [[.int .i64 f.id, fldsV f.fields]] = some (fromS (fun f : Fld => f.id == id) i r) := by
  intro r
  induction r with
  | nil =>
    intro i hr
    have h : f.fields.length ≤ i := by simpa using hr
    refine t_yAtL _ _ _ ?_
    have : ¬ ((i : Int) < f.fields.length) := by omega
    simp [s_yAtL, this, fromS_nil]
  | cons x r ih =>
    intro i hr
    obtain ⟨hlt, hget, hr2⟩ := drop_c hr
    have h2 : (i : Int) < f.fields.length := by omega
    have e1 := i64_succ (i := i) (by omega)
    have h := ih (i + 1) hr2
    refine t_yAtL _ _ _ ?_
    rw [fromS_cons]
    simp only [s_yAtL, OA_asm, List.length_map, h2, decide_true, cond_true, OA_chk, Int.natCast_nonneg, nthE, Int.toNat_natCast, List.getElem?_map, hget, Option.map_some, u_asA, u_asC, u_asI, u_asB, u_asN, e1, h]
    cases x.id == id <;> rfl
theorem c_yAt (f : Frm) (id : Int) (h : f.fields.length ≤ 140737488355328) : tbl E0 49 [frmV f, .int .i64 id] [] = some ([.int .i64 (atS f.fields id)], []) :=
  t_yAt f id (by
    have e := c_yAtL f id h f.fields 0 rfl
    simp only [Int.natCast_zero] at e
    simp only [s_yAt, OA_chk, cond_true, OA_loop, e, Option.bind_some, fromS, atS, firstS]
    cases f.fields.findIdx? (fun f : Fld => f.id == id) <;> simp)
/-! May a form be? -/
theorem setAt_bool (s : List Bool) (k : Nat) (b : Bool) : setAt (s.map AV.bool) k [AV.bool b] = (s.set k b).map AV.bool := by
  simp [setAt, List.map_set]
theorem all_flat_bool (s : List Bool) : (s.map AV.bool).all AV.flat1 = true := by
  simp [List.all_map, Function.comp_def, AV.flat1]
def freshS : List Bool → List Fld → Bool
  | _, [] => true
  | s, f :: l => rgtS f && !((s[f.id.toNat]?).getD false) && freshS (s.set f.id.toNat true) l
theorem c_sFineL (l : List Fld) (hl : l.length ≤ 140737488355328) : ∀ (r : List Fld) (i : Nat) (s : List Bool), l.drop i = r → s.length = 256 →
    ltbl E0 44 0 5 [fldsV l, .int .i64 l.length, .int .i64 i] [s.map AV.bool] = some (if freshS s r then (1, [], []) else (0, [.bool false], [])) := by
  intro r
  induction r with
  | nil =>
    intro i s hr hs
    have h : l.length ≤ i := by simpa using hr
    refine t_sFineL _ _ _ _ ?_
    have : ¬ ((i : Int) < l.length) := by omega
    simp [s_sFineL, this, freshS]
  | cons f r ih =>
    intro i s hr hs
    obtain ⟨hlt, hget, hr2⟩ := drop_c hr
    have h2 : (i : Int) < l.length := by omega
    have e1 := i64_succ (i := i) (by omega)
    have h := ih (i + 1) (s.set f.id.toNat true) hr2 (by simpa using hs)
    have c := c_fRight f
    refine t_sFineL _ _ _ _ ?_
    simp only [s_sFineL, h2, decide_true, cond_true, OA_chk, Int.natCast_nonneg, nthE, Int.toNat_natCast, List.getElem?_map, hget, Option.map_some, u_asA, u_asC, u_asI, u_asB, u_asN, OA_callx, OA_join, c, Option.bind_some, e1, freshS]
    by_cases hg : rgtS f = true
    · have rr := rgt_rng hg
      have hk : f.id.toNat < s.length := by omega
      have g : s[f.id.toNat]? = some s[f.id.toNat] := List.getElem?_eq_getElem hk
      have a1 : 0 ≤ f.id := rr.1
      have a2 : f.id < ((256 : Nat) : Int) := by omega
      have a3 : 0 + f.id.toNat * 1 = f.id.toNat := by omega
      have a4 : (f.id.toNat + 1).ble (List.map AV.bool s).length = true := by rw [Nat.ble_eq, List.length_map]; omega
      simp only [hg, a1, a2, a3, a4, decide_true, Bool.and_self, cond_true, g, Option.map_some, u_asB, Bool.not_true, cond_false, Option.bind_some, Tok.untok_tok, setAt_bool, all_flat_bool, h, Option.getD_some, Bool.true_and]
      by_cases hb : s[f.id.toNat] = true
      · simp [hb]
      · have hb : s[f.id.toNat] = false := by simpa using hb
        simp [hb]
    · have hg : rgtS f = false := by simpa using hg
      simp [hg]
/-- What is fresh under marks: no number of it is marked, and none comes twice. -/
theorem freshS_iff : ∀ (l : List Fld) (s : List Bool), s.length = 256 → (freshS s l = true ↔ (∀ f ∈ l, rgtS f = true ∧ s[f.id.toNat]? = some false) ∧ nodupI (l.map Fld.id) = true)
  | [], s, _ => by simp [freshS, nodupI]
  | f :: l, s, hs => by
    have ih := freshS_iff l (s.set f.id.toNat true) (by simpa using hs)
    simp only [freshS, Bool.and_eq_true, ih, List.map_cons, nodupI, Bool.not_eq_true', List.mem_cons, forall_eq_or_imp]
    have key : rgtS f = true → ((s[f.id.toNat]?).getD false = false ↔ s[f.id.toNat]? = some false) := by
      intro hg
      have rr := rgt_rng hg
      have hk : f.id.toNat < s.length := by omega
      rw [List.getElem?_eq_getElem hk]
      simp
    have key2 : rgtS f = true → ∀ g, rgtS g = true → ((s.set f.id.toNat true)[g.id.toNat]? = some false ↔ (s[g.id.toNat]? = some false ∧ g.id ≠ f.id)) := by
      intro hg g hgg
      have r1 := rgt_rng hg
      have r2 := rgt_rng hgg
      rw [List.getElem?_set]
      by_cases e : f.id.toNat = g.id.toNat
      · have e' : g.id = f.id := by omega
        rw [if_pos e, if_pos (by omega)]
        simp [e']
      · have e' : g.id ≠ f.id := by omega
        rw [if_neg e]
        simp [e']
    constructor
    · rintro ⟨⟨h1, h2⟩, h3, h4⟩
      refine ⟨⟨⟨h1, (key h1).1 h2⟩, fun g hg => ⟨(h3 g hg).1, ((key2 h1 g (h3 g hg).1).1 (h3 g hg).2).1⟩⟩, ?_, h4⟩
      simp only [List.any_map, List.any_eq_false, Function.comp_apply, beq_iff_eq]
      intro g hg
      exact ((key2 h1 g (h3 g hg).1).1 (h3 g hg).2).2
    · rintro ⟨⟨⟨h1, h2⟩, h3⟩, h4, h5⟩
      refine ⟨⟨h1, (key h1).2 h2⟩, fun g hg => ⟨(h3 g hg).1, (key2 h1 g (h3 g hg).1).2 ⟨(h3 g hg).2, ?_⟩⟩, h5⟩
      simp only [List.any_map, List.any_eq_false, Function.comp_apply, beq_iff_eq] at h4
      exact h4 g hg
theorem freshS_0 (l : List Fld) : freshS (List.replicate 256 false) l = (l.all rgtS && nodupI (l.map Fld.id)) := by
  rw [Bool.eq_iff_iff, freshS_iff _ _ List.length_replicate]
  simp only [Bool.and_eq_true, List.all_eq_true]
  constructor
  · rintro ⟨h1, h2⟩; exact ⟨fun f hf => (h1 f hf).1, h2⟩
  · rintro ⟨h1, h2⟩
    refine ⟨fun f hf => ⟨h1 f hf, ?_⟩, h2⟩
    have r := rgt_rng (h1 f hf)
    rw [List.getElem?_replicate, if_pos (by omega)]
set_option maxRecDepth 20000 in
theorem bools256 : (List.replicate 256 false).map AV.bool = [.bool false, .bool false, .bool false, .bool false, .bool false, .bool false, .bool false, .bool false, .bool false, .bool false, .bool false, .bool false, .bool false, .bool false, .bool false, .bool false, .bool false, .bool false, .bool false, .bool false, .bool false, .bool false, .bool false, .bool false, .bool false, .bool false, .bool false, .bool false, .bool false, .bool false, .bool false, .bool false, .bool false, .bool false, .bool false, .bool false, .bool false, .bool false, .bool false, .bool false, .bool false, .bool false, .bool false, .bool false, .bool false, .bool false, .bool false, .bool false, .bool false, .bool false, .bool false, .bool false, .bool false, .bool false, .bool false, .bool false, .bool false, .bool false, .bool false, .bool false, .bool false, .bool false, .bool false, .bool false, .bool false, .bool false, .bool false, .bool false, .bool false, .bool false, .bool false, .bool false, .bool false, .bool false, .bool false, .bool false, .bool false, .bool false, .bool false, .bool false, .bool false, .bool false, .bool false, .bool false, .bool false, .bool false, .bool false, .bool false, .bool false, .bool false, .bool false, .bool false, .bool false, .bool false, .bool false, .bool false, .bool false, .bool false, .bool false, .bool false, .bool false, .bool false, .bool false, .bool false, .bool false, .bool false, .bool false, .bool false, .bool false, .bool false, .bool false, .bool false, .bool false, .bool false, .bool false, .bool false, .bool false, .bool false, .bool false, .bool false, .bool false, .bool false, .bool false, .bool false, .bool false, .bool false, .bool false, .bool false, .bool false, .bool false, .bool false, .bool false, .bool false, .bool false, .bool false, .bool false, .bool false, .bool false, .bool false, .bool false, .bool false, .bool false, .bool false, .bool false, .bool false, .bool false, .bool false, .bool false, .bool false, .bool false, .bool false, .bool false, .bool false, .bool false, .bool false, .bool false, .bool false, .bool false, .bool false, .bool false, .bool false, .bool false, .bool false, .bool false, .bool false, .bool false, .bool false, .bool false, .bool false, .bool false, .bool false, .bool false, .bool false, .bool false, .bool false, .bool false, .bool false, .bool false, .bool false, .bool false, .bool false, .bool false, .bool false, .bool false, .bool false, .bool false, .bool false, .bool false, .bool false, .bool false, .bool false, .bool false, .bool false, .bool false, .bool false, .bool false, .bool false, .bool false, .bool false, .bool false, .bool false, .bool false, .bool false, .bool false, .bool false, .bool false, .bool false, .bool false, .bool false, .bool false, .bool false, .bool false, .bool false, .bool false, .bool false, .bool false, .bool false, .bool false, .bool false, .bool false, .bool false, .bool false, .bool false, .bool false, .bool false, .bool false, .bool false, .bool false, .bool false, .bool false, .bool false, .bool false, .bool false, .bool false, .bool false, .bool false, .bool false, .bool false, .bool false, .bool false, .bool false, .bool false, .bool false, .bool false, .bool false, .bool false, .bool false, .bool false, .bool false, .bool false, .bool false, .bool false, .bool false, .bool false, .bool false, .bool false] := rfl
set_option maxRecDepth 20000 in
theorem c_sFine (f : Frm) (h : f.fields.length ≤ 140737488355328) : tbl E0 44 [frmV f] [] = some ([.bool (fineS f)], []) :=
  t_sFine f (by
    have e := c_sFineL f.fields h f.fields 0 (List.replicate 256 false) rfl List.length_replicate
    simp only [Int.natCast_zero, freshS_0] at e
    rw [bools256] at e
    have c := c_sLong f h
    simp only [s_sFine, OA_chk, cond_true, OA_join, OA_asm, List.length_map, OA_callx, c, Option.bind_some, u_asC, u_asI, u_asB, u_asN, OA_loop, e]
    unfold fineS
    by_cases a1 : f.id < 0
    · have : ¬ (0 ≤ f.id) := by omega
      simp [a1, this]
    · by_cases a2 : f.id > 200
      · have : ¬ (f.id ≤ 200) := by omega
        simp [a1, a2, this]
      · by_cases a3 : (f.fields.length : Int) < 1
        · have : ¬ (1 ≤ f.fields.length) := by omega
          simp [a1, a2, a3, this]
        · by_cases a4 : (f.fields.length : Int) > 8
          · have : ¬ (f.fields.length ≤ 8) := by omega
            simp [a1, a2, a3, a4, this]
          · by_cases a5 : longS f.fields > 64
            · have : ¬ (longS f.fields ≤ 64) := by omega
              simp [a1, a2, a3, a4, a5, this]
            · have b1 : 0 ≤ f.id ∧ f.id ≤ 200 := by omega
              have b2 : 1 ≤ f.fields.length ∧ f.fields.length ≤ 8 := by omega
              have b3 : longS f.fields ≤ 64 := by omega
              simp only [a1, a2, a3, a4, a5, b1, b2, b3, decide_true, decide_false, cond_false, Option.bind_some, Tok.untok_tok, Bool.true_and, and_self]
              cases (f.fields.all rgtS && nodupI (f.fields.map Fld.id)) <;> simp)
/-- Each stands where its number is first found. -/
def idxS (l : List Fld) : Nat → List Fld → Bool
  | _, [] => true
  | i, x :: r => rgtS x && decide (atS l x.id = i) && idxS l (i + 1) r
theorem atS_app (p r : List Fld) (x : Fld) : atS (p ++ x :: r) x.id = p.length ↔ ∀ f ∈ p, f.id ≠ x.id := by
  unfold atS firstS
  constructor
  · intro h f hf e
    have h1 : (p ++ x :: r).findIdx? (fun f : Fld => f.id == x.id) = (p.findIdx? (fun f : Fld => f.id == x.id)).or _ := List.findIdx?_append
    cases h2 : p.findIdx? (fun f : Fld => f.id == x.id) with
    | none =>
      rw [List.findIdx?_eq_none_iff] at h2
      have := h2 f hf
      simp [e] at this
    | some j =>
      rw [h1, h2] at h
      obtain ⟨hj, _⟩ := List.findIdx?_eq_some_iff_getElem.1 h2
      simp only [Option.some_or] at h
      omega
  · intro h
    have h2 : p.findIdx? (fun f : Fld => f.id == x.id) = none := by
      rw [List.findIdx?_eq_none_iff]
      intro f hf
      simpa using h f hf
    rw [List.findIdx?_append, h2, List.findIdx?_cons]
    simp
theorem idxS_iff : ∀ (r p : List Fld), idxS (p ++ r) p.length r = true ↔ (∀ x ∈ r, rgtS x = true ∧ ∀ f ∈ p, f.id ≠ x.id) ∧ nodupI (r.map Fld.id) = true
  | [], p => by simp [idxS, nodupI]
  | x :: r, p => by
    have ih := idxS_iff r (p ++ [x])
    simp only [List.append_assoc, List.singleton_append, List.length_append, List.length_singleton] at ih
    simp only [idxS, Bool.and_eq_true, ih, decide_eq_true_eq, atS_app, List.map_cons, nodupI, List.mem_cons, forall_eq_or_imp, Bool.not_eq_true', List.any_map, List.any_eq_false, Function.comp_apply, beq_iff_eq, List.mem_append, List.not_mem_nil, or_false]
    constructor
    · rintro ⟨⟨h1, h2⟩, h3, h4⟩
      refine ⟨⟨⟨h1, h2⟩, fun y hy => ⟨(h3 y hy).1, fun f hf => (h3 y hy).2 f (Or.inl hf)⟩⟩, fun y hy e => (h3 y hy).2 x (Or.inr rfl) e.symm, h4⟩
    · rintro ⟨⟨⟨h1, h2⟩, h3⟩, h4, h5⟩
      refine ⟨⟨h1, h2⟩, fun y hy => ⟨(h3 y hy).1, ?_⟩, h5⟩
      rintro f (hf | rfl)
      · exact (h3 y hy).2 f hf
      · exact fun e => h4 y hy e.symm
theorem idxS_0 (l : List Fld) : idxS l 0 l = (l.all rgtS && nodupI (l.map Fld.id)) := by
  rw [Bool.eq_iff_iff]
  have := idxS_iff l []
  simp only [List.nil_append, List.length_nil] at this
  rw [this]
  simp
theorem c_yFineL (f : Frm) (hl : f.fields.length ≤ 140737488355328) : ∀ (r : List Fld) (i : Nat), f.fields.drop i = r →
    ltbl E0 45 0 4 [.int .i64 i] [[.int .i64 f.id, fldsV f.fields]] = some (if idxS f.fields i r then (1, [], [[.int .i64 f.id, fldsV f.fields]]) else (0, [.bool false], [])) := by
  intro r
  induction r with
  | nil =>
    intro i hr
    have h : f.fields.length ≤ i := by simpa using hr
    refine t_yFineL _ _ ?_
    have : ¬ ((i : Int) < f.fields.length) := by omega
    simp [s_yFineL, this, idxS]
  | cons x r ih =>
    intro i hr
    obtain ⟨hlt, hget, hr2⟩ := drop_c hr
    have h2 : (i : Int) < f.fields.length := by omega
    have e1 := i64_succ (i := i) (by omega)
    have h := ih (i + 1) hr2
    have c := c_yRight x
    have c2 := c_yAt f x.id hl
    refine t_yFineL _ _ ?_
    simp only [s_yFineL, OA_asm, List.length_map, h2, decide_true, cond_true, OA_chk, Int.natCast_nonneg, nthE, Int.toNat_natCast, List.getElem?_map, hget, Option.map_some, u_asA, u_asC, u_asI, u_asB, u_asN, OA_callx, c, c2, Option.bind_some, e1, h, idxS]
    by_cases hg : rgtS x = true
    · by_cases ha : atS f.fields x.id = i
      · simp [hg, ha]
      · simp [hg, ha]
    · have hg : rgtS x = false := by simpa using hg
      simp [hg]
theorem c_yFine (f : Frm) (h : f.fields.length ≤ 140737488355328) : tbl E0 45 [frmV f] [] = some ([.bool (fineS f)], []) :=
  t_yFine f (by
    have e := c_yFineL f h f.fields 0 rfl
    simp only [Int.natCast_zero, idxS_0] at e
    have c := c_yLong f h
    simp only [s_yFine, OA_chk, cond_true, OA_join, OA_asm, List.length_map, OA_callx, c, Option.bind_some, u_asC, u_asI, u_asB, u_asL, u_asN, OA_loop, e]
    unfold fineS
    by_cases a1 : f.id < 0
    · have : ¬ (0 ≤ f.id) := by omega
      simp [a1, this]
    · by_cases a2 : f.id > 200
      · have : ¬ (f.id ≤ 200) := by omega
        simp [a1, a2, this]
      · by_cases a3 : (f.fields.length : Int) < 1
        · have : ¬ (1 ≤ f.fields.length) := by omega
          simp [a1, a2, a3, this]
        · by_cases a4 : (f.fields.length : Int) > 8
          · have : ¬ (f.fields.length ≤ 8) := by omega
            simp [a1, a2, a3, a4, this]
          · have b1 : 0 ≤ f.id ∧ f.id ≤ 200 := by omega
            have b2 : 1 ≤ f.fields.length ∧ f.fields.length ≤ 8 := by omega
            simp only [a1, a2, a3, a4, b1, b2, decide_true, decide_false, cond_false, Option.bind_some, Tok.untok_tok, Bool.true_and, and_self]
            cases f.fields.all rgtS <;> cases nodupI (f.fields.map Fld.id) <;> simp [c])
end Go.Proofs.Ythehhlaomiifnaa.V
