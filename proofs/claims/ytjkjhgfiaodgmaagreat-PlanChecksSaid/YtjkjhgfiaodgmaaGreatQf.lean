/- The steps from any schema to any other one, by any links, or why there are none, are as the document says. -/
import Derived.Test.YtjkjhgfiaodgmaaGreatRows
import Derived.JoinedCond
import Derived.SizedLaws
import Derived.Test.YtjkjhgfiaodgmaaGreatQe
set_option linter.unusedVariables false
set_option linter.unusedSimpArgs false
namespace Go.Proofs.YtjkjhgfiaodgmaaGreat.V
open Go
theorem zx1 (l : List Int) (h : l.length ≤ 1000) : tbl E0 89 [intsV l] [] = some ([intsV l], []) := zve l (by
  have h2 : (0 + (l.map fun n => iV n).length) * 8 ≤ 211106232532992 := by rw [List.length_map]; omega
  cases l with
  | nil =>
    simp only [zd0, List.map_nil]
    exact z75 (fun b => by cases b <;> rfl)
  | cons a l =>
    simp only [zd0, List.map_cons] at h2 ⊢; have h3 := decide_eq_true h2; simp only [nilEq, List.map_cons, z9, h3, cond_false, cond_true]
    rfl)
def pownS (s : Sch) (x : Stp) : Fld × Int :=
  match formS s.forms x.form with
  | none => (fld0, 0)
  | some g => match g.fields[(atS g.fields x.field).toNat]? with
    | some f => if 0 ≤ atS g.fields x.field then (f, atS g.fields x.field) else (fld0, 0)
    | none => (fld0, 0)
theorem z11t {l : List Fld} {id : Int} : (∃ (k : Nat) (f : Fld), atS l id = (k : Int) ∧ l[k]? = some f) ∨ atS l id = -1 := by
  rcases z5d (p := fun f : Fld => f.id == id) (l := l) with ⟨j, g, q1, q2, q3⟩ | q1
  · exact .inl ⟨j, g, q1, q2⟩
  · exact .inr q1
theorem zzj (s : Sch) (x : Stp) (hs : Few s) : tbl E0 88 [schV s, stpV x] [] = some ([fldV (pownS s x).1, iV (pownS s x).2], []) := zyl s x (by
  have c1 := zog s x.form hs.sml; simp only [schV, frmsV] at c1
  rcases zhc s.forms x.form with ⟨j, g, h1, h2, h3⟩ | ⟨h1, h2⟩
  · rw [h1] at c1
    have c2 := c_sAt g x.field (by have := hs.2 g (List.mem_of_getElem? h3); omega)
    simp only [frmV, fldsV] at c1 c2; simp only [zfw, z9, cond_true, za, c1, c2, Option.bind_some, u_asC, u_asA, u_asI, u_asB, u_asL, u_asN, pownS, h1]
    rcases z11t (l := g.fields) (id := x.field) with ⟨k, f, q1, q2⟩ | q1
    · have q3 : (k : Int) ≥ 0 := by omega
      have q4 : (0 : Int) ≤ k := q3; simp only [q1, Int.toNat_natCast, q2, q3, q4, decide_true, cond_true, if_true, z9, nthE, List.getElem?_map, Option.map_some, u_asC, u_asA, u_asI, u_asN]
    · have q3 : ¬ ((-1 : Int) ≥ 0) := by omega
      have q4 : ¬ ((0 : Int) ≤ -1) := by omega
      simp only [q1, q3, q4, decide_false, cond_false, if_false]
      cases g.fields[(-1 : Int).toNat]? <;> rfl
  · rw [h1] at c1
    have c2 := c_sAt ⟨0, []⟩ x.field (by simp)
    have q : atS [] x.field = -1 := rfl
    have q3 : ¬ ((-1 : Int) ≥ 0) := by omega
    simp only [frmV, fldsV, List.map_nil, q] at c1 c2; simp only [zfw, z9, cond_true, za, c1, c2, Option.bind_some, u_asC, u_asA, u_asI, u_asB, u_asL, u_asN, pownS, h1, q3, decide_false, cond_false]
    rfl)
theorem z27 {s : Sch} {x : Stp} (h : (onS s x).2 = 0) (h9 : x.op ≠ 9) : ∃ (j : Nat) (g : Frm), findS s.forms x.form = (j : Int) ∧ s.forms[j]? = some g ∧ oldS s x = g.fields ∧ formS s.forms x.form = some g ∧ g.fields.length ≤ 8 := by
  obtain ⟨_, _, _, _, hs, h4, hr, hle⟩ := z3r h; obtain ⟨j, g, e1, e2, e3, e4, _⟩ := names0 h4 h9; refine ⟨j, g, e1, e2, e4, ?_, ((z3x hs).2 g (List.mem_of_getElem? e2)).1⟩
  rcases zhc s.forms x.form with ⟨j', g', h1, h2, h3⟩ | ⟨h1, h2⟩
  · have : j' = j := by omega
    subst this; rw [e2] at h3; injection h3 with h3; rw [h1, h3]
  · omega
theorem z7q {s : Sch} {x : Stp} (h : (onS s x).2 = 0) (h9 : x.op ≠ 9) {k : Nat} {f : Fld} (q1 : atS (oldS s x) x.field = (k : Int)) (q2 : (oldS s x)[k]? = some f) : pownS s x = (f, (k : Int)) := by
  obtain ⟨j, g, e1, e2, e3, e4, _⟩ := z27 h h9; rw [e3] at q1 q2
  have q4 : (0 : Int) ≤ k := by omega
  simp only [pownS, e4, q1, Int.toNat_natCast, q2, q4, if_true]
theorem zf6 {x : Stp} (h : tRightS x = true) (o : x.op = 9 ∨ x.op = 10) : x.field = 0 := by
  have h3 := congrArg Stp.field (z2x h).2.2
  rcases o with o | o <;> simpa [onlyS, hasS, usesS, o] using h3
theorem zgb {x : Stp} (h : tRightS x = true) (o : x.op = 5) : x.t.length ≤ 64 := by
  have h8 := z1h h 8 (by rw [o]; decide)
  simp [fitsS, o] at h8; simp only [apartS, Bool.and_eq_true, decide_eq_true_eq] at h8; exact h8.2.2
theorem ztm (s : Sch) (x : Stp) (hs : Few s) (hm : x.sml) (ho : x.ok) : tbl E0 62 [schV s, stpV x] [] = some ([stpV (invS s x).1, iV (invS s x).2], []) := zrs s x (by
  have c1 := c_gOn s x hs hm ho; simp only [schV, frmsV, stpV, stpC, intsV, fldsV] at c1
  by_cases h : (onS s x).2 = 0
  · have h' : ((onS s x).2 != 0) = false := by simp [h]
    have ei : invS s x = (backOf s x, 0) := by unfold invS; rw [if_pos h]
    obtain ⟨_, _, _, _, hsr, h4, hr, hle⟩ := z3r h; have c2 := zzj s x hs; simp only [schV, frmsV, stpV, stpC, intsV, fldsV] at c2; rw [ei]; simp only [zaa, z9, cond_true, za, c1, h', cond_false, Option.bind_some, u_asC, u_asA, u_asI, u_asL, u_asN]
    rcases z3c hr hle with o | o | o | o | o | o | o | o | o | o
    · have eb : backOf s x = ⟨21, x.form, x.f.id, 0, 0, 0, 0, fld0, 0, [], [], []⟩ := by simp [backOf, o]
      have b1 : (x.op == 1) = true := by rw [o]; rfl
      have w : IntKind.i64.wrap (x.op + 20) = 21 := by rw [o]; rfl
      rw [eb]; simp only [fldV, fldC] at c2; simp only [c2, b1, w, z9, cond_true, cond_false, za, zi, Option.bind_some, u_asC, u_asA, u_asI, u_asB, u_asL, zq, u_asS, u_asN, fld0, List.map_nil]; rfl
    · obtain ⟨k, f, q1, q2, q3, q4, q5, q6, q7⟩ := z16 h (by omega) (by omega) (by omega)
      have ep := z7q h (by omega) q1 q2
      have eb : backOf s x = ⟨22, x.form, 0, (k : Int), 0, 0, 0, f, x.n, x.s, [], []⟩ := by simp [backOf, o, q1, q5]
      have b1 : (x.op == 1) = false := by rw [o]; rfl
      have b2 : (x.op == 2) = true := by rw [o]; rfl
      have w : IntKind.i64.wrap (x.op + 20) = 22 := by rw [o]; rfl
      rw [ep] at c2; rw [eb]; simp only [fldV, fldC] at c2; simp only [c2, b1, b2, w, z9, cond_true, cond_false, za, zi, Option.bind_some, u_asC, u_asA, u_asI, u_asB, u_asL, zq, u_asS, u_asN, fld0, List.map_nil]; rfl
    · obtain ⟨k, f, q1, q2, q3, q4, q5, q6, q7⟩ := z16 h (by omega) (by omega) (by omega)
      have ep := z7q h (by omega) q1 q2
      have eb : backOf s x = ⟨23, x.form, x.field, 0, 0, 0, 0, f, 0, [], [], []⟩ := by simp [backOf, o, q1, q5]
      have b1 : (x.op == 1) = false := by rw [o]; rfl
      have b2 : (x.op == 2) = false := by rw [o]; rfl
      have b4 : (x.op == 4) = false := by rw [o]; rfl
      have b6 : (x.op == 6) = false := by rw [o]; rfl
      have b3 : (x.op == 3) = true := by rw [o]; rfl
      have w : IntKind.i64.wrap (x.op + 20) = 23 := by rw [o]; rfl
      rw [ep] at c2; rw [eb]; simp only [fldV, fldC] at c2; simp only [c2, b1, b2, b4, b6, b3, w, z9, cond_true, cond_false, za, zi, Option.bind_some, u_asC, u_asA, u_asI, u_asB, u_asL, zq, u_asS, u_asN, fld0, List.map_nil]; rfl
    · obtain ⟨k, f, q1, q2, q3, q4, q5, q6, q7⟩ := z16 h (by omega) (by omega) (by omega)
      have ep := z7q h (by omega) q1 q2
      have eb : backOf s x = ⟨24, x.form, x.field, 0, 0, x.a, x.b, f, 0, [], [], []⟩ := by simp [backOf, o, q1, q5]
      have b1 : (x.op == 1) = false := by rw [o]; rfl
      have b2 : (x.op == 2) = false := by rw [o]; rfl
      have b4 : (x.op == 4) = true := by rw [o]; rfl
      have w : IntKind.i64.wrap (x.op + 20) = 24 := by rw [o]; rfl
      rw [ep] at c2; rw [eb]; simp only [fldV, fldC] at c2; simp only [c2, b1, b2, b4, w, z9, cond_true, cond_false, za, zi, Option.bind_some, u_asC, u_asA, u_asI, u_asB, u_asL, zq, u_asS, u_asN, fld0, List.map_nil]; rfl
    · have eb : backOf s x = ⟨25, x.form, x.field, 0, 0, 0, 0, fld0, 0, [], x.t, []⟩ := by simp [backOf, o]
      have b1 : (x.op == 1) = false := by rw [o]; rfl
      have b2 : (x.op == 2) = false := by rw [o]; rfl
      have b4 : (x.op == 4) = false := by rw [o]; rfl
      have b6 : (x.op == 6) = false := by rw [o]; rfl
      have b3 : (x.op == 3) = false := by rw [o]; rfl
      have b5 : (x.op == 5) = true := by rw [o]; rfl
      have w : IntKind.i64.wrap (x.op + 20) = 25 := by rw [o]; rfl
      rw [eb]
      have c3 := zx1 x.t (by have := zgb hr o; omega)
      simp only [intsV] at c3; simp only [fldV, fldC] at c2; simp only [c2, b1, b2, b4, b6, b3, b5, w, z9, cond_true, cond_false, za, zi, Option.bind_some, u_asC, u_asA, u_asI, u_asB, u_asL, zq, u_asS, u_asN, fld0, List.map_nil, c3]; rfl
    · obtain ⟨k, f, q1, q2, q3, q4, q5, q6, q7⟩ := z16 h (by omega) (by omega) (by omega)
      have ep := z7q h (by omega) q1 q2
      have eb : backOf s x = ⟨26, x.form, x.field, 0, x.to, x.a, 0, f, 0, [], [], []⟩ := by simp [backOf, o, q1, q5]
      have b1 : (x.op == 1) = false := by rw [o]; rfl
      have b2 : (x.op == 2) = false := by rw [o]; rfl
      have b4 : (x.op == 4) = false := by rw [o]; rfl
      have b6 : (x.op == 6) = true := by rw [o]; rfl
      have w : IntKind.i64.wrap (x.op + 20) = 26 := by rw [o]; rfl
      rw [ep] at c2; rw [eb]; simp only [fldV, fldC] at c2; simp only [c2, b1, b2, b4, b6, w, z9, cond_true, cond_false, za, zi, Option.bind_some, u_asC, u_asA, u_asI, u_asB, u_asL, zq, u_asS, u_asN, fld0, List.map_nil]; rfl
    · obtain ⟨k, f, q1, q2, q3, q4, q5, q6, q7⟩ := z16 h (by omega) (by omega) (by omega)
      have ep := z7q h (by omega) q1 q2
      have eb : backOf s x = ⟨27, x.form, x.field, (k : Int), 0, 0, 0, fld0, 0, [], [], []⟩ := by simp [backOf, o, q1]
      have b1 : (x.op == 1) = false := by rw [o]; rfl
      have b2 : (x.op == 2) = false := by rw [o]; rfl
      have b4 : (x.op == 4) = false := by rw [o]; rfl
      have b6 : (x.op == 6) = false := by rw [o]; rfl
      have b3 : (x.op == 3) = false := by rw [o]; rfl
      have b5 : (x.op == 5) = false := by rw [o]; rfl
      have b7 : (x.op == 7) = true := by rw [o]; rfl
      have w : IntKind.i64.wrap (x.op + 20) = 27 := by rw [o]; rfl
      rw [ep] at c2; rw [eb]; simp only [fldV, fldC] at c2; simp only [c2, b1, b2, b4, b6, b3, b5, b7, w, z9, cond_true, cond_false, za, zi, Option.bind_some, u_asC, u_asA, u_asI, u_asB, u_asL, zq, u_asS, u_asN, fld0, List.map_nil]; rfl
    · have eb : backOf s x = ⟨28, x.form, x.to, 0, x.field, 0, 0, fld0, 0, [], [], []⟩ := by simp [backOf, o]
      have b1 : (x.op == 1) = false := by rw [o]; rfl
      have b2 : (x.op == 2) = false := by rw [o]; rfl
      have b4 : (x.op == 4) = false := by rw [o]; rfl
      have b6 : (x.op == 6) = false := by rw [o]; rfl
      have b3 : (x.op == 3) = false := by rw [o]; rfl
      have b5 : (x.op == 5) = false := by rw [o]; rfl
      have b7 : (x.op == 7) = false := by rw [o]; rfl
      have b8 : (x.op == 8) = true := by rw [o]; rfl
      have w : IntKind.i64.wrap (x.op + 20) = 28 := by rw [o]; rfl
      rw [eb]; simp only [fldV, fldC] at c2; simp only [c2, b1, b2, b4, b6, b3, b5, b7, b8, w, z9, cond_true, cond_false, za, zi, Option.bind_some, u_asC, u_asA, u_asI, u_asB, u_asL, zq, u_asS, u_asN, fld0, List.map_nil]; rfl
    · have eb : backOf s x = ⟨29, x.form, 0, 0, 0, 0, 0, fld0, 0, [], [], []⟩ := by simp [backOf, o]
      have b1 : (x.op == 1) = false := by rw [o]; rfl
      have b2 : (x.op == 2) = false := by rw [o]; rfl
      have b4 : (x.op == 4) = false := by rw [o]; rfl
      have b6 : (x.op == 6) = false := by rw [o]; rfl
      have b3 : (x.op == 3) = false := by rw [o]; rfl
      have b5 : (x.op == 5) = false := by rw [o]; rfl
      have b7 : (x.op == 7) = false := by rw [o]; rfl
      have b8 : (x.op == 8) = false := by rw [o]; rfl
      have b10 : (x.op == 10) = false := by rw [o]; rfl
      have w : IntKind.i64.wrap (x.op + 20) = 29 := by rw [o]; rfl
      rw [eb]
      have z0 := zf6 hr (by omega)
      simp only [fldV, fldC] at c2; simp only [c2, b1, b2, b4, b6, b3, b5, b7, b8, b10, w, z9, cond_true, cond_false, za, zi, Option.bind_some, u_asC, u_asA, u_asI, u_asB, u_asL, zq, u_asS, u_asN, fld0, List.map_nil]; rw [z0]; rfl
    · obtain ⟨j, g, e1, e2, e3, e4, e5⟩ := z27 h (by omega)
      have eb : backOf s x = ⟨30, x.form, 0, 0, 0, 0, 0, fld0, 0, [], [], g.fields⟩ := by simp [backOf, o, e3]
      have b1 : (x.op == 1) = false := by rw [o]; rfl
      have b2 : (x.op == 2) = false := by rw [o]; rfl
      have b4 : (x.op == 4) = false := by rw [o]; rfl
      have b6 : (x.op == 6) = false := by rw [o]; rfl
      have b3 : (x.op == 3) = false := by rw [o]; rfl
      have b5 : (x.op == 5) = false := by rw [o]; rfl
      have b7 : (x.op == 7) = false := by rw [o]; rfl
      have b8 : (x.op == 8) = false := by rw [o]; rfl
      have b10 : (x.op == 10) = true := by rw [o]; rfl
      have w : IntKind.i64.wrap (x.op + 20) = 30 := by rw [o]; rfl
      rw [eb]
      have z0 := zf6 hr (by omega)
      have c3 := zog s x.form hs.sml; rw [e4] at c3
      have c4 := z6d g.fields (by omega)
      have ff := z3b g.fields; simp only [schV, frmsV, frmV, fldsV, fldsU] at c3 c4; simp only [fldV, fldC] at c2; simp only [c2, b1, b2, b4, b6, b3, b5, b7, b8, b10, w, z9, cond_true, cond_false, za, zi, Option.bind_some, u_asC, u_asA, u_asI, u_asB, u_asL, zq, u_asS, u_asN, fld0, List.map_nil, c3, c4, ff]; rw [z0]; rfl
  · have h' := bne_t h
    have ei : invS s x = (stpN, (onS s x).2) := by unfold invS; rw [if_neg h]
    rw [ei]; simp only [zaa, z9, cond_true, za, c1, h', Option.bind_some, u_asC, u_asA, u_asI, u_asL, u_asN, stpN, fld0, stpV, stpC, intsV, fldsV, List.map_nil])
theorem ztn (s : Sch) (x : Stp) (hs : Few s) (hm : x.sml) : tbl E0 48 [schV s, stpV x] [] = some ([stpV (invS s x).1, iV (invS s x).2], []) := zrt s x (by
  have c1 := c_zOn s x hs hm; simp only [schV, frmsV, stpV, stpC, intsV, fldsV] at c1
  by_cases h : (onS s x).2 = 0
  · have h' : ((onS s x).2 != 0) = false := by simp [h]
    have ei : invS s x = (backOf s x, 0) := by unfold invS; rw [if_pos h]
    obtain ⟨_, _, _, _, hsr, h4, hr, hle⟩ := z3r h; rw [ei]; simp only [zab, z9, cond_true, za, c1, h', cond_false, Option.bind_some, u_asC, u_asA, u_asI, u_asL, u_asN]
    rcases z3c hr hle with o | o | o | o | o | o | o | o | o | o
    · obtain ⟨j, g, e1, e2, e3, e4, e5⟩ := z27 h (by omega)
      have c3 := z2m s x.form hs.sml; simp only [schV, frmsV, e1] at c3
      have eb : backOf s x = ⟨21, x.form, x.f.id, 0, 0, 0, 0, fld0, 0, [], [], []⟩ := by simp [backOf, o]
      have b9 : (x.op == 9) = false := by rw [o]; rfl
      have b10 : (x.op == 10) = false := by rw [o]; rfl
      have b1 : (x.op == 1) = true := by rw [o]; rfl
      rw [eb]; simp only [b9, b10, b1, z9, cond_true, cond_false, za, zi, Option.bind_some, u_asC, u_asA, u_asI, u_asB, u_asL, zq, u_asS, u_asN, fld0, List.map_nil, zx, zb, c3, nthE, Int.natCast_nonneg, decide_true, Int.toNat_natCast, List.getElem?_map, e2, Option.map_some, frmV, fldsV]; rfl
    · obtain ⟨k, f, q1, q2, q3, q4, q5, q6, q7⟩ := z16 h (by omega) (by omega) (by omega)
      obtain ⟨j, g, e1, e2, e3, e4, e5⟩ := z27 h (by omega)
      have c3 := z2m s x.form hs.sml; simp only [schV, frmsV, e1] at c3
      have c4 := c_yAt g x.field (by omega)
      have q8 := q1; have q9 := q2; rw [e3] at q8 q9; simp only [frmV, fldsV, q8] at c4
      have eb : backOf s x = ⟨22, x.form, 0, (k : Int), 0, 0, 0, f, x.n, x.s, [], []⟩ := by simp [backOf, o, q1, q5]
      have b9 : (x.op == 9) = false := by rw [o]; rfl
      have b10 : (x.op == 10) = false := by rw [o]; rfl
      have b1 : (x.op == 1) = false := by rw [o]; rfl
      have b2 : (x.op == 2) = true := by rw [o]; rfl
      rw [eb]; simp only [b9, b10, b1, b2, z9, cond_true, cond_false, za, zi, Option.bind_some, u_asC, u_asA, u_asI, u_asB, u_asL, zq, u_asS, u_asN, fld0, List.map_nil, zx, zb, c3, nthE, Int.natCast_nonneg, decide_true, Int.toNat_natCast, List.getElem?_map, e2, Option.map_some, frmV, fldsV, c4, q9, fldV, fldC]; rfl
    · obtain ⟨k, f, q1, q2, q3, q4, q5, q6, q7⟩ := z16 h (by omega) (by omega) (by omega)
      obtain ⟨j, g, e1, e2, e3, e4, e5⟩ := z27 h (by omega)
      have c3 := z2m s x.form hs.sml; simp only [schV, frmsV, e1] at c3
      have c4 := c_yAt g x.field (by omega)
      have q8 := q1; have q9 := q2; rw [e3] at q8 q9; simp only [frmV, fldsV, q8] at c4
      have eb : backOf s x = ⟨23, x.form, x.field, 0, 0, 0, 0, f, 0, [], [], []⟩ := by simp [backOf, o, q1, q5]
      have b9 : (x.op == 9) = false := by rw [o]; rfl
      have b10 : (x.op == 10) = false := by rw [o]; rfl
      have b1 : (x.op == 1) = false := by rw [o]; rfl
      have b2 : (x.op == 2) = false := by rw [o]; rfl
      have b3 : (x.op == 3) = true := by rw [o]; rfl
      rw [eb]; simp only [b9, b10, b1, b2, b3, z9, cond_true, cond_false, za, zi, Option.bind_some, u_asC, u_asA, u_asI, u_asB, u_asL, zq, u_asS, u_asN, fld0, List.map_nil, zx, zb, c3, nthE, Int.natCast_nonneg, decide_true, Int.toNat_natCast, List.getElem?_map, e2, Option.map_some, frmV, fldsV, c4, q9, fldV, fldC]; rfl
    · obtain ⟨k, f, q1, q2, q3, q4, q5, q6, q7⟩ := z16 h (by omega) (by omega) (by omega)
      obtain ⟨j, g, e1, e2, e3, e4, e5⟩ := z27 h (by omega)
      have c3 := z2m s x.form hs.sml; simp only [schV, frmsV, e1] at c3
      have c4 := c_yAt g x.field (by omega)
      have q8 := q1; have q9 := q2; rw [e3] at q8 q9; simp only [frmV, fldsV, q8] at c4
      have eb : backOf s x = ⟨24, x.form, x.field, 0, 0, x.a, x.b, f, 0, [], [], []⟩ := by simp [backOf, o, q1, q5]
      have b9 : (x.op == 9) = false := by rw [o]; rfl
      have b10 : (x.op == 10) = false := by rw [o]; rfl
      have b1 : (x.op == 1) = false := by rw [o]; rfl
      have b2 : (x.op == 2) = false := by rw [o]; rfl
      have b3 : (x.op == 3) = false := by rw [o]; rfl
      have b4 : (x.op == 4) = true := by rw [o]; rfl
      rw [eb]; simp only [b9, b10, b1, b2, b3, b4, z9, cond_true, cond_false, za, zi, Option.bind_some, u_asC, u_asA, u_asI, u_asB, u_asL, zq, u_asS, u_asN, fld0, List.map_nil, zx, zb, c3, nthE, Int.natCast_nonneg, decide_true, Int.toNat_natCast, List.getElem?_map, e2, Option.map_some, frmV, fldsV, c4, q9, fldV, fldC]; rfl
    · obtain ⟨k, f, q1, q2, q3, q4, q5, q6, q7⟩ := z16 h (by omega) (by omega) (by omega)
      obtain ⟨j, g, e1, e2, e3, e4, e5⟩ := z27 h (by omega)
      have c3 := z2m s x.form hs.sml; simp only [schV, frmsV, e1] at c3
      have c4 := c_yAt g x.field (by omega)
      have q8 := q1; have q9 := q2; rw [e3] at q8 q9; simp only [frmV, fldsV, q8] at c4
      have eb : backOf s x = ⟨25, x.form, x.field, 0, 0, 0, 0, fld0, 0, [], x.t, []⟩ := by simp [backOf, o]
      have b9 : (x.op == 9) = false := by rw [o]; rfl
      have b10 : (x.op == 10) = false := by rw [o]; rfl
      have b1 : (x.op == 1) = false := by rw [o]; rfl
      have b2 : (x.op == 2) = false := by rw [o]; rfl
      have b3 : (x.op == 3) = false := by rw [o]; rfl
      have b4 : (x.op == 4) = false := by rw [o]; rfl
      have b5 : (x.op == 5) = true := by rw [o]; rfl
      rw [eb]
      have n1 : (0 + (x.t.map fun n => iV n).length) * 8 ≤ 211106232532992 := by rw [List.length_map]; have := zgb hr o; omega
      simp only [b9, b10, b1, b2, b3, b4, b5, z9, cond_true, cond_false, za, zi, Option.bind_some, u_asC, u_asA, u_asI, u_asB, u_asL, zq, u_asS, u_asN, fld0, List.map_nil, zx, zb, c3, nthE, Int.natCast_nonneg, decide_true, Int.toNat_natCast, List.getElem?_map, e2, Option.map_some, frmV, fldsV, c4, q9, fldV, fldC, n1]; rfl
    · obtain ⟨k, f, q1, q2, q3, q4, q5, q6, q7⟩ := z16 h (by omega) (by omega) (by omega)
      obtain ⟨j, g, e1, e2, e3, e4, e5⟩ := z27 h (by omega)
      have c3 := z2m s x.form hs.sml; simp only [schV, frmsV, e1] at c3
      have c4 := c_yAt g x.field (by omega)
      have q8 := q1; have q9 := q2; rw [e3] at q8 q9; simp only [frmV, fldsV, q8] at c4
      have eb : backOf s x = ⟨26, x.form, x.field, 0, x.to, x.a, 0, f, 0, [], [], []⟩ := by simp [backOf, o, q1, q5]
      have b9 : (x.op == 9) = false := by rw [o]; rfl
      have b10 : (x.op == 10) = false := by rw [o]; rfl
      have b1 : (x.op == 1) = false := by rw [o]; rfl
      have b2 : (x.op == 2) = false := by rw [o]; rfl
      have b3 : (x.op == 3) = false := by rw [o]; rfl
      have b4 : (x.op == 4) = false := by rw [o]; rfl
      have b5 : (x.op == 5) = false := by rw [o]; rfl
      have b6 : (x.op == 6) = true := by rw [o]; rfl
      rw [eb]; simp only [b9, b10, b1, b2, b3, b4, b5, b6, z9, cond_true, cond_false, za, zi, Option.bind_some, u_asC, u_asA, u_asI, u_asB, u_asL, zq, u_asS, u_asN, fld0, List.map_nil, zx, zb, c3, nthE, Int.natCast_nonneg, decide_true, Int.toNat_natCast, List.getElem?_map, e2, Option.map_some, frmV, fldsV, c4, q9, fldV, fldC]; rfl
    · obtain ⟨k, f, q1, q2, q3, q4, q5, q6, q7⟩ := z16 h (by omega) (by omega) (by omega)
      obtain ⟨j, g, e1, e2, e3, e4, e5⟩ := z27 h (by omega)
      have c3 := z2m s x.form hs.sml; simp only [schV, frmsV, e1] at c3
      have c4 := c_yAt g x.field (by omega)
      have q8 := q1; have q9 := q2; rw [e3] at q8 q9; simp only [frmV, fldsV, q8] at c4
      have eb : backOf s x = ⟨27, x.form, x.field, (k : Int), 0, 0, 0, fld0, 0, [], [], []⟩ := by simp [backOf, o, q1]
      have b9 : (x.op == 9) = false := by rw [o]; rfl
      have b10 : (x.op == 10) = false := by rw [o]; rfl
      have b1 : (x.op == 1) = false := by rw [o]; rfl
      have b2 : (x.op == 2) = false := by rw [o]; rfl
      have b3 : (x.op == 3) = false := by rw [o]; rfl
      have b4 : (x.op == 4) = false := by rw [o]; rfl
      have b5 : (x.op == 5) = false := by rw [o]; rfl
      have b6 : (x.op == 6) = false := by rw [o]; rfl
      have b7 : (x.op == 7) = true := by rw [o]; rfl
      rw [eb]; simp only [b9, b10, b1, b2, b3, b4, b5, b6, b7, z9, cond_true, cond_false, za, zi, Option.bind_some, u_asC, u_asA, u_asI, u_asB, u_asL, zq, u_asS, u_asN, fld0, List.map_nil, zx, zb, c3, nthE, Int.natCast_nonneg, decide_true, Int.toNat_natCast, List.getElem?_map, e2, Option.map_some, frmV, fldsV, c4, q9, fldV, fldC]; rfl
    · obtain ⟨k, f, q1, q2, q3, q4, q5, q6, q7⟩ := z16 h (by omega) (by omega) (by omega)
      obtain ⟨j, g, e1, e2, e3, e4, e5⟩ := z27 h (by omega)
      have c3 := z2m s x.form hs.sml; simp only [schV, frmsV, e1] at c3
      have c4 := c_yAt g x.field (by omega)
      have q8 := q1; have q9 := q2; rw [e3] at q8 q9; simp only [frmV, fldsV, q8] at c4
      have eb : backOf s x = ⟨28, x.form, x.to, 0, x.field, 0, 0, fld0, 0, [], [], []⟩ := by simp [backOf, o]
      have b9 : (x.op == 9) = false := by rw [o]; rfl
      have b10 : (x.op == 10) = false := by rw [o]; rfl
      have b1 : (x.op == 1) = false := by rw [o]; rfl
      have b2 : (x.op == 2) = false := by rw [o]; rfl
      have b3 : (x.op == 3) = false := by rw [o]; rfl
      have b4 : (x.op == 4) = false := by rw [o]; rfl
      have b5 : (x.op == 5) = false := by rw [o]; rfl
      have b6 : (x.op == 6) = false := by rw [o]; rfl
      have b7 : (x.op == 7) = false := by rw [o]; rfl
      rw [eb]; simp only [b9, b10, b1, b2, b3, b4, b5, b6, b7, z9, cond_true, cond_false, za, zi, Option.bind_some, u_asC, u_asA, u_asI, u_asB, u_asL, zq, u_asS, u_asN, fld0, List.map_nil, zx, zb, c3, nthE, Int.natCast_nonneg, decide_true, Int.toNat_natCast, List.getElem?_map, e2, Option.map_some, frmV, fldsV, c4, q9, fldV, fldC]; rfl
    · have eb : backOf s x = ⟨29, x.form, 0, 0, 0, 0, 0, fld0, 0, [], [], []⟩ := by simp [backOf, o]
      have b9 : (x.op == 9) = true := by rw [o]; rfl
      rw [eb]; simp only [b9, z9, cond_true, cond_false, za, zi, Option.bind_some, u_asC, u_asA, u_asI, u_asB, u_asL, zq, u_asS, u_asN, fld0, List.map_nil, zx, zb]; rfl
    · obtain ⟨j, g, e1, e2, e3, e4, e5⟩ := z27 h (by omega)
      have c3 := z2m s x.form hs.sml; simp only [schV, frmsV, e1] at c3
      have eb : backOf s x = ⟨30, x.form, 0, 0, 0, 0, 0, fld0, 0, [], [], g.fields⟩ := by simp [backOf, o, e3]
      have b9 : (x.op == 9) = false := by rw [o]; rfl
      have b10 : (x.op == 10) = true := by rw [o]; rfl
      rw [eb]
      have n1 : (0 + (g.fields.map fldV).length) * 40 ≤ 211106232532992 := by rw [List.length_map]; omega
      simp only [b9, b10, z9, cond_true, cond_false, za, zi, Option.bind_some, u_asC, u_asA, u_asI, u_asB, u_asL, zq, u_asS, u_asN, fld0, List.map_nil, zx, zb, c3, nthE, Int.natCast_nonneg, decide_true, Int.toNat_natCast, List.getElem?_map, e2, Option.map_some, frmV, fldsV, n1]; rfl
  · have h' := bne_t h
    have ei : invS s x = (stpN, (onS s x).2) := by unfold invS; rw [if_neg h]
    rw [ei]; simp only [zab, z9, cond_true, za, c1, h', Option.bind_some, u_asC, u_asA, u_asI, u_asL, u_asN, stpN, fld0, stpV, stpC, intsV, fldsV, List.map_nil])
end Go.Proofs.YtjkjhgfiaodgmaaGreat.V
namespace Go.Proofs.YtjkjhgfiaodgmaaGreat.V
open Go
theorem zdj {x : Fld} (hx : x.ok) (hr : rgtS x = true) : (fldW x).length ≤ 50 := by
  have r := z1l hr; obtain ⟨_, ⟨_, _⟩, ⟨_, _⟩, ⟨_, _⟩, ⟨_, _⟩⟩ := hx
  have h1 : (cnt x.id.toNat).length ≤ 10 := zg (by omega)
  have h2 : (cnt x.kind.toNat).length ≤ 10 := zg (by omega)
  have h3 : (cnt (zz x.lo)).length ≤ 10 := zg (zz_lt (by omega) (by omega))
  have h4 : (cnt (zz x.hi)).length ≤ 10 := zg (zz_lt (by omega) (by omega))
  have h5 : (cnt x.most.toNat).length ≤ 10 := zg (by omega)
  unfold fldW; simp only [List.length_append]; omega
theorem z1o (b : List AV) (n e : Int) (hb : b.length + 10 ≤ 211106232532992) (h0 : 0 ≤ n) (hn : n ≤ 9223372036854775807) : tbl E0 59 [.ref 0 0, iV n] [(0, [.lst (.own (.E 0 0)) 1 b, iV e])] = some ([], [(0, [.lst (.own (.E 0 0)) 1 (b ++ encB (cnt n.toNat)), iV e])]) := by
  have c := z2v b n e hb hn
  rw [if_neg (by omega)] at c
  exact c
theorem p_Num (b : List AV) (n e : Int) (hb : b.length + 10 ≤ 211106232532992) (h : i64 n) : tbl E0 107 [.ref 0 0, iV n] [(0, [.lst (.own (.E 0 0)) 1 b, iV e])] = some ([], [(0, [.lst (.own (.E 0 0)) 1 (b ++ encB (cnt (zz n))), iV e])]) := zkq b n e hb h.1 h.2
theorem zz_l {n : Int} (h : i64 n) : (cnt (zz n)).length ≤ 10 := zg (zz_lt h.1 h.2)
theorem zb6 (b : List AV) (x : Fld) (e : Int) (hx : x.ok) (hr : rgtS x = true) (hb : b.length + 50 ≤ 211106232532992) : tbl E0 108 [.ref 0 0, fldV x] [(0, [.lst (.own (.E 0 0)) 1 b, iV e])] = some ([], [(0, [.lst (.own (.E 0 0)) 1 (b ++ encB (fldW x)), iV e])]) :=
  zl6 b x e (by
    have r := z1l hr; obtain ⟨_, ⟨_, _⟩, g1, g2, ⟨_, _⟩⟩ := hx
    have h1 : (cnt x.id.toNat).length ≤ 10 := zg (by omega)
    have h2 : (cnt x.kind.toNat).length ≤ 10 := zg (by omega)
    have h3 := zz_l g1; have h4 := zz_l g2
    have c1 := z1o b x.id e (by omega) (by omega) (by omega)
    have c2 := z1o (b ++ encB (cnt x.id.toNat)) x.kind e (by simp; omega) (by omega) (by omega)
    have c3 := p_Num (b ++ encB (cnt x.id.toNat) ++ encB (cnt x.kind.toNat)) x.lo e (by simp; omega) g1
    have c4 := p_Num (b ++ encB (cnt x.id.toNat) ++ encB (cnt x.kind.toNat) ++ encB (cnt (zz x.lo))) x.hi e (by simp; omega) g2
    have c5 := z1o (b ++ encB (cnt x.id.toNat) ++ encB (cnt x.kind.toNat) ++ encB (cnt (zz x.lo)) ++ encB (cnt (zz x.hi))) x.most e (by simp; omega) (by omega) (by omega)
    have eb : b ++ encB (fldW x) = b ++ encB (cnt x.id.toNat) ++ encB (cnt x.kind.toNat) ++ encB (cnt (zz x.lo)) ++ encB (cnt (zz x.hi)) ++ encB (cnt x.most.toNat) := by unfold fldW; simp only [zp, List.append_assoc]
    rw [eb]; simp only [zaq, z9, cond_true, zi, c1, c2, c3, c4, c5, u_asC, u_asI, zu, u_asN, Option.bind_some, nbeq, decide_true])
theorem zto (l : List Int) (hl : l.length ≤ 64) (hok : ∀ n ∈ l, 0 ≤ n ∧ n ≤ 1000) : ∀ (r : List Int) (i : Nat) (b : List AV) (e : Int), l.drop i = r → b.length + 10 * r.length + 10 ≤ 211106232532992 →
    ltbl E0 84 0 23 [intsV l, iV l.length, iV i] [[.lst (.own (.O 0 0)) 1 b, iV e]] = some (2, [], [[.lst (.own (.O 0 0)) 1 (b ++ encB (intsB r)), iV e]]) := by
  intro r
  induction r with
  | nil =>
    intro i b e hr hb
    have h : l.length ≤ i := by simpa using hr
    refine zhe _ _ _ _ _ ?_
    have : ¬ ((i : Int) < l.length) := by omega
    simp [zar, this, intsB, z2h]
  | cons n r ih =>
    intro i b e hr hb; obtain ⟨hlt, hget, hr2⟩ := zl hr
    have h2 : (i : Int) < l.length := by omega
    have e1 := zh (i := i) (by omega)
    obtain ⟨g1, g2⟩ := hok n (z11 hr)
    have hx : (cnt n.toNat).length ≤ 10 := zg (by omega)
    simp only [List.length_cons] at hb
    have h := ih (i + 1) (b ++ encB (cnt n.toNat)) e hr2 (by simp; omega)
    have c := z1o b n e (by omega) g1 (by omega)
    have eb : b ++ encB (intsB (n :: r)) = b ++ encB (cnt n.toNat) ++ encB (intsB r) := by simp [intsB, zp]
    refine zhe _ _ _ _ _ ?_; rw [eb, ← h]; simp only [zar, h2, decide_true, cond_true, z9, Int.natCast_nonneg, nthE, Int.toNat_natCast, List.getElem?_map, hget, Option.map_some, u_asC, u_asI, zu, u_asN, zi, c, Option.bind_some, nbeq, e1]
theorem ztp (l : List Fld) (hl : l.length ≤ 8) (hok : FldsOK l) : ∀ (r : List Fld) (i : Nat) (b : List AV) (e : Int), l.drop i = r → b.length + 50 * r.length + 50 ≤ 211106232532992 →
    ltbl E0 84 0 30 [fldsV l, iV l.length, iV i] [[.lst (.own (.O 0 0)) 1 b, iV e]] = some (4, [], [[.lst (.own (.O 0 0)) 1 (b ++ encB (fldsW r)), iV e]]) := by
  intro r
  induction r with
  | nil =>
    intro i b e hr hb
    have h : l.length ≤ i := by simpa using hr
    refine zhf _ _ _ _ _ ?_
    have : ¬ ((i : Int) < l.length) := by omega
    simp [zas, this, fldsW, z2h]
  | cons n r ih =>
    intro i b e hr hb; obtain ⟨hlt, hget, hr2⟩ := zl hr
    have h2 : (i : Int) < l.length := by omega
    have e1 := zh (i := i) (by omega)
    obtain ⟨g1, g2⟩ := hok n (z11 hr); have hx := zdj g1 g2; simp only [List.length_cons] at hb
    have h := ih (i + 1) (b ++ encB (fldW n)) e hr2 (by simp; omega)
    have c := zb6 b n e g1 g2 (by omega)
    have eb : b ++ encB (fldsW (n :: r)) = b ++ encB (fldW n) ++ encB (fldsW r) := by simp [fldsW, zp]
    refine zhf _ _ _ _ _ ?_; rw [eb, ← h]; simp only [zas, h2, decide_true, cond_true, z9, Int.natCast_nonneg, nthE, Int.toNat_natCast, List.getElem?_map, hget, Option.map_some, u_asA, u_asC, u_asI, zu, u_asN, zi, c, Option.bind_some, nbeq, e1]
theorem zi3 : ∀ (l : List Int), (∀ n ∈ l, 0 ≤ n ∧ n ≤ 1000) → (intsB l).length ≤ 10 * l.length
  | [], _ => by simp [intsB]
  | n :: l, h => by
    have h1 : (cnt n.toNat).length ≤ 10 := zg (by have := h n (by simp); omega)
    have h2 := zi3 l (fun g hg => h g (by simp [hg]))
    have e : intsB (n :: l) = cnt n.toNat ++ intsB l := by simp [intsB]
    rw [e, List.length_append, List.length_cons]; omega
theorem zi4 : ∀ (l : List Fld), FldsOK l → (fldsW l).length ≤ 50 * l.length
  | [], _ => by simp [fldsW]
  | n :: l, h => by
    have h1 := zdj (h n (by simp)).1 (h n (by simp)).2
    have h2 := zi4 l (fun g hg => h g (by simp [hg]))
    have e : fldsW (n :: l) = fldW n ++ fldsW l := by simp [fldsW]
    rw [e, List.length_append, List.length_cons]; omega
theorem zi5 {x : Stp} (hx : x.ok) (h : fitsS x 9 = true) : x.fields.length ≤ 8 ∧ FldsOK x.fields := by
  obtain ⟨h1, h2⟩ := zsb h; exact ⟨h1, fun f hf => ⟨hx.2.2.2.2.2.2.2.2.2.2 f hf, h2 f hf⟩⟩
theorem cnt10 {n : Int} (h : n ≤ 9223372036854775807) : (cnt n.toNat).length ≤ 10 := zg (by omega)
theorem zlx {x : Stp} (hx : x.ok) {p : Int} (hp : Fits x p) : (prtB x p).length ≤ 650 := by
  have hx0 := hx; obtain ⟨h1, h2, h3, h4, h5, h6, h7, h8, h9, h10, h11⟩ := hx; have hp0 := hp; obtain ⟨hr, hf, hb⟩ := hp
  rcases z4v hr with rfl | rfl | rfl | rfl | rfl | rfl | rfl | rfl | rfl | rfl <;> simp only [prtB, if_true, Int.reduceEq, if_false, List.length_append]
  · have := cnt10 h2.2; omega
  · have := cnt10 h3.2; omega
  · have := cnt10 h4.2; omega
  · have := cnt10 h5.2; omega
  · have := cnt10 h6.2; omega
  · have := zz_l h6; have := zz_l h7; omega
  · simp [fitsS] at hf
    have := zdj h8 hf.1; omega
  · have := zl1 hf
    have := zz_l h9
    have : (cnt x.s.length).length ≤ 10 := zg (by omega)
    omega
  · obtain ⟨g1, g2⟩ := zl2 hp0
    have := zi3 x.t g1
    have : (cnt x.t.length).length ≤ 10 := zg (by omega)
    omega
  · obtain ⟨g1, g2⟩ := zi5 hx0 hf
    have := zi4 x.fields g2
    have : (cnt x.fields.length).length ≤ 10 := zg (by omega)
    omega
theorem zx2 (b : List AV) (x : Stp) (p e : Int) (hx : x.ok) (hp : Fits x p) (hb : b.length + 700 ≤ 211106232532992) : tbl E0 84 [.ref 0 0, stpV x, iV p] [(0, [.lst (.own (.E 0 0)) 1 b, iV e])] = some ([], [(0, [.lst (.own (.E 0 0)) 1 (b ++ encB (prtB x p)), iV e])]) := by
  have hx0 := hx; obtain ⟨h1, h2, h3, h4, h5, h6, h7, h8, h9, h10, h11⟩ := hx; have hp0 := hp; obtain ⟨hr, hf, hbb⟩ := hp; refine zw8 b x p e ?_
  rcases z4v hr with rfl | rfl | rfl | rfl | rfl | rfl | rfl | rfl | rfl | rfl <;> simp only [prtB, if_true, Int.reduceEq, if_false, zl5, z9, cond_true, cond_false, zi, zb, ze, Int.reduceBEq, beq_self_eq_true]
  · simp [fitsS, inS] at hf
    have c := z1o b x.form e (by omega) (by omega) h2.2
    simp only [c, u_asC, u_asI, zu, u_asN, Option.bind_some, nbeq, decide_true, cond_true]
  · simp [fitsS, inS] at hf
    have c := z1o b x.field e (by omega) (by omega) h3.2
    simp only [c, u_asC, u_asI, zu, u_asN, Option.bind_some, nbeq, decide_true, cond_true]
  · simp [fitsS, inS] at hf
    have c := z1o b x.place e (by omega) (by omega) h4.2
    simp only [c, u_asC, u_asI, zu, u_asN, Option.bind_some, nbeq, decide_true, cond_true]
  · simp [fitsS, inS] at hf
    have c := z1o b x.to e (by omega) (by omega) h5.2
    simp only [c, u_asC, u_asI, zu, u_asN, Option.bind_some, nbeq, decide_true, cond_true]
  · simp [fitsS, inS] at hf
    have c := z1o b x.a e (by omega) (by split at hf <;> omega) h6.2
    simp only [c, u_asC, u_asI, zu, u_asN, Option.bind_some, nbeq, decide_true, cond_true]
  · have g1 := zz_l h6
    have c := p_Num b x.a e (by omega) h6
    have c2 := p_Num (b ++ encB (cnt (zz x.a))) x.b e (by simp; omega) h7
    simp only [c, c2, u_asC, u_asI, zu, u_asN, Option.bind_some, nbeq, decide_true, cond_true, zi, zp, List.append_assoc]
  · simp [fitsS] at hf
    have c := zb6 b x.f e h8 hf.1 (by omega)
    simp only [c, u_asC, u_asI, zu, u_asN, Option.bind_some, nbeq, decide_true, cond_true]
  · have g1 := zz_l h9
    have g2 := zl1 hf
    have c := p_Num b x.n e (by omega) h9
    have c2 := zfy (b ++ encB (cnt (zz x.n))) x.s e (by simp; omega)
    simp only [penA] at c2; simp only [c, c2, u_asC, u_asI, zu, u_asN, Option.bind_some, nbeq, decide_true, cond_true, zi, zp, List.append_assoc]
  · obtain ⟨g1, g2⟩ := zl2 hp0
    have g3 : (cnt x.t.length).length ≤ 10 := zg (by omega)
    have c := z1o b x.t.length e (by omega) (by omega) (by omega)
    have c2 := zto x.t g2 g1 x.t 0 (b ++ encB (cnt x.t.length)) e rfl (by simp; omega)
    simp only [Int.toNat_natCast, Int.natCast_zero] at c c2; simp only [List.length_map, c, c2, u_asC, u_asI, u_asL, zu, u_asN, Option.bind_some, nbeq, decide_true, cond_true, cond_false, zi, zb, ze, zp, List.append_assoc, zv]
  · obtain ⟨g1, g2⟩ := zi5 hx0 hf
    have g3 : (cnt x.fields.length).length ≤ 10 := zg (by omega)
    have c := z1o b x.fields.length e (by omega) (by omega) (by omega)
    have c2 := ztp x.fields g1 g2 x.fields 0 (b ++ encB (cnt x.fields.length)) e rfl (by simp; omega)
    simp only [Int.toNat_natCast, Int.natCast_zero] at c c2; simp only [List.length_map, c, c2, u_asC, u_asI, u_asL, zu, u_asN, Option.bind_some, nbeq, decide_true, cond_true, cond_false, zi, zb, ze, zp, List.append_assoc, zv]
end Go.Proofs.YtjkjhgfiaodgmaaGreat.V
namespace Go.Proofs.YtjkjhgfiaodgmaaGreat.V
open Go
theorem zf7 (x : Stp) (p : Int) (l : List Int) : prtsB x (p :: l) = prtB x p ++ prtsB x l := by simp [prtsB]
theorem zf8 (x : Stp) (l : List Stp) : stpsB (x :: l) = stpB x ++ stpsB l := by simp [stpsB]
theorem zi6 {x : Stp} (hx : x.ok) : ∀ (l : List Int), (∀ p ∈ l, Fits x p) → (prtsB x l).length ≤ 650 * l.length
  | [], _ => by simp [prtsB]
  | p :: l, h => by
    have h1 := zlx hx (h p (by simp))
    have h2 := zi6 hx l (fun g hg => h g (by simp [hg]))
    rw [zf7, List.length_append, List.length_cons]; omega
theorem zly {x : Stp} (hx : x.ok) (hr : tRightS x = true) : (stpB x).length ≤ 3300 := by
  obtain ⟨h1, h2, _⟩ := z2x hr; have h3 := zi6 hx _ h1; have h4 := z62 x.op; have h5 := zg1 h2
  have h6 : (cnt x.op.toNat).length ≤ 10 := zg (by omega)
  unfold stpB; rw [List.length_append]; omega
theorem zb7 : ∀ (l : List Stp), (∀ x ∈ l, x.ok ∧ tRightS x = true) → (stpsB l).length ≤ 3300 * l.length
  | [], _ => by simp [stpsB]
  | x :: l, h => by
    have h1 := zly (h x (by simp)).1 (h x (by simp)).2
    have h2 := zb7 l (fun g hg => h g (by simp [hg]))
    rw [zf8, List.length_append, List.length_cons]; omega
theorem ztq (l : List Stp) (x : Stp) (hx : x.ok) (u : List Int) (m i : Int) (hu : u.length ≤ 5) (hf : ∀ p ∈ u, Fits x p) : ∀ (r : List Int) (k : Nat) (b : List AV) (e : Int), u.drop k = r → b.length + 700 * r.length + 700 ≤ 211106232532992 →
    ltbl E0 57 0 12 [stpsV l, iV m, iV i, intsV u, iV u.length, iV k] [stpC x, [.lst (.own (.O 1012 0)) 1 b, iV e]] = some (3, [stpsV l, iV m, iV i], [[.lst (.own (.O 1012 0)) 1 (b ++ encB (prtsB x r)), iV e]]) := by
  intro r
  induction r with
  | nil =>
    intro k b e hr hb
    have h : u.length ≤ k := by simpa using hr
    refine zhh _ _ _ _ _ _ _ _ _ ?_
    have : ¬ ((k : Int) < u.length) := by omega
    simp [zau, this, prtsB, z2h]
  | cons p r ih =>
    intro k b e hr hb; obtain ⟨hlt, hget, hr2⟩ := zl hr
    have h2 : (k : Int) < u.length := by omega
    have e1 := zh (i := k) (by omega)
    have g1 := hf p (z11 hr); have hl := zlx hx g1; simp only [List.length_cons] at hb
    have h := ih (k + 1) (b ++ encB (prtB x p)) e hr2 (by simp; omega)
    have c := zx2 b x p e hx g1 (by omega)
    simp only [stpV, stpC, intsV, fldsV] at c h
    have eb : b ++ encB (prtsB x (p :: r)) = b ++ encB (prtB x p) ++ encB (prtsB x r) := by rw [zf7, zp, List.append_assoc]
    refine zhh _ _ _ _ _ _ _ _ _ ?_; rw [eb, ← h]; simp only [zau, h2, decide_true, cond_true, z9, Int.natCast_nonneg, nthE, Int.toNat_natCast, List.getElem?_map, hget, Option.map_some, u_asC, u_asI, zu, u_asN, zi, c, Option.bind_some, nbeq, e1]
theorem ztr (l : List Stp) (hl : l.length ≤ 40) (hok : ∀ x ∈ l, x.ok ∧ x.sml) : ∀ (r : List Stp) (i : Nat) (b : List AV) (e : Int), l.drop i = r → b.length + 4000 * r.length + 4000 ≤ 211106232532992 →
    ltbl E0 57 0 6 [stpsV l, iV l.length, iV i] [[.lst (.own (.O 1012 0)) 1 b, iV e]] = some (if r.all tRightS then (1, [], [[.lst (.own (.O 1012 0)) 1 (b ++ encB (stpsB r)), iV e]]) else (0, [.lst .ro 1 [], iV 2], [])) := by
  intro r
  induction r with
  | nil =>
    intro i b e hr hb
    have h : l.length ≤ i := by simpa using hr
    refine zhg _ _ _ _ _ ?_
    have : ¬ ((i : Int) < l.length) := by omega
    simp [zat, this, stpsB, z2h]
  | cons x r ih =>
    intro i b e hr hb; obtain ⟨hlt, hget, hr2⟩ := zl hr
    have h2 : (i : Int) < l.length := by omega
    have e1 := zh (i := i) (by omega)
    obtain ⟨x1, x2⟩ := hok x (z11 hr); have c0 := zlm x x1 x2; simp only [stpV, stpC, intsV, fldsV] at c0; refine zhg _ _ _ _ _ ?_; simp only [zat, zb, h2, decide_true, cond_true, z9, Int.natCast_nonneg, nthE, Int.toNat_natCast, List.getElem?_map, hget, Option.map_some, u_asA, u_asC, u_asI, u_asB, u_asS, u_asL, u_asN, za, c0, Option.bind_some]
    rcases bor (tRightS x) with hq | hq
    · obtain ⟨g1, g2, g3⟩ := z2x hq
      have g4 := zg1 g2; have hxl := zly x1 hq
      have h6 : (cnt x.op.toNat).length ≤ 10 := zg (by omega)
      simp only [List.length_cons] at hb
      have h := ih (i + 1) (b ++ encB (stpB x)) e hr2 (by simp; omega)
      have c1 := z1o b x.op e (by omega) (by omega) x1.1.2
      have c2 := zg5 x.op
      have k := ztq l x x1 (usesS x.op) (l.length : Int) (i : Int) (z62 _) g1 (usesS x.op) 0 (b ++ encB (cnt x.op.toNat)) e rfl (by have := z62 x.op; simp; omega)
      simp only [Int.natCast_zero, stpC, intsV, fldsV] at k
      have ek : b ++ encB (cnt x.op.toNat) ++ encB (prtsB x (usesS x.op)) = b ++ encB (stpB x) := by unfold stpB; simp only [zp, List.append_assoc]
      rw [ek] at k
      have eb : b ++ encB (stpsB (x :: r)) = b ++ encB (stpB x) ++ encB (stpsB r) := by rw [zf8, zp, List.append_assoc]
      simp only [hq, Bool.not_true, cond_false, zi, c1, u_asC, u_asI, u_asB, u_asL, zu, u_asN, Option.bind_some, za, c2, zb, ze, List.length_map, k, nbeq, decide_true, cond_true, zv, e1, List.all_cons, Bool.true_and, eb]; exact h
    · simp [hq]
theorem zlz (l : List Stp) (hok : ∀ x ∈ l, x.ok ∧ x.sml) : tbl E0 57 [stpsV l] [] = some ([.lst .ro 1 (if l.length ≤ 40 ∧ l.all tRightS = true then encB (lstB l) else []), iV (if 40 < l.length then 7 else if l.all tRightS = true then 0 else 2)], []) :=
  zw9 l (by
    by_cases hl : 40 < l.length
    · have h1 : (l.length : Int) > 40 := by omega
      have h2 : ¬ (l.length ≤ 40) := by omega
      simp [z8h, h1, h2, hl]
    · have h1 : ¬ ((l.length : Int) > 40) := by omega
      have hl2 : l.length ≤ 40 := by omega
      have h7 : (cnt l.length).length ≤ 10 := zg (by omega)
      have c1 := z1o [] l.length 0 (by simp) (by omega) (by omega)
      simp only [Int.toNat_natCast, List.nil_append] at c1
      have k := ztr l hl2 hok l 0 (encB (cnt l.length)) 0 rfl (by simp; omega)
      simp only [Int.natCast_zero, ← zp] at k
      rcases bor (l.all tRightS) with hq | hq
      · have hs := zb7 l (fun x hx => ⟨(hok x hx).1, List.all_eq_true.1 hq x hx⟩)
        have d := zfz (lstB l) 0 (by unfold lstB; rw [List.length_append]; omega)
        simp only [penV, penA, if_true] at d; simp only [hq, if_true] at k; have ek : cnt l.length ++ stpsB l = lstB l := rfl; rw [ek] at k; simp only [z8h, hq, hl, hl2, h1, zb, List.length_map, decide_true, decide_false, cond_true, cond_false, z9, u_asC, u_asI, u_asB, u_asL, zu, u_asN, z23, zi, za, ze, c_New, c1, k, d, Option.bind_some, nbeq, zv, if_true, if_false, and_self, Nat.one_ne_zero]
      · simp only [hq, Bool.false_eq_true, if_false] at k
        simp only [z8h, hq, hl, hl2, h1, zb, List.length_map, decide_true, decide_false, cond_true, cond_false, z9, u_asC, u_asI, u_asB, u_asL, zu, u_asN, z23, zi, za, ze, c_New, c1, k, Option.bind_some, nbeq, zv, if_false, Bool.false_eq_true, and_false])
end Go.Proofs.YtjkjhgfiaodgmaaGreat.V
namespace Go.Proofs.YtjkjhgfiaodgmaaGreat.V
open Go
theorem zn2 (l : List Stp) (hl : l.length ≤ 40) (hok : ∀ x ∈ l, x.sml) : ∀ (r : List Stp) (i : Nat), l.drop i = r →
    ltbl E0 32 0 4 [stpsV l, iV i] [] = some (if r.all tRightS then (1, [], []) else (0, [iV 2], [])) := by
  intro r
  induction r with
  | nil =>
    intro i hr
    have h : l.length ≤ i := by simpa using hr
    refine zc7 _ _ ?_
    have : ¬ ((i : Int) < l.length) := by omega
    simp [z76, this]
  | cons x r ih =>
    intro i hr; obtain ⟨hlt, hget, hr2⟩ := zl hr
    have h2 : (i : Int) < l.length := by omega
    have e1 := zh (i := i) (by omega)
    have c := zhx x (hok x (z11 hr)); rw [← zhd] at c; simp only [stpV, stpC, intsV, fldsV] at c; have h := ih (i + 1) hr2; refine zc7 _ _ ?_; simp only [z76, zb, List.length_map, h2, decide_true, cond_true, z9, Int.natCast_nonneg, nthE, Int.toNat_natCast, List.getElem?_map, hget, Option.map_some, u_asA, u_asB, u_asC, u_asI, u_asS, u_asL, zu, u_asN, za, c, Option.bind_some, e1, List.all_cons]
    rcases bor (tRightS x) with hq | hq
    · simp only [hq, Bool.not_true, cond_false, Bool.true_and]
      exact h
    · simp [hq]
theorem zf9 (l : List Stp) (hok : ∀ x ∈ l, x.sml) : tbl E0 32 [stpsV l] [] = some ([iV (if 40 < l.length then 7 else if l.all tRightS = true then 0 else 2)], []) :=
  zqd l (by
    by_cases hl : 40 < l.length
    · have h1 : (l.length : Int) > 40 := by omega
      simp [z8i, h1, hl]
    · have h1 : ¬ ((l.length : Int) > 40) := by omega
      have k := zn2 l (by omega) hok l 0 rfl
      simp only [Int.natCast_zero] at k; simp only [z8i, h1, hl, zb, List.length_map, decide_false, cond_false, ze, k, if_false]
      rcases bor (l.all tRightS) with hq | hq <;> simp [hq])
end Go.Proofs.YtjkjhgfiaodgmaaGreat.V
namespace Go.Proofs.YtjkjhgfiaodgmaaGreat.V
open Go
end Go.Proofs.YtjkjhgfiaodgmaaGreat.V
namespace Go.Proofs.YtjkjhgfiaodgmaaGreat.V
open Go
end Go.Proofs.YtjkjhgfiaodgmaaGreat.V
namespace Go.Proofs.YtjkjhgfiaodgmaaGreat.V
open Go
end Go.Proofs.YtjkjhgfiaodgmaaGreat.V
namespace Go.Proofs.YtjkjhgfiaodgmaaGreat.V
open Go
theorem zm0 (x y : List Stp) (hl : x.length ≤ 1000) (he : x.length = y.length) (hok : ∀ a ∈ x, a.sml) : ∀ (r r' : List Stp) (i : Nat), x.drop i = r → y.drop i = r' →
    ltbl E0 8 0 4 [stpsV x, stpsV y, iV i] [] = some (if r = r' then (1, [], []) else (0, [.bool false], [])) := by
  intro r
  induction r with
  | nil =>
    intro r' i hr hr'
    have h : x.length ≤ i := by simpa using hr
    have h3 : r' = [] := by rw [← hr', List.drop_eq_nil_iff]; omega
    have : ¬ ((i : Int) < x.length) := by omega
    subst h3
    exact zav _ _ _ (by simp [z63, this])
  | cons a r ih =>
    intro r' i hr hr'; obtain ⟨hlt, hget, hr2⟩ := zl hr
    have hlt' : i < y.length := by omega
    rw [List.drop_eq_getElem_cons hlt'] at hr'; subst hr'; have hg2 : y[i]? = some y[i] := List.getElem?_eq_getElem hlt'; generalize y[i] = g at *
    have h2 : (i : Int) < x.length := by omega
    have e1 := zh (i := i) (by omega)
    have h := ih _ (i + 1) hr2 rfl; have c := zlq a g (hok a (z11 hr)); simp only [stpV, stpC, intsV, fldsV] at c; refine zav _ _ _ ?_; simp only [z63, List.length_map, h2, Int.natCast_nonneg, nthE, Int.toNat_natCast, List.getElem?_map, hget, hg2, Option.map_some, zb, z9, zi, za, ze, zj, u_asA, u_asC, u_asI, u_asB, u_asS, u_asL, zu, u_asN, z23, Option.bind_some, nbeq, zv, decide_true, cond_true, cond_false, c, e1]
    by_cases e : a = g
    · simp only [e, decide_true, Bool.not_true, cond_false, h, List.cons.injEq, true_and]
    · simp [e]
theorem zn3 (x y : List Stp) (hl : x.length ≤ 1000) (hok : ∀ a ∈ x, a.sml) : tbl E0 8 [stpsV x, stpsV y] [] = some ([.bool (decide (x = y))], []) :=
  zn0 x y (by
    by_cases he : x.length = y.length
    · have k := zm0 x y hl he hok x y 0 rfl rfl
      simp only [Int.natCast_zero] at k
      have h' : ((x.length : Int) != (y.length : Int)) = false := by rw [he]; simp
      simp only [z77, List.length_map, zb, z9, zi, za, ze, zj, u_asA, u_asC, u_asI, u_asB, u_asS, u_asL, zu, u_asN, z23, Option.bind_some, nbeq, zv, decide_true, cond_true, cond_false, h', k]
      by_cases e2 : x = y <;> simp [e2]
    · have : ¬ (x = y) := fun e => he (by rw [e])
      have h' : ((x.length : Int) != (y.length : Int)) = true := bne_t (by omega)
      simp only [z77, List.length_map, zb, z9, zi, za, ze, zj, u_asA, u_asC, u_asI, u_asB, u_asS, u_asL, zu, u_asN, z23, Option.bind_some, nbeq, zv, decide_true, cond_true, cond_false, h']; simp [this])
theorem zib {l : List Stp} (h : greatT l = false) : l.length ≤ 60 ∧ ∀ x ∈ l, x.sml := by
  simp only [greatT, Bool.or_eq_false_iff, decide_eq_false_iff_not, List.any_eq_false] at h; obtain ⟨h1, h2⟩ := h
  rw [List.take_of_length_le (by omega)] at h1
  exact ⟨by omega, fun x hx => zwq (by simpa using h1 x hx)⟩
end Go.Proofs.YtjkjhgfiaodgmaaGreat.V
namespace Go.Proofs.YtjkjhgfiaodgmaaGreat.V
open Go
theorem zb8 {f : Fld} (h : rgtS f = true) : f.ok := by
  obtain ⟨id, kind, lo, hi, most⟩ := f; simp only [rgtS, Bool.and_eq_true, decide_eq_true_eq] at h; obtain ⟨h1, h2⟩ := h
  have h3 : i64 kind ∧ i64 lo ∧ i64 hi ∧ i64 most := by
    simp only [i64]
    split at h2
    · simp only [decide_eq_true_eq] at h2; omega
    · split at h2
      · simp only [decide_eq_true_eq] at h2; omega
      · split at h2
        · simp only [decide_eq_true_eq] at h2; omega
        · split at h2
          · simp only [decide_eq_true_eq] at h2; omega
          · cases h2
  exact ⟨⟨by show (-9223372036854775808 : Int) ≤ id; omega, by show id ≤ (9223372036854775807 : Int); omega⟩, h3⟩
theorem ok_mk {op form field place to a b n : Int} {f : Fld} {s : List UInt8} {t : List Int} {fs : List Fld} (h : i64 op ∧ i64 form ∧ i64 field ∧ i64 place ∧ i64 to ∧ i64 a ∧ i64 b ∧ i64 n) (hf : f.ok)
    (ht : (∀ n ∈ t, i64 n) ∧ t.length ≤ 1000) (hfs : (∀ f ∈ fs, f.ok) ∧ fs.length ≤ 1000) : (Stp.mk op form field place to a b f n s t fs).ok ∧ (Stp.mk op form field place to a b f n s t fs).sml := by
  obtain ⟨h1, h2, h3, h4, h5, h6, h7, h8⟩ := h; obtain ⟨t1, t2⟩ := ht; obtain ⟨f1, f2⟩ := hfs
  exact ⟨⟨h1, h2, h3, h4, h5, h6, h7, hf, h8, t1, f1⟩, ⟨by show t.length ≤ _; omega, by show fs.length ≤ _; omega⟩⟩
theorem zzl : fld0.ok := by
  refine ⟨⟨?_, ?_⟩, ⟨?_, ?_⟩, ⟨?_, ?_⟩, ⟨?_, ?_⟩, ⟨?_, ?_⟩⟩ <;> decide
theorem ztt {s : Sch} {x : Stp} (h : (onS s x).2 = 0) (hx : x.ok) : (backOf s x).ok ∧ (backOf s x).sml := by
  obtain ⟨i0, i1, i2, i3, i4, i5, i6, i7, i8, i9, iA⟩ := hx; obtain ⟨_, _, _, _, hsr, h4, hr, hle⟩ := z3r h; have zf := zzl; have i7' := i7.1
  rcases z3c hr hle with o | o | o | o | o | o | o | o | o | o
  · have eb : backOf s x = ⟨21, x.form, x.f.id, 0, 0, 0, 0, fld0, 0, [], [], []⟩ := by simp [backOf, o]
    rw [eb]
    exact ok_mk (by simp only [i64] at *; omega) zf ⟨by simp, by simp⟩ ⟨by simp, by simp⟩
  · obtain ⟨k, f, q1, q2, q3, q4, q5, q6, q7⟩ := z16 h (by omega) (by omega) (by omega)
    have eb : backOf s x = ⟨22, x.form, 0, (k : Int), 0, 0, 0, f, x.n, x.s, [], []⟩ := by simp [backOf, o, q1, q5]
    rw [eb]
    exact ok_mk (by simp only [i64] at *; omega) (zb8 q4) ⟨by simp, by simp⟩ ⟨by simp, by simp⟩
  · obtain ⟨k, f, q1, q2, q3, q4, q5, q6, q7⟩ := z16 h (by omega) (by omega) (by omega)
    have eb : backOf s x = ⟨23, x.form, x.field, 0, 0, 0, 0, f, 0, [], [], []⟩ := by simp [backOf, o, q1, q5]
    rw [eb]
    exact ok_mk (by simp only [i64] at *; omega) (zb8 q4) ⟨by simp, by simp⟩ ⟨by simp, by simp⟩
  · obtain ⟨k, f, q1, q2, q3, q4, q5, q6, q7⟩ := z16 h (by omega) (by omega) (by omega)
    have eb : backOf s x = ⟨24, x.form, x.field, 0, 0, x.a, x.b, f, 0, [], [], []⟩ := by simp [backOf, o, q1, q5]
    rw [eb]
    exact ok_mk (by simp only [i64] at *; omega) (zb8 q4) ⟨by simp, by simp⟩ ⟨by simp, by simp⟩
  · have eb : backOf s x = ⟨25, x.form, x.field, 0, 0, 0, 0, fld0, 0, [], x.t, []⟩ := by simp [backOf, o]
    rw [eb]
    exact ok_mk (by simp only [i64] at *; omega) zf ⟨i9, by have := zgb hr o; omega⟩ ⟨by simp, by simp⟩
  · obtain ⟨k, f, q1, q2, q3, q4, q5, q6, q7⟩ := z16 h (by omega) (by omega) (by omega)
    have eb : backOf s x = ⟨26, x.form, x.field, 0, x.to, x.a, 0, f, 0, [], [], []⟩ := by simp [backOf, o, q1, q5]
    rw [eb]
    exact ok_mk (by simp only [i64] at *; omega) (zb8 q4) ⟨by simp, by simp⟩ ⟨by simp, by simp⟩
  · obtain ⟨k, f, q1, q2, q3, q4, q5, q6, q7⟩ := z16 h (by omega) (by omega) (by omega)
    have eb : backOf s x = ⟨27, x.form, x.field, (k : Int), 0, 0, 0, fld0, 0, [], [], []⟩ := by simp [backOf, o, q1]
    rw [eb]
    exact ok_mk (by simp only [i64] at *; omega) zf ⟨by simp, by simp⟩ ⟨by simp, by simp⟩
  · have eb : backOf s x = ⟨28, x.form, x.to, 0, x.field, 0, 0, fld0, 0, [], [], []⟩ := by simp [backOf, o]
    rw [eb]
    exact ok_mk (by simp only [i64] at *; omega) zf ⟨by simp, by simp⟩ ⟨by simp, by simp⟩
  · have eb : backOf s x = ⟨29, x.form, 0, 0, 0, 0, 0, fld0, 0, [], [], []⟩ := by simp [backOf, o]
    rw [eb]
    exact ok_mk (by simp only [i64] at *; omega) zf ⟨by simp, by simp⟩ ⟨by simp, by simp⟩
  · obtain ⟨j, g, e1, e2, e3, e4, e5⟩ := z27 h (by omega)
    have hg := ((z3x hsr).2 g (List.mem_of_getElem? e2)).2
    have eb : backOf s x = ⟨30, x.form, 0, 0, 0, 0, 0, fld0, 0, [], [], g.fields⟩ := by simp [backOf, o, e3]
    rw [eb]
    exact ok_mk (by simp only [i64] at *; omega) zf ⟨by simp, by simp⟩ ⟨fun y hy => zb8 (hg y hy), by omega⟩
theorem zdk : ∀ (l : List Stp) (i : Nat) (s : Sch), (allS s i l).2.2 = 0 → (∀ x ∈ l, x.ok) → ∀ y ∈ trailS s l, y.ok ∧ y.sml
  | [], i, s, h, hx, y, hy => by simp [trailS] at hy
  | a :: l, i, s, h, hx, y, hy => by
    unfold allS at h
    by_cases e : (onS s a).2 = 0
    · rw [if_pos e] at h
      rcases List.mem_cons.1 hy with rfl | hy
      · exact ztt e (hx a (by simp))
      · exact zdk l (i + 1) _ h (fun x hm => hx x (by simp [hm])) y hy
    · rw [if_neg e] at h; exact absurd h e
theorem zb9 (l : List Stp) : (l.map stpV).all AV.flat = true := by
  rw [List.all_eq_true]; intro x hx; obtain ⟨f, _, rfl⟩ := List.mem_map.1 hx; rfl
theorem zzm {α : Type} {b : Bool} {x y : α} (h : b = true) : (bif b then x else y) = x := by rw [h]; rfl
theorem q168 {n : Nat} (h : n ≤ 3000) : n * 168 ≤ 211106232532992 := by omega
theorem zx5 (l : List Stp) (hl : l.length ≤ 1000) (hx : ∀ x ∈ l, x.sml ∧ x.ok) : ∀ (r : List Stp) (i : Nat) (s : Sch) (d : List Stp), l.drop i = r → Few s → d.length = i →
    ltbl E0 39 0 3 [.lst .uq 16 (d.map stpV), stpsV l, iV l.length, iV i] [[iV s.ver, frmsV s.forms]] =
      some (if (allS s i r).2.2 = 0 then (1, [.lst .uq 16 ((d ++ trailS s r).map stpV)], []) else (0, [stpsV [], iV (allS s i r).2.2], [])) := by
  intro r
  induction r with
  | nil =>
    intro i s d hr hs hd
    have h : l.length ≤ i := by simpa using hr
    refine zkl _ _ _ _ _ ?_
    have : ¬ ((i : Int) < l.length) := by omega
    have ff := zb9 d; simp [z8a, this, allS, trailS, ff]
  | cons x r ih =>
    intro i s d hr hs hd; obtain ⟨hlt, hget, hr2⟩ := zl hr
    have h2 : (i : Int) < l.length := by omega
    have e1 := zh (i := i) (by omega)
    have hxx := hx x (z11 hr); have c := ztm s x hs hxx.1 hxx.2; have c2 := c_gOn s x hs hxx.1 hxx.2; refine zkl _ _ _ _ _ ?_
    by_cases h : (onS s x).2 = 0
    · have ei : invS s x = (backOf s x, 0) := by unfold invS; rw [if_pos h]
      rw [ei] at c
      have e := ih (i + 1) (onS s x).1 (d ++ [backOf s x]) hr2 (z7o (z3y h)) (by simp [hd])
      have ff := zb9 (d ++ [backOf s x])
      have ea : allS s i (x :: r) = allS (onS s x).1 (i + 1) r := by rw [allS, if_pos h]
      have et : trailS s (x :: r) = backOf s x :: trailS (onS s x).1 r := rfl; rw [ea, et]
      have ed : d ++ backOf s x :: trailS (onS s x).1 r = d ++ [backOf s x] ++ trailS (onS s x).1 r := by simp
      rw [ed]
      have hq := q168 (n := d.length + 1) (by omega)
      generalize backOf s x = y at *; simp only [List.map_append, List.map_cons, List.map_nil, schV, frmsV, stpV, stpC, intsV, fldsV] at c c2 e ff ⊢; simp only [z8a, zb, List.length_map, h2, decide_true, cond_true, z9, Int.natCast_nonneg, nthE, Int.toNat_natCast, List.getElem?_map, hget, Option.map_some, u_asA, u_asC, u_asI, u_asS, u_asL, u_asN, stpV, stpC, intsV, fldsV, za, c, c2, Option.bind_some, e1, zx, zj, bne_self_eq_false, cond_false, List.length_cons, List.length_nil, Nat.zero_add]
      simp only [hq, decide_true, cond_true]; exact (zzm ff).trans e
    · have ei : invS s x = (stpN, (onS s x).2) := by unfold invS; rw [if_neg h]
      rw [ei] at c; have h' := bne_t h; simp only [schV, frmsV, stpV, stpC, intsV, fldsV, stpN, fld0, List.map_nil] at c; simp only [z8a, zb, List.length_map, h2, decide_true, cond_true, z9, Int.natCast_nonneg, nthE, Int.toNat_natCast, List.getElem?_map, hget, Option.map_some, u_asA, u_asC, u_asI, u_asS, u_asL, u_asN, stpV, stpC, intsV, fldsV, za, c, Option.bind_some, h', allS, if_neg h, stpsV, List.map_nil]
set_option maxRecDepth 100000 in
theorem zx6 (l : List Stp) (hl : l.length ≤ 1000) (hx : ∀ x ∈ l, x.sml) : ∀ (r : List Stp) (i : Nat) (s : Sch) (d : List Stp), l.drop i = r → Few s → d.length = i →
    ltbl E0 33 0 3 [stpsV l, stpsV d, iV i] [[iV s.ver, frmsV s.forms]] =
      some (if (allS s i r).2.2 = 0 then (1, [stpsV ((trailS s r).reverse ++ d)], []) else (0, [stpsV [], iV (allS s i r).2.2], [])) := by
  intro r
  induction r with
  | nil =>
    intro i s d hr hs hd
    have h : l.length ≤ i := by simpa using hr
    refine zkm _ _ _ _ ?_
    have : ¬ ((i : Int) < l.length) := by omega
    simp [z8b, this, allS, trailS]
  | cons x r ih =>
    intro i s d hr hs hd; obtain ⟨hlt, hget, hr2⟩ := zl hr
    have h2 : (i : Int) < l.length := by omega
    have e1 := zh (i := i) (by omega)
    have hxx := hx x (z11 hr); have c := ztn s x hs hxx; have c2 := c_zOn s x hs hxx; refine zkm _ _ _ _ ?_
    by_cases h : (onS s x).2 = 0
    · have ei : invS s x = (backOf s x, 0) := by unfold invS; rw [if_pos h]
      rw [ei] at c
      have e := ih (i + 1) (onS s x).1 (backOf s x :: d) hr2 (z7o (z3y h)) (by simp [hd])
      have ea : allS s i (x :: r) = allS (onS s x).1 (i + 1) r := by rw [allS, if_pos h]
      have et : trailS s (x :: r) = backOf s x :: trailS (onS s x).1 r := rfl; rw [ea, et]
      have ed : (backOf s x :: trailS (onS s x).1 r).reverse ++ d = (trailS (onS s x).1 r).reverse ++ backOf s x :: d := by simp
      rw [ed]
      have hq := q168 (n := 1 + d.length) (by omega)
      generalize backOf s x = y at *; simp only [List.map_cons, List.map_nil, schV, frmsV, stpsV, stpV, stpC, intsV, fldsV] at c c2 e ⊢; simp only [z8b, z50, zb, List.length_map, h2, decide_true, cond_true, z9, Int.natCast_nonneg, nthE, Int.toNat_natCast, List.getElem?_map, hget, Option.map_some, u_asA, u_asC, u_asI, u_asS, u_asL, u_asN, stpV, stpC, intsV, fldsV, za, c, c2, Option.bind_some, e1, zx, zj, bne_self_eq_false, cond_false, List.length_cons, List.length_nil, Nat.zero_add, hq]
      exact e
    · have ei : invS s x = (stpN, (onS s x).2) := by unfold invS; rw [if_neg h]
      rw [ei] at c; have h' := bne_t h; simp only [schV, frmsV, stpV, stpC, intsV, fldsV, stpN, fld0, List.map_nil] at c; simp only [z8b, z50, zb, List.length_map, h2, decide_true, cond_true, z9, Int.natCast_nonneg, nthE, Int.toNat_natCast, List.getElem?_map, hget, Option.map_some, u_asA, u_asC, u_asI, u_asS, u_asL, u_asN, stpV, stpC, intsV, fldsV, za, zx, zj, c, Option.bind_some, h', allS, if_neg h, stpsV, List.map_nil]
theorem zzn (s : Sch) (l : List Stp) (hs : Few s) (hl : l.length ≤ 1000) (hx : ∀ x ∈ l, x.sml ∧ x.ok) : tbl E0 39 [schV s, stpsV l] [] = some ([stpsV (backS s [] l).1, iV (backS s [] l).2], []) := zym s l (by
  have c := zx5 l hl hx l 0 s [] rfl hs rfl; have e2 := z6e l 0 s []; simp only [Int.natCast_zero, List.map_nil, List.nil_append, stpsV, frmsV] at c; simp only [zoa, z9, cond_true, zb, List.length_map, ze, c, Option.bind_some]
  by_cases h : (allS s 0 l).2.2 = 0
  · have eb := z7p l s [] (e2.trans h)
    have ff := zb9 (trailS s l).reverse; rw [List.map_reverse] at ff; rw [e2, h, eb, if_pos rfl]
    simp only [Option.bind_some, nbeq, decide_true, cond_true, cond_false, decide_false, (by decide : (1 : Nat) ≠ 0), u_asC, zq, u_asN, ff, List.append_nil, List.map_reverse, stpsV]
  · have eb := zdi l s [] (by rw [e2]; exact h)
    rw [e2, eb, if_neg h]; simp only [Option.bind_some, nbeq, decide_true, cond_true, u_asC, u_asI, u_asL, u_asN, stpsV, List.map_nil])
theorem zzo (s : Sch) (l : List Stp) (hs : Few s) (hl : l.length ≤ 1000) (hx : ∀ x ∈ l, x.sml) : tbl E0 33 [schV s, stpsV l] [] = some ([stpsV (backS s [] l).1, iV (backS s [] l).2], []) := zyn s l (by
  have c := zx6 l hl hx l 0 s [] rfl hs rfl; have e2 := z6e l 0 s []; simp only [Int.natCast_zero, List.map_nil, stpsV, frmsV] at c; simp only [zob, z9, cond_true, zb, List.length_map, ze, c, Option.bind_some]
  by_cases h : (allS s 0 l).2.2 = 0
  · have eb := z7p l s [] (e2.trans h)
    rw [e2, h, eb, if_pos rfl]
    simp only [Option.bind_some, nbeq, decide_true, cond_true, cond_false, decide_false, (by decide : (1 : Nat) ≠ 0), u_asC, u_asL, u_asN, List.append_nil, stpsV]
  · have eb := zdi l s [] (by rw [e2]; exact h)
    rw [e2, eb, if_neg h]; simp only [Option.bind_some, nbeq, decide_true, cond_true, u_asC, u_asI, u_asL, u_asN, stpsV, List.map_nil])
theorem z11u {i a b : Int} (h1 : i < a) (h2 : i < b) : i < if b < a then b else a := by split <;> omega
theorem zp6 {i a b : Int} (h : a ≤ i ∨ b ≤ i) : ¬ (i < if b < a then b else a) := by split <;> omega
set_option maxRecDepth 100000 in
theorem zqj (a b : List Stp) (ha : a.length ≤ 1000) (hao : ∀ x ∈ a, x.ok ∧ x.sml) (hbo : ∀ x ∈ b, x.ok) : ∀ (r r' : List Stp) (i : Nat), a.drop i = r → b.drop i = r' →
    ltbl E0 40 0 2 [stpsV a, stpsV b, .clo 41 [], iV i] [] = some (1, [iV ((i + likeN r r' : Nat) : Int)], []) := by
  intro r
  induction r with
  | nil =>
    intro r' i hr hr'
    have h : a.length ≤ i := by simpa using hr
    have hn := zp6 (i := i) (a := a.length) (b := b.length) (by omega)
    refine z8c _ _ _ ?_; simp only [z5j, zb, List.length_map, hn, decide_false, cond_false, likeN, Nat.add_zero]
  | cons x r ih =>
    intro r' i hr hr'; obtain ⟨hlt, hget, hr2⟩ := zl hr
    cases r' with
    | nil =>
      have h : b.length ≤ i := by simpa using hr'
      have hn := zp6 (i := i) (a := a.length) (b := b.length) (by omega)
      refine z8c _ _ _ ?_; simp only [z5j, zb, List.length_map, hn, decide_false, cond_false, likeN, Nat.add_zero]
    | cons y r' =>
      obtain ⟨hlt', hget', hr2'⟩ := zl hr'
      have hn := z11u (i := i) (a := a.length) (b := b.length) (by omega) (by omega)
      have e1 := zh (i := i) (by omega)
      have h := ih r' (i + 1) hr2 hr2'; have hx := hao x (z11 hr); have c := zp0 x y hx.1 (hbo y (z11 hr')) hx.2; simp only [stpsV, stpV, stpC, intsV, fldsV] at c h; refine z8c _ _ _ ?_; simp only [z5j, zb, List.length_map, hn, decide_true, cond_true, z9, Int.natCast_nonneg, nthE, Int.toNat_natCast, List.getElem?_map, hget, hget', Option.map_some, u_asA, u_asC, u_asI, u_asB, u_asS, u_asL, u_asN, stpV, stpC, intsV, fldsV, za, c, Option.bind_some, e1]
      by_cases e : x = y
      · subst e
        have el : likeN (x :: r) (x :: r') = likeN r r' + 1 := by rw [likeN, if_pos rfl]
        rw [el, show i + (likeN r r' + 1) = i + 1 + likeN r r' by omega]
        simp only [decide_true, cond_true]; exact h
      · have el : likeN (x :: r) (y :: r') = 0 := by unfold likeN; rw [if_neg e]
        rw [el]; simp only [e, decide_false, cond_false, Nat.add_zero]
theorem ztu (a b : List Stp) (ha : a.length ≤ 1000) (hao : ∀ x ∈ a, x.ok ∧ x.sml) (hbo : ∀ x ∈ b, x.ok) : tbl E0 40 [stpsV a, stpsV b, .clo 41 []] [] = some ([iV (likeN a b : Nat)], []) := zru a b (by
  have c := zqj a b ha hao hbo a b 0 rfl rfl; simp only [Int.natCast_zero, Nat.zero_add, stpsV] at c; simp only [zh6, ze, c, Option.bind_some, nbeq, decide_true, cond_true, u_asC, u_asI, u_asN])
def chkS (s : Sch) (a b : List Stp) : Int × Int :=
  if (allS s 0 a).2.2 = 0 then (if likeN (trailS s a).reverse b < max (trailS s a).reverse.length b.length then ((likeN (trailS s a).reverse b : Nat), 18) else (0, 0)) else (((allS s 0 a).2.1 : Nat), (allS s 0 a).2.2)
theorem ztv {i a b : Nat} : ((i : Int) < if (a : Int) < (b : Int) then (b : Int) else (a : Int)) ↔ i < max a b := by split <;> omega
theorem zx7 (s : Sch) (a b : List Stp) (hs : Few s) (hl : a.length ≤ 1000) (ha : ∀ x ∈ a, x.sml ∧ x.ok) (hb : ∀ x ∈ b, x.ok) : tbl E0 25 [schV s, stpsV a, stpsV b] [] = some ([iV (chkS s a b).1, iV (chkS s a b).2], []) := zvf s a b (by
  have c1 := ztk s a hs hl ha; have c2 := zzn s a hs hl ha; have e2 := z6e a 0 s []; simp only [schV, frmsV, stpsV] at c1 c2; simp only [zkj, z9, cond_true, za, c1, Option.bind_some, u_asC, u_asA, u_asI, u_asL, u_asN]
  by_cases h : (allS s 0 a).2.2 = 0
  · have h' : ((allS s 0 a).2.2 != 0) = false := by simp [h]
    have eb := z7p a s [] (e2.trans h); rw [List.append_nil] at eb; rw [e2, h, eb] at c2
    have c3 := ztu (trailS s a).reverse b (by rw [List.length_reverse, zb5]; omega) (fun y hy => zdk a 0 s h (fun x hx => (ha x hx).2) y (by simpa using hy)) hb
    simp only [stpsV] at c3; simp only [h', cond_false, c2, c3, Option.bind_some, z9, za, zb, List.length_map, bne_self_eq_false, u_asC, u_asI, u_asL, u_asN, cond_true, chkS, h, if_true]
    by_cases q : likeN (trailS s a).reverse b < max (trailS s a).reverse.length b.length
    · rw [if_pos q, decide_eq_true (ztv.2 q)]
      rfl
    · rw [if_neg q, decide_eq_false (fun w => q (ztv.1 w))]
      rfl
  · have h' := bne_t h
    simp only [h', cond_true, chkS, if_neg h])
set_option maxRecDepth 100000 in
theorem ztw (a b : List Stp) (ha : a.length ≤ 1000) (hao : ∀ x ∈ a, x.sml) : ∀ (r r' : List Stp) (i : Nat), a.drop i = r → b.drop i = r' →
    ltbl E0 17 0 6 [stpsV b, stpsV a, iV i] [] = some (if likeN r r' < min r.length r'.length then (0, [iV ((i + likeN r r' : Nat) : Int), iV 18], []) else (1, [stpsV b, stpsV a], [])) := by
  intro r
  induction r with
  | nil =>
    intro r' i hr hr'
    have h : a.length ≤ i := by simpa using hr
    have hn : ¬ ((i : Int) < a.length) := by omega
    refine zac _ _ _ ?_
    have q : ¬ (likeN [] r' < min ([] : List Stp).length r'.length) := by simp
    rw [if_neg q]; simp only [z6r, zk, zb, List.length_map, hn, decide_false, cond_false, Option.bind_some, Tok.untok_tok, stpsV]
  | cons x r ih =>
    intro r' i hr hr'; obtain ⟨hlt, hget, hr2⟩ := zl hr
    have hn : (i : Int) < a.length := by omega
    cases r' with
    | nil =>
      have h : b.length ≤ i := by simpa using hr'
      have hn2 : ¬ ((i : Int) < b.length) := by omega
      refine zac _ _ _ ?_
      have q : ¬ (likeN (x :: r) [] < min (x :: r).length ([] : List Stp).length) := by simp
      rw [if_neg q]; simp only [z6r, zk, zb, List.length_map, hn, hn2, decide_true, decide_false, cond_true, cond_false, Option.bind_some, Tok.untok_tok, stpsV]
    | cons y r' =>
      obtain ⟨hlt', hget', hr2'⟩ := zl hr'
      have hn2 : (i : Int) < b.length := by omega
      have e1 := zh (i := i) (by omega)
      have h := ih r' (i + 1) hr2 hr2'; have c := zlq x y (hao x (z11 hr)); simp only [stpsV, stpV, stpC, intsV, fldsV] at c h; refine zac _ _ _ ?_; simp only [z6r, zk, zb, List.length_map, hn, hn2, decide_true, cond_true, Option.bind_some, Tok.untok_tok, z9, Int.natCast_nonneg, nthE, Int.toNat_natCast, List.getElem?_map, hget, hget', Option.map_some, u_asA, u_asC, u_asI, u_asB, u_asS, u_asL, u_asN, stpV, stpC, intsV, fldsV, za, c, e1]
      by_cases e : x = y
      · subst e
        have el : likeN (x :: r) (x :: r') = likeN r r' + 1 := by rw [likeN, if_pos rfl]
        have em : (likeN (x :: r) (x :: r') < min (x :: r).length (x :: r').length) = (likeN r r' < min r.length r'.length) := by
          rw [el, List.length_cons, List.length_cons]; apply propext; omega
        rw [show i + 1 + likeN r r' = i + likeN (x :: r) (x :: r') by omega] at h
        simp only [decide_true, Bool.not_true, cond_false, em]; exact h
      · have el : likeN (x :: r) (y :: r') = 0 := by unfold likeN; rw [if_neg e]
        have em : likeN (x :: r) (y :: r') < min (x :: r).length (y :: r').length := by rw [el]; simp only [List.length_cons]; omega
        rw [if_pos em, el]; simp only [e, decide_false, Bool.not_false, cond_true, Nat.add_zero]
theorem zx8 (s : Sch) (a b : List Stp) (hs : Few s) (hl : a.length ≤ 1000) (ha : ∀ x ∈ a, x.sml ∧ x.ok) : tbl E0 17 [schV s, stpsV a, stpsV b] [] = some ([iV (chkS s a b).1, iV (chkS s a b).2], []) := zvg s a b (by
  have c1 := ztd s a hs hl (fun x hx => (ha x hx).1); have c2 := zzo s a hs hl (fun x hx => (ha x hx).1); have e2 := z6e a 0 s []; simp only [schV, frmsV, stpsV] at c1 c2; simp only [zkk, z9, cond_true, za, c1, Option.bind_some, u_asC, u_asA, u_asI, u_asL, u_asN]
  by_cases h : (allS s 0 a).2.2 = 0
  · have h' : ((allS s 0 a).2.2 != 0) = false := by simp [h]
    have eb := z7p a s [] (e2.trans h); rw [List.append_nil] at eb; rw [e2, h, eb] at c2
    have c3 := ztw (trailS s a).reverse b (by rw [List.length_reverse, zb5]; omega) (fun y hy => (zdk a 0 s h (fun x hx => (ha x hx).2) y (by simpa using hy)).2) (trailS s a).reverse b 0 rfl rfl
    simp only [stpsV, Int.natCast_zero, Nat.zero_add] at c3; have k := zp4 (trailS s a).reverse b; simp only [h', cond_false, c2, Option.bind_some, z9, za, u_asC, u_asI, u_asL, u_asN, cond_true, cond_false, chkS, h, if_true, ze, c3, bne_self_eq_false]
    by_cases q : likeN (trailS s a).reverse b < min (trailS s a).reverse.length b.length
    · have q2 : likeN (trailS s a).reverse b < max (trailS s a).reverse.length b.length := by omega
      rw [if_pos q, if_pos q2]; simp only [Option.bind_some, nbeq, decide_true, cond_true, u_asC, u_asI, u_asN]
    · rw [if_neg q]
      simp only [Option.bind_some, nbeq, decide_true, decide_false, (by decide : (1 : Nat) ≠ 0), cond_true, cond_false, u_asC, u_asL, u_asN, zb, List.length_map]
      by_cases q3 : (trailS s a).reverse.length = b.length
      · have q2 : ¬ (likeN (trailS s a).reverse b < max (trailS s a).reverse.length b.length) := by omega
        have q4 : (((trailS s a).reverse.length : Int) != (b.length : Int)) = false := by rw [q3]; simp
        rw [if_neg q2]; simp only [q4, cond_false]
      · have q2 : likeN (trailS s a).reverse b < max (trailS s a).reverse.length b.length := by omega
        have q4 : (((trailS s a).reverse.length : Int) != (b.length : Int)) = true := bne_t (by omega)
        have q5 : (if (b.length : Int) < ((trailS s a).reverse.length : Int) then (b.length : Int) else ((trailS s a).reverse.length : Int)) = (likeN (trailS s a).reverse b : Nat) := by split <;> omega
        rw [if_pos q2]; simp only [q4, cond_true, q5]
  · have h' := bne_t h
    simp only [h', cond_true, chkS, if_neg h])
end Go.Proofs.YtjkjhgfiaodgmaaGreat.V
namespace Go.Proofs.YtjkjhgfiaodgmaaGreat.V
open Go
theorem zm1 {x : Fld} (hx : x.ok) (hr : rgtS x = true) : (fldB x).length ≤ 40 := by
  have r := z1l hr; obtain ⟨_, ⟨_, _⟩, ⟨_, _⟩, ⟨_, _⟩, ⟨_, _⟩⟩ := hx
  have h1 : (cnt x.id.toNat).length ≤ 10 := zg (by omega)
  have h2 : (cnt x.kind.toNat).length ≤ 10 := zg (by omega)
  have h3 : (cnt (zz x.lo)).length ≤ 10 := zg (zz_lt (by omega) (by omega))
  have h4 : (cnt (zz x.hi)).length ≤ 10 := zg (zz_lt (by omega) (by omega))
  have h5 : (cnt x.most.toNat).length ≤ 10 := zg (by omega)
  unfold fldB; simp only [List.length_append]
  split
  · simp only [List.length_append]; omega
  · split
    · omega
    · simp; omega
theorem zx9 (b : List AV) (x : Fld) (e : Int) (hx : x.ok) (hr : rgtS x = true) (hb : b.length + 40 ≤ 211106232532992) : tbl E0 82 [.ref 0 0, fldV x] (penA b e) = some ([], penA (b ++ encB (fldB x)) e) :=
  zwa b x e (by
    have r := z1l hr; obtain ⟨_, ⟨_, _⟩, ⟨_, _⟩, ⟨_, _⟩, ⟨_, _⟩⟩ := hx
    have h1 : (cnt x.id.toNat).length ≤ 10 := zg (by omega)
    have h2 : (cnt x.kind.toNat).length ≤ 10 := zg (by omega)
    have h3 : (cnt (zz x.lo)).length ≤ 10 := zg (zz_lt (by omega) (by omega))
    have c1 := z2v b x.id e (by omega) (by omega)
    have c2 := z2v (b ++ encB (cnt x.id.toNat)) x.kind e (by simp; omega) (by omega)
    have c3 := z2v (b ++ encB (cnt x.id.toNat) ++ encB (cnt x.kind.toNat)) x.most e (by simp; omega) (by omega)
    have c4 := zkq (b ++ encB (cnt x.id.toNat) ++ encB (cnt x.kind.toNat)) x.lo e (by simp; omega) (by omega) (by omega)
    have c5 := zkq (b ++ encB (cnt x.id.toNat) ++ encB (cnt x.kind.toNat) ++ encB (cnt (zz x.lo))) x.hi e (by simp; omega) (by omega) (by omega)
    have n1 : ¬ (x.id < 0) := by omega
    have n2 : ¬ (x.kind < 0) := by omega
    have n3 : ¬ (x.most < 0) := by omega
    simp only [n1, n2, n3, if_false, penA] at c1 c2 c3 c4 c5; unfold fldB
    by_cases k1 : x.kind = 1
    · simp only [k1] at c2 c3 c4 c5
      simp_all [z64, penA, zp]
    · by_cases k3 : x.kind = 3
      · simp only [k3] at c2 c3 c4 c5
        simp_all [z64, penA, zp]
      · by_cases k4 : x.kind = 4
        · simp only [k4] at c2 c3 c4 c5
          simp_all [z64, penA, zp]
        · have k2 : x.kind = 2 := by omega
          simp only [k2] at c2 c3 c4 c5; simp_all [z64, penA, zp])
end Go.Proofs.YtjkjhgfiaodgmaaGreat.V
namespace Go.Proofs.YtjkjhgfiaodgmaaGreat.V
open Go
theorem zfc (f : Fld) (l : List Fld) : fldsB (f :: l) = fldB f ++ fldsB l := by simp [fldsB]
theorem zfd (f : Frm) (l : List Frm) : frmsB (f :: l) = frmB f ++ frmsB l := by simp [frmsB]
theorem zic : ∀ (l : List Fld), FldsOK l → (fldsB l).length ≤ 40 * l.length
  | [], _ => by simp [fldsB]
  | f :: l, h => by
    have h1 := zm1 (h f (by simp)).1 (h f (by simp)).2
    have h2 := zic l (fun g hg => h g (by simp [hg]))
    rw [zfc, List.length_append, List.length_cons]; omega
theorem ztx (l : List Frm) (fs : List Fld) (m i : Int) (hl : fs.length ≤ 8) (hok : FldsOK fs) : ∀ (r : List Fld) (k : Nat) (b : List AV) (e : Int), fs.drop k = r → b.length + 40 * r.length + 40 ≤ 211106232532992 →
    ltbl E0 56 0 12 [frmsV l, iV m, iV i, fldsV fs, iV fs.length, iV k] [[.lst (.own (.O 1012 0)) 1 b, iV e]] = some (3, [frmsV l, iV m, iV i], [[.lst (.own (.O 1012 0)) 1 (b ++ encB (fldsB r)), iV e]]) := by
  intro r
  induction r with
  | nil =>
    intro k b e hr hb
    have h : fs.length ≤ k := by simpa using hr
    refine zhj _ _ _ _ _ _ _ _ ?_
    have : ¬ ((k : Int) < fs.length) := by omega
    simp [zax, this, fldsB, z2h]
  | cons x r ih =>
    intro k b e hr hb; obtain ⟨hlt, hget, hr2⟩ := zl hr
    have h2 : (k : Int) < fs.length := by omega
    have e1 := zh (i := k) (by omega)
    obtain ⟨x1, x2⟩ := hok x (z11 hr); have hx := zm1 x1 x2; simp only [List.length_cons] at hb
    have h := ih (k + 1) (b ++ encB (fldB x)) e hr2 (by simp; omega)
    have c := zx9 b x e x1 x2 (by omega)
    simp only [penA] at c; refine zhj _ _ _ _ _ _ _ _ ?_; rw [zfc, zp, ← List.append_assoc, ← h]; simp only [zax, zb, List.length_map, h2, decide_true, cond_true, z9, Int.natCast_nonneg, nthE, Int.toNat_natCast, List.getElem?_map, hget, Option.map_some, u_asA, u_asC, u_asI, u_asB, u_asL, zu, u_asN, zi, c, Option.bind_some, nbeq, e1]
def FrmOK (f : Frm) : Prop := f.ok ∧ 0 ≤ f.id ∧ f.fields.length ≤ 8 ∧ FldsOK f.fields
theorem zm2 {f : Frm} (h : FrmOK f) : (frmB f).length ≤ 340 := by
  obtain ⟨⟨⟨_, _⟩, _⟩, h2, h3, h4⟩ := h; have h5 := zic f.fields h4
  have h6 : (cnt f.id.toNat).length ≤ 10 := zg (by omega)
  have h7 : (cnt f.fields.length).length ≤ 10 := zg (by omega)
  unfold frmB; simp only [List.length_append]; omega
theorem zty (l : List Frm) (hl : l.length ≤ 8) (hok : ∀ f ∈ l, FrmOK f) : ∀ (r : List Frm) (i : Nat) (b : List AV) (e : Int), l.drop i = r → b.length + 400 * r.length + 400 ≤ 211106232532992 →
    ltbl E0 56 0 7 [frmsV l, iV l.length, iV i] [[.lst (.own (.O 1012 0)) 1 b, iV e]] = some (1, [], [[.lst (.own (.O 1012 0)) 1 (b ++ encB (frmsB r)), iV e]]) := by
  intro r
  induction r with
  | nil =>
    intro i b e hr hb
    have h : l.length ≤ i := by simpa using hr
    refine zhi _ _ _ _ _ ?_
    have : ¬ ((i : Int) < l.length) := by omega
    simp [zaw, this, frmsB, z2h]
  | cons x r ih =>
    intro i b e hr hb; obtain ⟨hlt, hget, hr2⟩ := zl hr
    have h2 : (i : Int) < l.length := by omega
    have e1 := zh (i := i) (by omega)
    have hx := hok x (z11 hr); have hxl := zm2 hx; obtain ⟨⟨⟨_, _⟩, _⟩, x2, x3, x4⟩ := hx
    have h6 : (cnt x.id.toNat).length ≤ 10 := zg (by omega)
    have h7 : (cnt x.fields.length).length ≤ 10 := zg (by omega)
    simp only [List.length_cons] at hb
    have h := ih (i + 1) (b ++ encB (frmB x)) e hr2 (by simp; omega)
    have c1 := z2v b x.id e (by omega) (by omega)
    have c2 := z2v (b ++ encB (cnt x.id.toNat)) x.fields.length e (by simp; omega) (by omega)
    rw [if_neg (by omega)] at c1 c2
    simp only [penA, Int.toNat_natCast] at c1 c2
    have k := ztx l x.fields (l.length : Int) (i : Int) x3 x4 x.fields 0 (b ++ encB (cnt x.id.toNat) ++ encB (cnt x.fields.length)) e rfl (by simp; omega)
    simp only [Int.natCast_zero] at k; refine zhi _ _ _ _ _ ?_
    have eb : b ++ encB (frmsB (x :: r)) = b ++ encB (frmB x) ++ encB (frmsB r) := by rw [zfd, zp, List.append_assoc]
    have ek : b ++ encB (cnt x.id.toNat) ++ encB (cnt x.fields.length) ++ encB (fldsB x.fields) = b ++ encB (frmB x) := by unfold frmB; simp only [zp, List.append_assoc]
    rw [eb, ← h, ← ek]; simp only [zaw, zb, List.length_map, h2, decide_true, cond_true, z9, Int.natCast_nonneg, nthE, Int.toNat_natCast, List.getElem?_map, hget, Option.map_some, u_asA, u_asC, u_asI, u_asB, u_asL, zu, u_asN, zi, ze, c1, c2, k, Option.bind_some, nbeq, e1, zv]
theorem zm3 {s : Sch} (hs : s.ok) (hr : schS s = true) : s.forms.length ≤ 8 ∧ ∀ f ∈ s.forms, FrmOK f := by
  obtain ⟨h1, h2, h3⟩ := (z8f s).1 hr; refine ⟨h2, fun f hf => ?_⟩; obtain ⟨a1, a2, _, a4, _⟩ := (z38 f).1 (z30 _ _ h3 f hf); exact ⟨hs.2 f hf, a1.1, a2.2, fun x hx => ⟨(hs.2 f hf).2 x hx, a4 x hx⟩⟩
theorem zid : ∀ (l : List Frm), (∀ f ∈ l, FrmOK f) → (frmsB l).length ≤ 340 * l.length
  | [], _ => by simp [frmsB]
  | f :: l, h => by
    have h1 := zm2 (h f (by simp))
    have h2 := zid l (fun g hg => h g (by simp [hg]))
    rw [zfd, List.length_append, List.length_cons]; omega
theorem z8q {s : Sch} (hs : s.ok) (hr : schS s = true) : (schB s).length ≤ 4000 := by
  obtain ⟨h1, h2⟩ := zm3 hs hr; obtain ⟨h3, _, _⟩ := (z8f s).1 hr; have h4 := zid s.forms h2
  have h6 : (cnt s.ver.toNat).length ≤ 10 := zg (by omega)
  have h7 : (cnt s.forms.length).length ≤ 10 := zg (by omega)
  unfold schB; simp only [List.length_append]; omega
theorem zxa (s : Sch) (hs : s.ok) (hm : Sml s) : tbl E0 56 [schV s] [] = some ([.lst .ro 1 (if schS s then encB (schB s) else []), iV (if schS s then 0 else 2)], []) :=
  zwb s (by
    have c0 := z61 s hm
    rcases bor (schS s) with hb | hb
    · obtain ⟨h1, h2⟩ := zm3 hs hb
      obtain ⟨h3, _, _⟩ := (z8f s).1 hb
      have h6 : (cnt s.ver.toNat).length ≤ 10 := zg (by omega)
      have h7 : (cnt s.forms.length).length ≤ 10 := zg (by omega)
      have hl := z8q hs hb
      have c1 := z2v [] s.ver 0 (by simp) (by omega)
      have c2 := z2v (encB (cnt s.ver.toNat)) s.forms.length 0 (by simp; omega) (by omega)
      rw [if_neg (by omega)] at c1 c2
      simp only [penA, Int.toNat_natCast, List.nil_append] at c1 c2
      have k := zty s.forms h1 h2 s.forms 0 (encB (cnt s.ver.toNat) ++ encB (cnt s.forms.length)) 0 rfl (by simp; omega)
      simp only [Int.natCast_zero] at k
      have ek : encB (cnt s.ver.toNat) ++ encB (cnt s.forms.length) ++ encB (frmsB s.forms) = encB (schB s) := by unfold schB; simp only [zp]
      rw [ek] at k
      have d := zfz (schB s) 0 (by omega)
      simp only [penV, penA, if_true] at d; simp only [zda, hb, zb, List.length_map, decide_true, cond_true, cond_false, Bool.not_true, z9, u_asA, u_asC, u_asI, u_asB, u_asL, zu, u_asN, z23, zi, za, ze, c0, c_New, c1, c2, k, d, Option.bind_some, nbeq, zv, if_true]
    · simp only [zda, hb, zb, cond_true, Bool.not_false, z9, u_asC, u_asB, u_asN, za, c0, Option.bind_some, if_false, Bool.false_eq_true])
end Go.Proofs.YtjkjhgfiaodgmaaGreat.V
namespace Go.Proofs.YtjkjhgfiaodgmaaGreat.V
open Go
end Go.Proofs.YtjkjhgfiaodgmaaGreat.V
namespace Go.Proofs.YtjkjhgfiaodgmaaGreat.V
open Go
end Go.Proofs.YtjkjhgfiaodgmaaGreat.V
namespace Go.Proofs.YtjkjhgfiaodgmaaGreat.V
open Go
end Go.Proofs.YtjkjhgfiaodgmaaGreat.V
namespace Go.Proofs.YtjkjhgfiaodgmaaGreat.V
open Go
open AV (int lst agg str bool ref clo)
open List (map)
end Go.Proofs.YtjkjhgfiaodgmaaGreat.V
namespace Go.Proofs.YtjkjhgfiaodgmaaGreat.V
open Go
theorem zu0 (x : Lnk) : ∀ (r : List Frm) (i : Nat), x.to.forms.drop i = r → i ≤ 41 →
    ltbl E0 9 0 2 [iV i] [lnkC x] = some (if (r.take (41 - i)).any big then (0, [.bool true], []) else (1, [], [lnkC x])) := by
  intro r
  induction r with
  | nil =>
    intro i hr hi
    have h : x.to.forms.length ≤ i := by simpa using hr
    refine zhl _ _ ?_
    have : ¬ ((i : Int) < x.to.forms.length) := by omega
    simp [z6t, this]
  | cons f r ih =>
    intro i hr hi; obtain ⟨hlt, hget, hr2⟩ := zl hr
    have h2 : (i : Int) < x.to.forms.length := by omega
    have e1 := zh (i := i) (by omega)
    refine zhl _ _ ?_
    by_cases h41 : i < 41
    · have h := ih (i + 1) hr2 (by omega)
      have h3 : (i : Int) < 41 := by omega
      have e2 : 41 - i = (41 - (i + 1)) + 1 := by omega
      rw [e2, List.take_succ_cons, List.any_cons]; simp only [z6t, zk, zb, List.length_map, h2, h3, decide_true, cond_true, Option.bind_some, Tok.untok_tok, z9, Int.natCast_nonneg, nthE, Int.toNat_natCast, List.getElem?_map, hget, Option.map_some, u_asA, u_asC, u_asI, u_asB, u_asL, u_asN, e1, h]
      by_cases b : 40 < f.fields.length
      · have b' : (f.fields.length : Int) > 40 := by omega
        simp [big, b, b']
      · have b' : ¬ ((f.fields.length : Int) > 40) := by omega
        simp [big, b, b']
    · have h3 : ¬ ((i : Int) < 41) := by omega
      have e2 : 41 - i = 0 := by omega
      simp [z6t, h2, h3, e2]
def greatK (x : Lnk) : Bool := greatS x.to || (greatT x.on || greatT x.back)
theorem z6f (x : Lnk) : tbl E0 9 [lnkV x] [] = some ([.bool (greatK x)], []) :=
  zwc x (by
    have e := zu0 x x.to.forms 0 rfl (by omega)
    have g1 := zlr x.on; have g2 := zlr x.back; simp only [Int.natCast_zero, Nat.sub_zero, lnkC] at e; simp only [stpsV] at g1 g2; simp only [zl7, z9, cond_true, ze, e, greatK, greatS]
    by_cases b : ((x.to.forms.take 41).any big) = true
    · simp [b]
    · have b : ((x.to.forms.take 41).any big) = false := by simpa using b
      by_cases c : 40 < x.to.forms.length
      · have c' : (x.to.forms.length : Int) > 40 := by omega
        simp [b, c, c']
      · have c' : ¬ ((x.to.forms.length : Int) > 40) := by omega
        rcases bor (greatT x.on) with q | q
        · simp [b, c, c', g1, q]
        · simp [b, c, c', g1, g2, q])
def Lnk.sml (x : Lnk) : Prop := Sml x.to ∧ (x.on.length ≤ 60 ∧ ∀ s ∈ x.on, s.sml) ∧ x.back.length ≤ 60 ∧ ∀ s ∈ x.back, s.sml
theorem z8r {x : Lnk} (h : greatK x = false) : x.sml := by
  simp only [greatK, Bool.or_eq_false_iff] at h; exact ⟨z111 h.1, zib h.2.1, zib h.2.2⟩
def txtsB (l : List (List UInt8)) : List UInt8 := (l.map txtB).flatten
theorem zu1 (l : List (List UInt8)) (hl : l.length ≤ 3) (hok : ∀ s ∈ l, s.length ≤ 211106232532992) : ∀ (r : List (List UInt8)) (i : Nat) (b : List AV) (e : Int), l.drop i = r → b.length + (txtsB r).length + 10 ≤ 211106232532992 →
    ltbl E0 38 0 10 [.lst .ro 1 (l.map bytesV), iV l.length, iV i] [[.lst (.own (.O 1061 0)) 1 b, iV e]] = some (1, [], [[.lst (.own (.O 1061 0)) 1 (b ++ encB (txtsB r)), iV e]]) := by
  intro r
  induction r with
  | nil =>
    intro i b e hr hb
    have h : l.length ≤ i := by simpa using hr
    refine zhm _ _ _ _ _ ?_
    have : ¬ ((i : Int) < l.length) := by omega
    simp [zay, this, txtsB, z2h]
  | cons s r ih =>
    intro i b e hr hb; obtain ⟨hlt, hget, hr2⟩ := zl hr
    have h2 : (i : Int) < l.length := by omega
    have e1 := zh (i := i) (by omega)
    have hs := hok s (z11 hr)
    have et : (txtsB (s :: r)).length = (cnt s.length).length + s.length + (txtsB r).length := by simp [txtsB, txtB, Nat.add_assoc]
    have h := ih (i + 1) (b ++ encB (txtB s)) e hr2 (by rw [List.length_append, z3o]; unfold txtB; rw [List.length_append]; omega)
    have c := zfy b s e (by omega)
    simp only [penA] at c
    have eb : b ++ encB (txtsB (s :: r)) = b ++ encB (txtB s) ++ encB (txtsB r) := by simp [txtsB, zp]
    refine zhm _ _ _ _ _ ?_; rw [eb]; simp only [zay, h2, Int.natCast_nonneg, nthE, Int.toNat_natCast, List.getElem?_map, hget, Option.map_some, orFail, z9s, zb, z9, zi, za, ze, zj, u_asA, u_asC, u_asI, u_asB, u_asS, u_asL, zu, u_asN, z23, Option.bind_some, nbeq, zv, decide_true, cond_true, cond_false, c, e1]; exact h
theorem zqk (l : List Stp) : (if 40 < l.length then (7 : Int) else if l.all tRightS = true then 0 else 2) = 0 ↔ rightsS l = true := by
  unfold rightsS
  by_cases h : 40 < l.length
  · have : ¬ (l.length ≤ 40) := by omega
    simp [h, this]
  · have h' : l.length ≤ 40 := by omega
    rcases bor (l.all tRightS) with q | q <;> simp [h, h', q]
theorem zff (l : List Stp) : ((if 40 < l.length then (7 : Int) else if l.all tRightS = true then 0 else 2) == 0) = rightsS l := by
  rw [Bool.eq_iff_iff, beq_iff_eq]; exact zqk l
theorem z8s {l : List Stp} (hl : l.length ≤ 60) (h : ∀ x ∈ l, x.ok ∧ tRightS x = true) : (lstB l).length ≤ 400000 := by
  have h7 : (cnt l.length).length ≤ 10 := zg (by omega)
  have := zb7 l h; unfold lstB; rw [List.length_append]; omega
theorem z6w {l : List Stp} (hok : ∀ s ∈ l, s.ok) (h : rightsS l = true) : l.length ≤ 40 ∧ l.all tRightS = true ∧ (∀ x ∈ l, x.ok ∧ tRightS x = true) := by
  simp only [rightsS, Bool.and_eq_true, decide_eq_true_eq] at h; exact ⟨h.1, h.2, fun x hx => ⟨hok x hx, List.all_eq_true.1 h.2 x hx⟩⟩
theorem zm4 {x : Lnk} (hx : x.ok) (hs : x.sml) (h : lnkS x = true) : (lnkB x).length ≤ 2000000 := by
  obtain ⟨h1, h2, h3, h4⟩ := hx; simp only [lnkS, Bool.and_eq_true, decide_eq_true_eq] at h; obtain ⟨g1, g2, g3, _, g4, g5⟩ := h; obtain ⟨p1, p2, p3⟩ := z6w h3 g4; obtain ⟨q1, q2, q3⟩ := z6w h4 g5; have a1 := z8q h2 g3
  have a2 := z8s (by omega) p3
  have a3 := z8s (by omega) q3
  have c0 : (cnt x.fr.toNat).length ≤ 10 := zg (by omega)
  have c1 : (cnt (schB x.to).length).length ≤ 10 := zg (by omega)
  have c2 : (cnt (lstB x.on).length).length ≤ 10 := zg (by omega)
  have c3 : (cnt (lstB x.back).length).length ≤ 10 := zg (by omega)
  unfold lnkB txtB; simp only [List.length_append]; omega
theorem zxc (x : Lnk) (hx : x.ok) (hs : x.sml) : tbl E0 38 [lnkV x] [] = some ([.lst .ro 1 (if lnkS x = true then encB (lnkB x) else []), iV (if lnkS x = true then 0 else 2)], []) :=
  zwe x (by
    have hx0 := hx; obtain ⟨h1, h2, h3, h4⟩ := hx; obtain ⟨s1, s2, s3⟩ := hs; have c1 := zxa x.to h2 s1; have c2 := zlz x.on (fun y hy => ⟨h3 y hy, s2.2 y hy⟩); have c3 := zlz x.back (fun y hy => ⟨h4 y hy, s3.2 y hy⟩); simp only [schV, stpsV] at c1 c2 c3
    have e0 : ((if schS x.to = true then (0 : Int) else 2) == 0) = schS x.to := by rcases bor (schS x.to) with q | q <;> simp [q]
    have er : (bif (if schS x.to = true then (0 : Int) else 2) != 0 then true else bif (if 40 < x.on.length then (7 : Int) else if x.on.all tRightS = true then 0 else 2) != 0 then true else bif (if 40 < x.back.length then (7 : Int) else if x.back.all tRightS = true then 0 else 2) != 0 then true else bif decide (x.fr < 1) then true else bif decide (x.fr > 65535) then true else (x.fr == x.to.ver)) = !lnkS x := by
      simp only [bne, e0, zff, lnkS]
      have k1 : decide (x.fr < 1) = !decide (1 ≤ x.fr) := by rw [← decide_not]; exact decide_eq_decide.2 (by omega)
      have k2 : decide (x.fr > 65535) = !decide (x.fr ≤ 65535) := by rw [← decide_not]; exact decide_eq_decide.2 (by omega)
      have k3 : (x.fr == x.to.ver) = (x.to.ver == x.fr) := by rw [Bool.eq_iff_iff, beq_iff_eq, beq_iff_eq]; exact eq_comm
      rw [k1, k2, k3]
      cases schS x.to <;> cases rightsS x.on <;> cases rightsS x.back <;> cases decide (1 ≤ x.fr) <;> cases decide (x.fr ≤ 65535) <;> cases (x.to.ver == x.fr) <;> rfl
    simp only [zl9, zb, z9, zi, za, ze, zj, u_asA, u_asC, u_asI, u_asB, u_asS, u_asL, zu, u_asN, z23, Option.bind_some, nbeq, zv, decide_true, cond_true, cond_false, zk, c1, c2, c3]; simp only [z2g, Option.bind_some, Tok.untok_tok, er]
    rcases bor (lnkS x) with q | q
    · have hlen := zm4 hx0 ⟨s1, s2, s3⟩ q
      have q0 := q; simp only [lnkS, Bool.and_eq_true, decide_eq_true_eq] at q0; obtain ⟨g1, g2, g3, _, g4, g5⟩ := q0; obtain ⟨p1, p2, p3⟩ := z6w h3 g4; obtain ⟨q1, q2, q3⟩ := z6w h4 g5; have a1 := z8q h2 g3
      have a2 := z8s (by omega) p3
      have a3 := z8s (by omega) q3
      have hc : (cnt x.fr.toNat).length ≤ 10 := zg (by omega)
      have d1 := z1o [] x.fr 0 (by simp) (by omega) h1.2
      simp only [List.nil_append] at d1
      have et : cnt x.fr.toNat ++ txtsB [schB x.to, lstB x.on, lstB x.back] = lnkB x := by simp [txtsB, lnkB]
      have k := zu1 [schB x.to, lstB x.on, lstB x.back] (by simp) (by intro s hs; simp at hs; rcases hs with rfl | rfl | rfl <;> omega) _ 0 (encB (cnt x.fr.toNat)) 0 rfl (by rw [List.drop_zero, z3o, ← List.length_append, et]; omega)
      rw [← zp, List.drop_zero, et] at k
      have d := zfz (lnkB x) 0 (by omega)
      simp only [penV, penA, if_true] at d; simp only [List.map_cons, List.map_nil, bytesV, Int.natCast_zero, List.length_cons, List.length_nil] at k; simp only [q, g3, p1, p2, q1, q2, and_self, if_true, Bool.not_true, zb, z9, zi, za, ze, zj, u_asA, u_asC, u_asI, u_asB, u_asS, u_asL, zu, u_asN, z23, Option.bind_some, nbeq, zv, decide_true, cond_true, cond_false, List.length_cons, List.length_nil, c_New, d1, k, d, Nat.one_ne_zero]
    · simp only [q, Bool.not_false, cond_true, Bool.false_eq_true, if_false])
theorem zxd (x : Lnk) (hx : x.ok) (hs : x.sml) : tbl E0 24 [lnkV x] [] = some ([.bool (lnkS x)], []) :=
  zwd x (by
    have c := zxc x hx hs; simp only [lnkV, lnkC] at c; simp only [zl8, zb, z9, zi, za, ze, zj, u_asA, u_asC, u_asI, u_asB, u_asS, u_asL, zu, u_asN, z23, Option.bind_some, nbeq, zv, decide_true, cond_true, cond_false, zk, c]; simp only [z2g, Option.bind_some, Tok.untok_tok]
    have e : ((if lnkS x = true then (0 : Int) else 2) == 0) = lnkS x := by rcases bor (lnkS x) with q | q <;> simp [q]
    simp only [e]
    have k : (bif decide (x.fr < 1) then true else bif decide (x.fr > 65535) then true else (x.fr == x.to.ver)) = true → lnkS x = false := by
      intro h; unfold lnkS
      by_cases h1 : x.fr < 1
      · have : ¬ (1 ≤ x.fr) := by omega
        simp [this]
      · by_cases h2 : x.fr > 65535
        · have : ¬ (x.fr ≤ 65535) := by omega
          simp [this]
        · simp only [h1, h2, decide_false, cond_false, beq_iff_eq] at h
          simp [h]
    rcases bor (bif decide (x.fr < 1) then true else bif decide (x.fr > 65535) then true else (x.fr == x.to.ver)) with h | h
    · rw [h, k h]; rfl
    · rw [h]; rfl)
theorem zu2 (x : Lnk) (hs : x.sml) : tbl E0 16 [lnkV x] [] = some ([.bool (lnkS x)], []) :=
  zse x (by
    obtain ⟨s1, s2, s3⟩ := hs; have c1 := z5b x.to s1; have c2 := zf9 x.on s2.2; have c3 := zf9 x.back s3.2; simp only [schV, stpsV] at c1 c2 c3; simp only [zhk, zb, z9, zi, za, ze, zj, u_asA, u_asC, u_asI, u_asB, u_asS, u_asL, zu, u_asN, z23, Option.bind_some, nbeq, zv, decide_true, cond_true, cond_false, zk, c1, c2, c3, zff]; simp only [z2g, Option.bind_some, Tok.untok_tok, z7n, lnkS])
end Go.Proofs.YtjkjhgfiaodgmaaGreat.V
namespace Go.Proofs.YtjkjhgfiaodgmaaGreat.V
open Go
def Man.sml (x : Man) : Prop := Sml x.sch ∧ x.links.length ≤ 12 ∧ ∀ l ∈ x.links, l.sml
end Go.Proofs.YtjkjhgfiaodgmaaGreat.V
namespace Go.Proofs.YtjkjhgfiaodgmaaGreat.V
open Go
def lpW (l : List Lnk) : List (Int × Int) := l.map fun x => (x.fr, x.to.ver)
def resD : Option (List Nat) → List AV
  | some w => [natsV w, .bool true]
  | none => [natsV [], .bool false]
theorem zxe {α : Type} {L : List α} {f : α → Option (List Nat)} {w : List Nat} {n : Nat} (h : L.findSome? f = some w) (hf : ∀ p u, f p = some u → u.length = n) : w.length = n := by
  obtain ⟨p, _, h2⟩ := List.exists_of_findSome?_eq_some h; exact hf p w h2
theorem zbq (l : List (Int × Int)) (g : Int) : ∀ (n : Nat) (v : Int) (w : List Nat), dfsW l g n v = some w → w.length = n
  | 0, v, w, h => by
    unfold dfsW at h
    split at h
    · injection h with h; rw [← h]; rfl
    · cases h
  | n + 1, v, w, h => by
    unfold dfsW at h; refine zxe h fun p u hu => ?_
    cases hd : dfsW l g n p.2 with
    | none => rw [hd] at hu; cases hu
    | some x =>
      rw [hd] at hu; injection hu with hu; rw [← hu, List.length_cons, zbq l g n p.2 x hd]
theorem zxf (l : List Lnk) (g : Int) (n : Nat) (hl : l.length ≤ 100) (hn : n ≤ 100)
    (ihn : ∀ v : Int, tbl E0 22 [.agg [lnksV l, iV g], iV v, iV n] [] = some (resD (dfsW (lpW l) g n v), [])) (v : Int) : ∀ (r : List Lnk) (i : Nat), l.drop i = r →
    ltbl E0 22 0 4 [iV v, iV ((n + 1 : Nat) : Int), lnksV l, iV l.length, iV i] [[lnksV l, iV g]] =
      some (match (outW i v (lpW r)).findSome? (fun p => (dfsW (lpW l) g n p.2).map (p.1 :: ·)) with | some w => (0, [natsV w, .bool true], []) | none => (1, [], [])) := by
  intro r
  induction r with
  | nil =>
    intro i hr
    have h : l.length ≤ i := by simpa using hr
    have : ¬ ((i : Int) < l.length) := by omega
    refine zlc _ _ _ _ _ _ ?_; simp [z65, this, lpW, outW]
  | cons x r ih =>
    intro i hr; obtain ⟨hlt, hget, hr2⟩ := zl hr
    have h2 : (i : Int) < l.length := by omega
    have e1 := zh (i := i) (by omega)
    have e := ih (i + 1) hr2
    have ew : IntKind.i64.wrap (((n + 1 : Nat) : Int) - 1) = (n : Int) := by
      rw [show ((n + 1 : Nat) : Int) - 1 = (n : Int) by omega]
      exact wrap_i64 _ (by omega) (by omega)
    refine zlc _ _ _ _ _ _ ?_
    have eo : outW i v (lpW (x :: r)) = if x.fr = v then (i, x.to.ver) :: outW (i + 1) v (lpW r) else outW (i + 1) v (lpW r) := rfl
    rw [eo]; simp only [lnksV] at e
    by_cases hv : x.fr = v
    · have hv' : (x.fr != v) = false := by simp [hv]
      have c := ihn x.to.ver; rw [if_pos hv, List.findSome?_cons]; simp only [lnksV] at c
      cases hd : dfsW (lpW l) g n x.to.ver with
      | none =>
        rw [hd] at c; simp only [resD, natsV, List.map_nil] at c; simp only [Option.map_none, z65, h2, decide_true, cond_true, cond_false, z9, Int.natCast_nonneg, nthE, Int.toNat_natCast, List.getElem?_map, hget, Option.map_some, lnkV, lnkC, frmsV, stpsV, u_asA, u_asC, u_asI, u_asB, u_asL, u_asN, hv', za, ew, c, Option.bind_some, e1]; exact e
      | some w =>
        rw [hd] at c; have hw := zbq _ _ _ _ _ hd
        have hq : (0 + 1 + w.length) * 8 ≤ 211106232532992 := by omega
        simp only [resD, natsV] at c; simp only [Option.map_some, z65, h2, decide_true, cond_true, cond_false, z9, Int.natCast_nonneg, nthE, Int.toNat_natCast, List.getElem?_map, hget, lnkV, lnkC, frmsV, stpsV, u_asA, u_asC, u_asI, u_asB, u_asL, u_asN, hv', za, ew, c, Option.bind_some, List.length_cons, List.length_nil, List.length_map, hq]; rfl
    · have hv' := bne_t hv
      rw [if_neg hv]; simp only [z65, h2, decide_true, cond_true, z9, Int.natCast_nonneg, nthE, Int.toNat_natCast, List.getElem?_map, hget, Option.map_some, lnkV, lnkC, frmsV, stpsV, u_asA, u_asC, u_asI, u_asB, u_asL, u_asN, hv', e1]; exact e
theorem zp7 (l : List Lnk) (g : Int) (hl : l.length ≤ 100) : ∀ n : Nat, n ≤ 100 → ∀ v : Int, tbl E0 22 [.agg [lnksV l, iV g], iV v, iV n] [] = some (resD (dfsW (lpW l) g n v), [])
  | 0, _, v => zoo l g v 0 (by
    simp only [zg2, z9, cond_true, (by decide : ((0 : Int) == 0) = true), dfsW]
    by_cases h : v = g
    · rw [if_pos h]; simp [h, resD]
    · rw [if_neg h]; simp [h, resD])
  | n + 1, hn, v => zoo l g v ((n + 1 : Nat) : Int) (by
    have c := zxf l g n hl (by omega) (zp7 l g hl n (by omega)) v l 0 rfl
    have h0 : (((n + 1 : Nat) : Int) == 0) = false := by
      have : ((n + 1 : Nat) : Int) ≠ 0 := by omega
      simpa using this
    have ed : dfsW (lpW l) g (n + 1) v = (outW 0 v (lpW l)).findSome? fun p => (dfsW (lpW l) g n p.2).map (p.1 :: ·) := rfl
    rw [ed]; simp only [lnksV, Int.natCast_zero] at c; simp only [zg2, z9, cond_true, h0, cond_false, zb, List.length_map, ze, c, Option.bind_some]
    cases (outW 0 v (lpW l)).findSome? fun p => (dfsW (lpW l) g n p.2).map (p.1 :: ·) with
    | none => rfl
    | some w => rfl)
def wayW (l : List Lnk) (a b : Int) : List Nat × Int :=
  if 8 < l.length then ([], 7) else match (List.range' 0 (l.length + 1)).findSome? (fun n => dfsW (lpW l) b n a) with | some w => (w, 0) | none => ([], 19)
theorem zzp (l : List Lnk) (a b : Int) (hl : l.length ≤ 8) : ∀ (c i : Nat), i + c = l.length + 1 →
    ltbl E0 10 0 4 [lnksV l, iV a, iV b, iV ((l.length + 1 : Nat) : Int), iV i] [] =
      some (match (List.range' i c).findSome? (fun n => dfsW (lpW l) b n a) with | some w => (0, [natsV w, iV 0], []) | none => (1, [], [])) := by
  intro c
  induction c with
  | zero =>
    intro i hi
    have : ¬ ((i : Int) < ((l.length + 1 : Nat) : Int)) := by omega
    refine zop _ _ _ _ _ ?_; simp only [zbj, this, decide_false, cond_false]; rfl
  | succ c ih =>
    intro i hi
    have h2 : (i : Int) < ((l.length + 1 : Nat) : Int) := by omega
    have e1 := zh (i := i) (by omega)
    have e := ih (i + 1) (by omega)
    have cf := zp7 l b (by omega) i (by omega) a
    refine zop _ _ _ _ _ ?_; rw [List.range'_succ, List.findSome?_cons]; simp only [lnksV] at cf e
    cases hd : dfsW (lpW l) b i a with
    | none =>
      rw [hd] at cf; simp only [resD, natsV, List.map_nil] at cf; simp only [zbj, h2, decide_true, cond_true, cond_false, z9, za, cf, Option.bind_some, u_asC, u_asB, u_asL, u_asN, e1]; exact e
    | some w =>
      rw [hd] at cf; simp only [resD, natsV] at cf; simp only [zbj, h2, decide_true, cond_true, z9, za, cf, Option.bind_some, u_asC, u_asB, u_asL, u_asN]
theorem z11v (l : List Lnk) (a b : Int) : tbl E0 10 [lnksV l, iV a, iV b] [] = some ([natsV (wayW l a b).1, iV (wayW l a b).2], []) := z117 l a b (by
  by_cases h : 8 < l.length
  · have h' : (l.length : Int) > 8 := by omega
    simp [zla, h', wayW, h]
  · have h' : ¬ ((l.length : Int) > 8) := by omega
    have c := zzp l a b (by omega) (l.length + 1) 0 (by omega)
    have ew : IntKind.i64.wrap ((l.length : Int) + 1) = ((l.length + 1 : Nat) : Int) := zh (by omega)
    simp only [lnksV, Int.natCast_zero] at c; rw [wayW, if_neg h]; simp only [zla, zb, List.length_map, h', decide_false, cond_false, ew, ze, c, Option.bind_some]
    cases (List.range' 0 (l.length + 1)).findSome? (fun n => dfsW (lpW l) b n a) with
    | none => rfl
    | some w => rfl)
theorem zzq (d : List Wy) (n : Int) (hl : d.length ≤ 2000000000) : ∀ (r : List Wy) (i : Nat), d.drop i = r →
    ltbl E0 31 0 2 [.lst .ro 1 (endL d), iV n, iV i] [] = some (if (endsW r).contains n then (0, [.bool true], []) else (1, [], [])) := by
  intro r
  induction r with
  | nil =>
    intro i hr
    have h : d.length ≤ i := by simpa using hr
    have : ¬ ((i : Int) < d.length) := by omega
    refine zoq _ _ _ ?_; simp [zbk, this, endsW]
  | cons x r ih =>
    intro i hr; obtain ⟨hlt, hget, hr2⟩ := zl hr
    have h2 : (i : Int) < d.length := by omega
    have e1 := zh (i := i) (by omega)
    have e := ih (i + 1) hr2; refine zoq _ _ _ ?_
    have ec : (endsW (x :: r)).contains n = ((x.2 == n) || (endsW r).contains n) := by
      simp only [endsW, List.map_cons, List.contains_cons]
      rw [show (n == x.2) = (x.2 == n) from by rw [Bool.eq_iff_iff, beq_iff_eq, beq_iff_eq]; exact eq_comm]
    simp only [endL] at e; rw [ec]
    rcases bor (x.2 == n) with hb | hb
    · rw [hb, Bool.true_or, if_pos rfl]
      simp only [zbk, endL, zb, List.length_map, h2, decide_true, cond_true, z9, Int.natCast_nonneg, nthE, Int.toNat_natCast, List.getElem?_map, hget, Option.map_some, u_asI, hb]
    · simp only [zbk, endL, zb, List.length_map, h2, decide_true, cond_true, z9, Int.natCast_nonneg, nthE, Int.toNat_natCast, List.getElem?_map, hget, Option.map_some, u_asI, hb, cond_false, e1, Bool.false_or]
      exact e
theorem z11w (d : List Wy) (n : Int) (hl : d.length ≤ 2000000000) : tbl E0 31 [.lst .ro 1 (endL d), iV n] [] = some ([.bool ((endsW d).contains n)], []) := z118 d n (by
  have c := zzq d n hl d 0 rfl; simp only [Int.natCast_zero] at c; simp only [zsg, ze, c, Option.bind_some]
  rcases bor ((endsW d).contains n) with hb | hb
  · rw [hb, if_pos rfl]
    simp only [nbeq, decide_true, cond_true, u_asC, u_asB, u_asN]
  · rw [hb, if_neg (by decide)]
    simp only [nbeq, decide_true, decide_false, (by decide : (1 : Nat) ≠ 0), cond_true, cond_false, u_asC, u_asB, u_asN])
set_option maxRecDepth 100000 in
theorem zzr (l : List Lnk) (b : Int) (w : List Wy) (k i : Nat) (q : Wy) (hq : w[i]? = some q) (hql : q.1.length ≤ 100) (hl : l.length ≤ 8) : ∀ (r : List Lnk) (j : Nat) (d : List Wy), l.drop j = r → d.length + r.length ≤ 2000000000 →
    ltbl E0 15 0 16 [lnksV l, iV b, .lst .ro 1 (wysL w), .lst .ro 1 (endL w), iV k, .lst (.own (.L 11)) 1 (wysL d), .lst (.own (.L 12)) 1 (endL d), iV i, iV j] [] =
      some (5, [lnksV l, iV b, .lst .ro 1 (wysL w), .lst .ro 1 (endL w), iV k, .lst (.own (.L 11)) 1 (wysL (addW d ((outW j q.2 (lpW r)).map fun p => (q.1 ++ [p.1], p.2)))), .lst (.own (.L 12)) 1 (endL (addW d ((outW j q.2 (lpW r)).map fun p => (q.1 ++ [p.1], p.2)))), iV i], []) := by
  intro r
  induction r with
  | nil =>
    intro j d hr hd
    have h : l.length ≤ j := by simpa using hr
    have : ¬ ((j : Int) < l.length) := by omega
    refine zot _ _ _ _ _ _ _ ?_; simp only [z7m, zb, List.length_map, this, decide_false, cond_false, lpW, List.map_nil, outW, addW]
  | cons x r ih =>
    intro j d hr hd; obtain ⟨hlt, hget, hr2⟩ := zl hr; rw [List.length_cons] at hd
    have h2 : (j : Int) < l.length := by omega
    have e1 := zh (i := j) (by omega)
    have eo : outW j q.2 (lpW (x :: r)) = if x.fr = q.2 then (j, x.to.ver) :: outW (j + 1) q.2 (lpW r) else outW (j + 1) q.2 (lpW r) := rfl
    rw [eo]; refine zot _ _ _ _ _ _ _ ?_
    by_cases hv : x.fr = q.2
    · have hv' : (x.fr == q.2) = true := by simpa using hv
      have ch := z11w d x.to.ver (by omega)
      rw [if_pos hv, List.map_cons, addW]; simp only [lnksV, endL] at ch
      rcases bor ((endsW d).contains x.to.ver) with hb | hb
      · have e := ih (j + 1) d hr2 (by omega)
        rw [hb] at ch; simp only [lnksV, endL, wysL] at e; rw [hb, if_pos rfl]; simp only [z7m, endL, wysL, zb, List.length_map, h2, decide_true, cond_true, cond_false, z9, Int.natCast_nonneg, nthE, Int.toNat_natCast, List.getElem?_map, hget, hq, Option.map_some, lnkV, lnkC, frmsV, stpsV, u_asA, u_asC, u_asI, u_asB, u_asL, u_asN, hv', za, ch, Option.bind_some, Bool.not_true, e1]; exact e
      · have e := ih (j + 1) (d ++ [(q.1 ++ [j], x.to.ver)]) hr2 (by rw [List.length_append, List.length_cons, List.length_nil]; omega)
        rw [hb] at ch
        have n1 : (0 + q.1.length) * 8 ≤ 211106232532992 := by omega
        have n2 : (q.1.length + (0 + 1)) * 8 ≤ 211106232532992 := by omega
        have n3 : (d.length + (0 + 1)) * 24 ≤ 211106232532992 := by omega
        have n4 : (d.length + (0 + 1)) * 8 ≤ 211106232532992 := by omega
        simp only [lnksV, endL, wysL, List.map_append, List.map_cons, List.map_nil, natsV] at e
        rw [hb, if_neg (by decide)]
        simp only [z7m, endL, wysL, natsV, zb, List.length_map, List.length_cons, List.length_nil, h2, decide_true, cond_true, cond_false, z9, Int.natCast_nonneg, nthE, Int.toNat_natCast, List.getElem?_map, hget, hq, Option.map_some, lnkV, lnkC, frmsV, stpsV, u_asA, u_asC, u_asI, u_asB, u_asL, u_asN, hv', za, ch, Option.bind_some, Bool.not_false, e1, n1, n2, n3, n4]; exact e
    · have hv' : (x.fr == q.2) = false := beq_f hv
      have e := ih (j + 1) d hr2 (by omega)
      simp only [lnksV, endL, wysL] at e; rw [if_neg hv]; simp only [z7m, endL, wysL, zb, List.length_map, h2, decide_true, cond_true, cond_false, z9, Int.natCast_nonneg, nthE, Int.toNat_natCast, List.getElem?_map, hget, hq, Option.map_some, lnkV, lnkC, frmsV, stpsV, u_asA, u_asC, u_asI, u_asL, u_asN, hv', e1]; exact e
theorem zdl : ∀ (I D : List Wy), (addW D I).length ≤ D.length + I.length
  | [], D => by simp [addW]
  | q :: r, D => by
    rw [addW]
    have := zdl r (if (endsW D).contains q.2 then D else D ++ [q])
    split at this
    · rename_i c; rw [if_pos c]; simp; omega
    · rename_i c; rw [if_neg c]; simp at this ⊢; omega
theorem zm5 : ∀ (l : List (Int × Int)) (i : Nat) (v : Int), (outW i v l).length ≤ l.length
  | [], i, v => by simp [outW]
  | (a, b) :: r, i, v => by
    have := zm5 r (i + 1) v; rw [outW]
    split <;> simp <;> omega
theorem zm6 (l : List Lnk) (q : Wy) : (extW (lpW l) q).length ≤ l.length := by
  have := zm5 (lpW l) 0 q.2; simp only [extW, List.length_map] at this ⊢
  simpa [lpW] using this
set_option maxRecDepth 100000 in
theorem zzs (l : List Lnk) (b : Int) (w : List Wy) (k : Nat) (hl : l.length ≤ 8) (hw : ∀ q ∈ w, q.1.length ≤ 100) (hwl : w.length ≤ 200000000) : ∀ (r : List Wy) (i : Nat) (d : List Wy), w.drop i = r → d.length + r.length * 8 ≤ 1800000000 →
    ltbl E0 15 0 11 [lnksV l, iV b, .lst .ro 1 (wysL w), .lst .ro 1 (endL w), iV k, .lst (.own (.L 11)) 1 (wysL d), .lst (.own (.L 12)) 1 (endL d), iV i] [] =
      some (match fndW b r with | some q => (0, [natsV q.1, iV 0], []) | none => (3, [lnksV l, iV b, iV k, .lst (.own (.L 11)) 1 (wysL (addW d (r.flatMap (extW (lpW l))))), .lst (.own (.L 12)) 1 (endL (addW d (r.flatMap (extW (lpW l)))))], [])) := by
  intro r
  induction r with
  | nil =>
    intro i d hr hd
    have h : w.length ≤ i := by simpa using hr
    have : ¬ ((i : Int) < w.length) := by omega
    refine zos _ _ _ _ _ _ ?_; simp only [zbm, wysL, zb, List.length_map, this, decide_false, cond_false]; rfl
  | cons q r ih =>
    intro i d hr hd; obtain ⟨hlt, hget, hr2⟩ := zl hr; rw [List.length_cons] at hd
    have h2 : (i : Int) < w.length := by omega
    have e1 := zh (i := i) (by omega)
    refine zos _ _ _ _ _ _ ?_
    by_cases hb : q.2 = b
    · have hb' : (q.2 == b) = true := by simpa using hb
      have ef : fndW b (q :: r) = some q := by simp [fndW, hb]
      rw [ef]; simp only [zbm, wysL, endL, natsV, zb, List.length_map, h2, decide_true, cond_true, z9, Int.natCast_nonneg, nthE, Int.toNat_natCast, List.getElem?_map, hget, Option.map_some, u_asI, u_asL, hb']
    · have hb' : (q.2 == b) = false := beq_f hb
      have ef : fndW b (q :: r) = fndW b r := by simp [fndW, hb]
      have cn := zzr l b w k i q hget (hw q (z11 hr)) hl l 0 d rfl (by omega)
      have ee : ((outW 0 q.2 (lpW l)).map fun p => (q.1 ++ [p.1], p.2)) = extW (lpW l) q := rfl; rw [ee] at cn; have hle := zdl (extW (lpW l) q) d; have hle2 := zm6 l q
      have e := ih (i + 1) (addW d (extW (lpW l) q)) hr2 (by omega)
      rw [ef, List.flatMap_cons, z51]; simp only [lnksV, wysL, endL, Int.natCast_zero] at cn e; simp only [zbm, wysL, endL, zb, List.length_map, h2, decide_true, cond_true, cond_false, z9, Int.natCast_nonneg, nthE, Int.toNat_natCast, List.getElem?_map, hget, Option.map_some, u_asC, u_asI, u_asL, zu, u_asN, hb', ze, cn, Option.bind_some, nbeq, zv, e1]; exact e
theorem zp8 (l : List Lnk) (a : Int) (hl : l.length ≤ 8) : ∀ n : Nat, (layW (lpW l) a n).length ≤ 8 ^ n ∧ ∀ q ∈ layW (lpW l) a n, q.1.length = n
  | 0 => by simp [layW]
  | n + 1 => by
    obtain ⟨h1, h2⟩ := zp8 l a hl n
    have fl : ∀ I : List Wy, (I.flatMap (extW (lpW l))).length ≤ I.length * 8 := by
      intro I
      induction I with
      | nil => simp
      | cons q I ih =>
        have := zm6 l q; rw [List.flatMap_cons, List.length_append, List.length_cons]; omega
    have mem : ∀ (I D : List Wy) (q : Wy), q ∈ addW D I → q ∈ D ∨ q ∈ I := by
      intro I
      induction I with
      | nil => intro D q hq; exact .inl hq
      | cons p I ih =>
        intro D q hq; rw [addW] at hq
        rcases ih _ q hq with h | h
        · split at h
          · exact .inl h
          · rcases List.mem_append.1 h with h | h
            · exact .inl h
            · exact .inr (by simp at h; simp [h])
        · exact .inr (by simp [h])
    refine ⟨?_, fun q hq => ?_⟩
    · have a1 := zdl ((layW (lpW l) a n).flatMap (extW (lpW l))) []
      have a2 := fl (layW (lpW l) a n); rw [layW, Nat.pow_succ]; simp only [List.length_nil, Nat.zero_add] at a1; omega
    · rw [layW] at hq
      rcases mem _ _ q hq with h | h
      · simp at h
      · obtain ⟨p, hp, h⟩ := List.mem_flatMap.1 h
        simp only [extW, List.mem_map] at h; obtain ⟨x, _, rfl⟩ := h; simp [h2 p hp]
set_option maxRecDepth 100000 in
theorem zzt (l : List Lnk) (a b : Int) (hl : l.length ≤ 8) : ∀ (c k : Nat), k + c = l.length + 1 →
    ltbl E0 15 0 6 [lnksV l, iV b, .lst .ro 1 (wysL (layW (lpW l) a k)), .lst .ro 1 (endL (layW (lpW l) a k)), iV k] [] =
      some (match (List.range' k c).findSome? (fun n => dfsW (lpW l) b n a) with | some w => (0, [natsV w, iV 0], []) | none => (1, [], [])) := by
  intro c
  induction c with
  | zero =>
    intro k hk
    have : ¬ ((k : Int) ≤ l.length) := by omega
    refine zor _ _ _ _ ?_; simp only [zbl, zb, List.length_map, this, decide_false, cond_false]; rfl
  | succ c ih =>
    intro k hk
    have h2 : (k : Int) ≤ l.length := by omega
    have e1 := zh (i := k) (by omega)
    obtain ⟨b1, b2⟩ := zp8 l a hl k
    have bp : (8 : Nat) ^ k ≤ 8 ^ 8 := Nat.pow_le_pow_right (by decide) (by omega)
    have bq : (8 : Nat) ^ 8 = 16777216 := by decide
    have cm := zzs l b (layW (lpW l) a k) k hl (fun q hq => by rw [b2 q hq]; omega) (by omega) (layW (lpW l) a k) 0 [] rfl (by simp only [List.length_nil]; omega)
    have e := ih (k + 1) (by omega)
    have el : layW (lpW l) a (k + 1) = addW [] ((layW (lpW l) a k).flatMap (extW (lpW l))) := rfl; have ed := zwf (lpW l) b a k; refine zor _ _ _ _ ?_; rw [List.range'_succ, List.findSome?_cons, ← ed]; rw [el] at e
    cases hf : fndW b (layW (lpW l) a k) with
    | some q =>
      rw [hf] at cm; simp only [lnksV, wysL, endL, natsV, List.map_nil, Int.natCast_zero] at cm; simp only [zbl, zb, List.length_map, h2, decide_true, cond_true, ze, wysL, endL, List.map_nil, cm, Option.bind_some, nbeq, u_asC, u_asI, u_asL, u_asN, Option.map_some]
    | none =>
      rw [hf] at cm; simp only [lnksV, wysL, endL, List.map_nil, Int.natCast_zero] at cm e
      simp only [zbl, zb, List.length_map, h2, decide_true, decide_false, cond_true, cond_false, ze, wysL, endL, List.map_nil, cm, Option.bind_some, nbeq, (by decide : (3 : Nat) ≠ 0), u_asC, u_asI, u_asL, zu, u_asN, zv, Option.map_none, e1]
      exact e
theorem z11x (l : List Lnk) (a b : Int) : tbl E0 15 [lnksV l, iV a, iV b] [] = some ([natsV (wayW l a b).1, iV (wayW l a b).2], []) := z119 l a b (by
  by_cases h : 8 < l.length
  · have h' : (l.length : Int) > 8 := by omega
    simp [zlb, h', wayW, h]
  · have h' : ¬ ((l.length : Int) > 8) := by omega
    have c := zzt l a b (by omega) (l.length + 1) 0 (by omega)
    have el : layW (lpW l) a 0 = [([], a)] := rfl; rw [el] at c; simp only [lnksV, wysL, endL, natsV, List.map_cons, List.map_nil, Int.natCast_zero] at c; rw [wayW, if_neg h]; simp only [zlb, zb, List.length_map, h', decide_false, cond_false, ze, c, Option.bind_some]
    cases (List.range' 0 (l.length + 1)).findSome? (fun n => dfsW (lpW l) b n a) with
    | none => rfl
    | some w => rfl)
end Go.Proofs.YtjkjhgfiaodgmaaGreat.V
namespace Go.Proofs.YtjkjhgfiaodgmaaGreat.V
open Go
variable {H : Type}
end Go.Proofs.YtjkjhgfiaodgmaaGreat.V
namespace Go.Proofs.YtjkjhgfiaodgmaaGreat.V
open Go
variable {H : Type}
theorem z6g {α β : Type} {q : β → Prop} : ∀ {l : List α} {r : List β}, Each (fun _ b => q b) l r → ∀ {b : β}, b ∈ r → q b := by
  intro l r h b hb; obtain ⟨i, hi, e⟩ := List.mem_iff_getElem.1 hb
  obtain ⟨a, _, h2⟩ := h.get i b (by rw [← e]; exact List.getElem?_eq_getElem hi)
  exact h2
theorem zp9 {n : Nat} {d : DataW H} {xs : List AV} (hf : Fit T0 (n + 2) 54 d xs) : ∃ f : Fld, f.ok ∧ xs = fldC f := by
  obtain ⟨ds, yss, rfl, rfl, h⟩ := z3i (fs := [(0, 3), (1, 3), (2, 3), (3, 3), (4, 3)]) (by kernel_rfl) hf
  obtain ⟨d0, ds, y0, yss, rfl, rfl, h0, h⟩ := zm h; obtain ⟨d1, ds, y1, yss, rfl, rfl, h1, h⟩ := zm h; obtain ⟨d2, ds, y2, yss, rfl, rfl, h2, h⟩ := zm h; obtain ⟨d3, ds, y3, yss, rfl, rfl, h3, h⟩ := zm h; obtain ⟨d4, ds, y4, yss, rfl, rfl, h4, h⟩ := zm h; obtain ⟨rfl, rfl⟩ := z2d h
  obtain ⟨a, ha, rfl, rfl⟩ := z1j (by kernel_rfl) h0
  obtain ⟨b, hb, rfl, rfl⟩ := z1j (by kernel_rfl) h1
  obtain ⟨c, hc, rfl, rfl⟩ := z1j (by kernel_rfl) h2
  obtain ⟨e, he, rfl, rfl⟩ := z1j (by kernel_rfl) h3
  obtain ⟨g, hg, rfl, rfl⟩ := z1j (by kernel_rfl) h4
  exact ⟨⟨a, b, c, e, g⟩, ⟨ha, hb, hc, he, hg⟩, rfl⟩
theorem zm7 {n : Nat} {d : DataW H} {xs : List AV} (hf : Fit T0 (n + 3) 57 d xs) : ∃ l : List Fld, (∀ f ∈ l, f.ok) ∧ xs = [fldsV l] := by
  obtain ⟨ds, sp, l, hd, rfl, h⟩ := z48 (e := 54) (by kernel_rfl) hf
  obtain ⟨cs, rfl, hq⟩ := z3v (f := fldV) (Q := fun d f => f.ok) (fun d x ⟨ys, h1, h2⟩ => by
    obtain ⟨f, hf, rfl⟩ := zp9 h1
    exact ⟨f, z4u (by kernel_rfl) h2, hf⟩) h
  exact ⟨cs, fun f hf => z6g hq hf, rfl⟩
theorem zzu {n : Nat} {d : DataW H} {xs : List AV} (hf : Fit T0 (n + 4) 61 d xs) : ∃ f : Frm, f.ok ∧ xs = [iV f.id, fldsV f.fields] := by
  obtain ⟨ds, yss, rfl, rfl, h⟩ := z3i (fs := [(0, 3), (1, 57)]) (by kernel_rfl) hf
  obtain ⟨d0, ds, y0, yss, rfl, rfl, h0, h⟩ := zm h; obtain ⟨d1, ds, y1, yss, rfl, rfl, h1, h⟩ := zm h; obtain ⟨rfl, rfl⟩ := z2d h
  obtain ⟨a, ha, rfl, rfl⟩ := z1j (by kernel_rfl) h0
  obtain ⟨l, hl, rfl⟩ := zm7 h1; exact ⟨⟨a, l⟩, ⟨ha, hl⟩, rfl⟩
theorem zxg {n : Nat} {d : DataW H} {xs : List AV} (hf : Fit T0 (n + 5) 22 d xs) : ∃ l : List Frm, (∀ f ∈ l, f.ok) ∧ xs = [frmsV l] := by
  obtain ⟨ds, sp, l, hd, rfl, h⟩ := z48 (e := 61) (by kernel_rfl) hf
  obtain ⟨cs, rfl, hq⟩ := z3v (f := frmV) (Q := fun d f => f.ok) (fun d x ⟨ys, h1, h2⟩ => by
    obtain ⟨f, hf, rfl⟩ := zzu h1
    exact ⟨f, z4u (by kernel_rfl) h2, hf⟩) h
  exact ⟨cs, fun f hf => z6g hq hf, rfl⟩
theorem zgc {n : Nat} {d : DataW H} {xs : List AV} (hf : Fit T0 (n + 6) 24 d xs) : ∃ s : Sch, s.ok ∧ xs = [iV s.ver, frmsV s.forms] := by
  obtain ⟨ds, yss, rfl, rfl, h⟩ := z3i (fs := [(0, 3), (1, 22)]) (by kernel_rfl) hf
  obtain ⟨d0, ds, y0, yss, rfl, rfl, h0, h⟩ := zm h; obtain ⟨d1, ds, y1, yss, rfl, rfl, h1, h⟩ := zm h; obtain ⟨rfl, rfl⟩ := z2d h
  obtain ⟨a, ha, rfl, rfl⟩ := z1j (by kernel_rfl) h0
  obtain ⟨l, hl, rfl⟩ := zxg h1; exact ⟨⟨a, l⟩, ⟨ha, hl⟩, rfl⟩
end Go.Proofs.YtjkjhgfiaodgmaaGreat.V
namespace Go.Proofs.YtjkjhgfiaodgmaaGreat.V
open Go
variable {H : Type}
theorem zxh {n : Nat} {d : DataW H} {xs : List AV} (hf : Fit T0 (n + 2) 39 d xs) : ∃ l : List Int, (∀ n ∈ l, i64 n) ∧ xs = [intsV l] := by
  obtain ⟨ds, sp, l, hd, rfl, h⟩ := z48 (e := 3) (by kernel_rfl) hf
  obtain ⟨cs, rfl, hq⟩ := z3v (f := fun n => iV n) (Q := fun d n => i64 n) (fun d x ⟨ys, h1, h2⟩ => by
    obtain ⟨a, ha, rfl, rfl⟩ := z1j (by kernel_rfl) h1
    have q := zcq (by kernel_rfl) h2
    injection q with q; exact ⟨a, q.symm, ha⟩) h
  exact ⟨cs, fun f hf => z6g hq hf, rfl⟩
theorem zzv {n : Nat} {d : DataW H} {xs : List AV} (hf : Fit T0 (n + 2) 56 d xs) : ∃ (a : Int) (s : List UInt8), i64 a ∧ xs = [iV a, .str s] := by
  obtain ⟨ds, yss, rfl, rfl, h⟩ := z3i (fs := [(0, 3), (1, 9)]) (by kernel_rfl) hf
  obtain ⟨d0, ds, y0, yss, rfl, rfl, h0, h⟩ := zm h; obtain ⟨d1, ds, y1, yss, rfl, rfl, h1, h⟩ := zm h; obtain ⟨rfl, rfl⟩ := z2d h
  obtain ⟨a, ha, rfl, rfl⟩ := z1j (by kernel_rfl) h0
  obtain ⟨s, rfl, rfl⟩ := zy1 (by kernel_rfl) h1
  exact ⟨a, s, ha, rfl⟩
theorem zzw {n : Nat} {d : DataW H} {xs : List AV} (hf : Fit T0 (n + 4) 59 d xs) : ∃ x : Stp, x.ok ∧ xs = stpC x := by
  obtain ⟨ds, yss, rfl, rfl, h⟩ := z3i (fs := [(0, 3), (1, 3), (2, 3), (3, 3), (4, 3), (5, 3), (6, 3), (7, 54), (12, 56), (14, 39), (15, 57)]) (by kernel_rfl) hf
  obtain ⟨d0, ds, y0, yss, rfl, rfl, h0, h⟩ := zm h; obtain ⟨d1, ds, y1, yss, rfl, rfl, h1, h⟩ := zm h; obtain ⟨d2, ds, y2, yss, rfl, rfl, h2, h⟩ := zm h; obtain ⟨d3, ds, y3, yss, rfl, rfl, h3, h⟩ := zm h; obtain ⟨d4, ds, y4, yss, rfl, rfl, h4, h⟩ := zm h; obtain ⟨d5, ds, y5, yss, rfl, rfl, h5, h⟩ := zm h; obtain ⟨d6, ds, y6, yss, rfl, rfl, h6, h⟩ := zm h; obtain ⟨d7, ds, y7, yss, rfl, rfl, h7, h⟩ := zm h
  obtain ⟨d8, ds, y8, yss, rfl, rfl, h8, h⟩ := zm h; obtain ⟨d9, ds, y9, yss, rfl, rfl, h9, h⟩ := zm h; obtain ⟨dA, ds, yA, yss, rfl, rfl, hA, h⟩ := zm h; obtain ⟨rfl, rfl⟩ := z2d h
  obtain ⟨a0, i0, rfl, rfl⟩ := z1j (by kernel_rfl) h0
  obtain ⟨a1, i1, rfl, rfl⟩ := z1j (by kernel_rfl) h1
  obtain ⟨a2, i2, rfl, rfl⟩ := z1j (by kernel_rfl) h2
  obtain ⟨a3, i3, rfl, rfl⟩ := z1j (by kernel_rfl) h3
  obtain ⟨a4, i4, rfl, rfl⟩ := z1j (by kernel_rfl) h4
  obtain ⟨a5, i5, rfl, rfl⟩ := z1j (by kernel_rfl) h5
  obtain ⟨a6, i6, rfl, rfl⟩ := z1j (by kernel_rfl) h6
  obtain ⟨f, i7, rfl⟩ := zp9 h7; obtain ⟨a8, s, i8, rfl⟩ := zzv h8; obtain ⟨t, i9, rfl⟩ := zxh h9; obtain ⟨fs, iA, rfl⟩ := zm7 hA; exact ⟨⟨a0, a1, a2, a3, a4, a5, a6, f, a8, s, t, fs⟩, ⟨i0, i1, i2, i3, i4, i5, i6, i7, i8, i9, iA⟩, rfl⟩
theorem zm8 {n : Nat} {d : DataW H} {xs : List AV} (hf : Fit T0 (n + 5) 28 d xs) : ∃ l : List Stp, (∀ f ∈ l, f.ok) ∧ xs = [stpsV l] := by
  obtain ⟨ds, sp, l, hd, rfl, h⟩ := z48 (e := 59) (by kernel_rfl) hf
  obtain ⟨cs, rfl, hq⟩ := z3v (f := stpV) (Q := fun d f => f.ok) (fun d x ⟨ys, h1, h2⟩ => by
    obtain ⟨f, hf, rfl⟩ := zzw h1
    exact ⟨f, z4u (by kernel_rfl) h2, hf⟩) h
  exact ⟨cs, fun f hf => z6g hq hf, rfl⟩
end Go.Proofs.YtjkjhgfiaodgmaaGreat.V
namespace Go.Proofs.YtjkjhgfiaodgmaaGreat.V
open Go
variable {H : Type}
end Go.Proofs.YtjkjhgfiaodgmaaGreat.V
namespace Go.Proofs.YtjkjhgfiaodgmaaGreat.V
open Go
variable {H : Type}
theorem zm9 : Sml sch0 := ⟨by simp [sch0], by simp [sch0]⟩
theorem zgd : ∀ (l : List Stp) (i : Nat) (s : Sch), Few s → Sml (allS s i l).1
  | [], i, s, h => h.sml
  | x :: l, i, s, h => by
    unfold allS
    by_cases e : (onS s x).2 = 0
    · rw [if_pos e]; exact zgd l (i + 1) _ (z7o (z3y e))
    · rw [if_neg e]; exact zm9
end Go.Proofs.YtjkjhgfiaodgmaaGreat.V
namespace Go.Proofs.YtjkjhgfiaodgmaaGreat.V
open Go
theorem zpa {s : Sch} {a b : List Stp} (h : (chkS s a b).2 = 0) : (allS s 0 a).2.2 = 0 := by
  by_cases e : (allS s 0 a).2.2 = 0
  · exact e
  · rw [chkS, if_neg e] at h; exact absurd h e
def nowS (s : Sch) (x : Lnk) : Sch := ⟨x.to.ver, (allS s 0 x.on).1.forms⟩
def ovS (s : Sch) (x : Lnk) : Sch × Int :=
  if lnkS x then (if (chkS s x.on x.back).2 = 0 then (nowS s x, if nowS s x = x.to then 0 else 17) else (s, (chkS s x.on x.back).2)) else (s, 2)
theorem zzy (s : Sch) (x : Lnk) (hs : Few s) (hx : x.ok) (hm : x.sml) : tbl E0 12 [schV s, lnkV x] [] = some ([schV (ovS s x).1, iV (ovS s x).2], []) := zz5 s x (by
  have c1 := zxd x hx hm; obtain ⟨m1, ⟨m2, m3⟩, m4, m5⟩ := hm; have ha : ∀ y ∈ x.on, y.sml ∧ y.ok := fun y hy => ⟨m3 y hy, hx.2.2.1 y hy⟩
  have c2 := zx7 s x.on x.back hs (by omega) ha hx.2.2.2
  have c3 := ztk s x.on hs (by omega) ha
  have sm : Sml (nowS s x) := zgd x.on 0 s hs; have c4 := zoh (nowS s x) x.to sm; simp only [lnkV, lnkC, frmsV, stpsV, schV] at c1 c2 c3 c4; simp only [zou, z9, cond_true, za, c1, Option.bind_some, u_asC, u_asB, u_asN]
  rcases bor (lnkS x) with hb | hb
  · simp only [hb, Bool.not_true, cond_false, z9, cond_true, za, c2, Option.bind_some, u_asC, u_asI, u_asN]
    by_cases h : (chkS s x.on x.back).2 = 0
    · have hal := zpa h
      rw [hal] at c3
      have eo : ovS s x = (nowS s x, if nowS s x = x.to then 0 else 17) := by rw [ovS, if_pos hb, if_pos h]
      rw [eo]; simp only [h, bne_self_eq_false, cond_false, cond_true, z9, za, c3, Option.bind_some, u_asC, u_asA, u_asI, u_asL, u_asN, zk, beq_self_eq_true, nowS] at c4 ⊢; simp only [c4, Option.bind_some, u_asC, u_asB, u_asN, Tok.untok_tok]
      by_cases e : (⟨x.to.ver, (allS s 0 x.on).1.forms⟩ : Sch) = x.to
      · have ef : (allS s 0 x.on).1.forms = x.to.forms := by have q := congrArg Sch.forms e; exact q
        simp [e, ef]
      · simp [e]
    · have h' := bne_t h
      have eo : ovS s x = (s, (chkS s x.on x.back).2) := by rw [ovS, if_pos hb, if_neg h]
      rw [eo]; simp only [h', cond_true]
  · have eo : ovS s x = (s, 2) := by rw [ovS, hb]; rfl
    rw [eo]; simp only [hb, Bool.not_false, cond_true])
def runS (l : List Lnk) : Sch → List Stp → List Nat → Sch × List Stp × Int
  | s, d, [] => (s, d, 0)
  | s, d, k :: w => match l[k]? with
    | none => (s, [], 99)
    | some x => if (ovS s x).2 = 0 then runS l (nowS s x) (d ++ x.on) w else (s, [], (ovS s x).2)
def planS (s : Sch) (l : List Lnk) (t : Sch) : List Stp × Int :=
  if schS s && schS t then
    (if (wayW l s.ver t.ver).2 = 0 then
      (if (runS l s [] (wayW l s.ver t.ver).1).2.2 = 0 then
        (if (runS l s [] (wayW l s.ver t.ver).1).1 = t then (if 200 < (runS l s [] (wayW l s.ver t.ver).1).2.1.length then ([], 7) else ((runS l s [] (wayW l s.ver t.ver).1).2.1, 0)) else ([], 17))
        else ([], (runS l s [] (wayW l s.ver t.ver).1).2.2))
      else ([], (wayW l s.ver t.ver).2))
  else ([], 2)
theorem zu4 {s : Sch} {x : Lnk} (h : (ovS s x).2 = 0) (hm : x.sml) (hx : Few x.to) : nowS s x = x.to ∧ Few (nowS s x) := by
  unfold ovS at h
  by_cases hb : lnkS x = true
  · rw [if_pos hb] at h
    by_cases hc : (chkS s x.on x.back).2 = 0
    · rw [if_pos hc] at h
      by_cases e : nowS s x = x.to
      · exact ⟨e, by rw [e]; exact hx⟩
      · simp [e] at h
    · rw [if_neg hc] at h; exact absurd h hc
  · rw [if_neg hb] at h; simp at h
theorem zdm : ∀ (L : List (Int × Int)) (i : Nat) (v : Int) (p : Nat × Int), p ∈ outW i v L → p.1 < i + L.length
  | [], i, v, p, h => by simp [outW] at h
  | (a, b) :: L, i, v, p, h => by
    rw [outW] at h
    split at h
    · rcases List.mem_cons.1 h with rfl | h
      · simp
      · have := zdm L (i + 1) v p h
        rw [List.length_cons]; omega
    · have := zdm L (i + 1) v p h
      rw [List.length_cons]; omega
theorem zu5 (L : List (Int × Int)) (g : Int) : ∀ (n : Nat) (v : Int) (w : List Nat), dfsW L g n v = some w → ∀ k ∈ w, k < L.length
  | 0, v, w, h, k, hk => by
    unfold dfsW at h
    split at h
    · injection h with h; subst h; simp at hk
    · cases h
  | n + 1, v, w, h, k, hk => by
    unfold dfsW at h; obtain ⟨p, hp, h2⟩ := List.exists_of_findSome?_eq_some h
    cases hd : dfsW L g n p.2 with
    | none => rw [hd] at h2; cases h2
    | some u =>
      rw [hd] at h2; injection h2 with h2; subst h2
      rcases List.mem_cons.1 hk with rfl | hk
      · have := zdm L 0 v p hp; omega
      · exact zu5 L g n p.2 u hd k hk
theorem zu6 {l : List Lnk} {a b : Int} : ∀ k ∈ (wayW l a b).1, ∃ x, l[k]? = some x := by
  intro k hk; unfold wayW at hk
  split at hk
  · simp at hk
  · cases h : (List.range' 0 (l.length + 1)).findSome? (fun n => dfsW (lpW l) b n a) with
    | none => rw [h] at hk; simp at hk
    | some w =>
      rw [h] at hk; obtain ⟨n, _, hd⟩ := List.exists_of_findSome?_eq_some h; have := zu5 _ _ _ _ _ hd k hk
      have hl : k < l.length := by simpa [lpW] using this
      exact ⟨_, List.getElem?_eq_getElem hl⟩
theorem z6h (l : List Lnk) (a b : Int) : (wayW l a b).1.length ≤ 9 := by
  unfold wayW
  split
  · simp
  · cases h : (List.range' 0 (l.length + 1)).findSome? (fun n => dfsW (lpW l) b n a) with
    | none => simp
    | some w =>
      obtain ⟨n, hn, hd⟩ := List.exists_of_findSome?_eq_some h; have := zbq _ _ _ _ _ hd; simp only [List.mem_range'_1] at hn; show w.length ≤ 9; omega
theorem zge {l : List Lnk} (hl : ∀ x ∈ l, x.ok ∧ x.sml ∧ Few x.to) : ∀ (w : List Nat) (s : Sch) (d : List Stp), Few s → Few (runS l s d w).1
  | [], s, d, hs => hs
  | k :: w, s, d, hs => by
    rw [runS]
    cases hk : l[k]? with
    | none => exact hs
    | some x =>
      have hx := hl x (List.mem_of_getElem? hk); simp only
      by_cases h : (ovS s x).2 = 0
      · rw [if_pos h]; exact zge hl w _ _ (zu4 h hx.2.1 hx.2.2).2
      · rw [if_neg h]; exact hs
set_option maxRecDepth 100000 in
theorem zqn (l : List Lnk) (t : Sch) (w : List Nat) (hl : ∀ x ∈ l, x.ok ∧ x.sml ∧ Few x.to) (hw : ∀ k ∈ w, ∃ x, l[k]? = some x) (hwl : w.length ≤ 100) : ∀ (r : List Nat) (i : Nat) (s : Sch) (d : List Stp), w.drop i = r → Few s → d.length + 60 * r.length ≤ 100000 →
    ltbl E0 6 0 8 [lnksV l, .lst (.own (.L 10)) 16 (d.map stpV), natsV w, iV w.length, iV i] [[iV s.ver, frmsV s.forms], [iV t.ver, frmsV t.forms]] =
      some (if (runS l s d r).2.2 = 0 then (1, [.lst (.own (.L 10)) 16 ((runS l s d r).2.1.map stpV)], [[iV (runS l s d r).1.ver, frmsV (runS l s d r).1.forms], [iV t.ver, frmsV t.forms]]) else (0, [stpsV [], iV (runS l s d r).2.2], [])) := by
  intro r
  induction r with
  | nil =>
    intro i s d hr hs hd
    have h : w.length ≤ i := by simpa using hr
    refine zf1 _ _ _ _ _ _ _ ?_
    have : ¬ ((i : Int) < w.length) := by omega
    simp only [z5k, this, decide_false, cond_false, runS, if_true]
  | cons k r ih =>
    intro i s d hr hs hd; obtain ⟨hlt, hget, hr2⟩ := zl hr; rw [List.length_cons] at hd
    have h2 : (i : Int) < w.length := by omega
    have e1 := zh (i := i) (by omega)
    obtain ⟨x, hxk⟩ := hw k (z11 hr); have hx := hl x (List.mem_of_getElem? hxk); have c := zzy s x hs hx.1 hx.2.1; refine zf1 _ _ _ _ _ _ _ ?_
    have er : runS l s d (k :: r) = if (ovS s x).2 = 0 then runS l (nowS s x) (d ++ x.on) r else (s, [], (ovS s x).2) := by rw [runS, hxk]
    rw [er]
    by_cases h : (ovS s x).2 = 0
    · obtain ⟨o1, o2⟩ := zu4 h hx.2.1 hx.2.2
      have e := ih (i + 1) (nowS s x) (d ++ x.on) hr2 o2 (by have := hx.2.1.2.1.1; rw [List.length_append]; omega)
      have eo : ovS s x = (nowS s x, 0) := by
        unfold ovS at h ⊢
        by_cases hb : lnkS x = true
        · rw [if_pos hb] at h ⊢
          by_cases hc : (chkS s x.on x.back).2 = 0
          · rw [if_pos hc] at h ⊢; rw [show (if nowS s x = x.to then (0 : Int) else 17) = 0 from h]
          · rw [if_neg hc] at h; exact absurd h hc
        · rw [if_neg hb] at h; simp at h
      have n1 : (d.length + x.on.length) * 168 ≤ 211106232532992 := by have := hx.2.1.2.1.1; omega
      rw [if_pos h]; rw [eo] at c; simp only [schV, lnkV, lnkC, frmsV, stpsV, lnksV, natsV, List.map_append] at c e ⊢; simp only [z5k, z3t, h2, decide_true, cond_true, cond_false, z9, Int.natCast_nonneg, nthE, Int.toNat_natCast, List.getElem?_map, hget, hxk, Option.map_some, intN, lnkV, lnkC, frmsV, stpsV, u_asA, u_asC, u_asI, u_asL, u_asN, zu, zv, za, c, Option.bind_some, bne_self_eq_false, zx, zj, List.length_map, n1, e1]
      exact e
    · have h' := bne_t h
      rw [if_neg h, if_neg h]; simp only [schV, lnkV, lnkC, frmsV, stpsV, lnksV, natsV] at c ⊢; simp only [z5k, z3t, h2, decide_true, cond_true, cond_false, z9, Int.natCast_nonneg, nthE, Int.toNat_natCast, List.getElem?_map, hget, hxk, Option.map_some, intN, lnkV, lnkC, frmsV, stpsV, u_asA, u_asC, u_asI, u_asL, u_asN, za, c, Option.bind_some, zx, zj, h', List.map_nil]
set_option maxRecDepth 100000 in
theorem zu7 (s : Sch) (l : List Lnk) (t : Sch) (hs : Few s) (ht : Few t) (hl : ∀ x ∈ l, x.ok ∧ x.sml ∧ Few x.to) : tbl E0 6 [schV s, lnksV l, schV t] [] = some ([stpsV (planS s l t).1, iV (planS s l t).2], []) := zsj s l t (by
  have c1 := z61 s hs.sml; have c2 := z61 t ht.sml; have c3 := z11v l s.ver t.ver
  have cL := zqn l t (wayW l s.ver t.ver).1 hl zu6 (by have := z6h l s.ver t.ver; omega) (wayW l s.ver t.ver).1 0 s [] rfl hs (by have := z6h l s.ver t.ver; simp only [List.length_nil]; omega)
  have c4 := zoh (runS l s [] (wayW l s.ver t.ver).1).1 t (zge hl _ _ _ hs).sml; simp only [schV, frmsV, lnksV, natsV, List.map_nil, Int.natCast_zero] at c1 c2 c3 cL c4; simp only [zho, z9, cond_true, za, zk, c1, Option.bind_some, u_asC, u_asB, u_asN]
  rcases bor (schS s) with h1 | h1
  · rcases bor (schS t) with h2 | h2
    · simp only [h1, h2, Bool.not_true, cond_false, Tok.untok_tok, za, c2, c3, Option.bind_some, u_asC, u_asB, u_asI, u_asL, u_asN]
      by_cases h3 : (wayW l s.ver t.ver).2 = 0
      · have h3' : ((wayW l s.ver t.ver).2 != 0) = false := by simp [h3]
        simp only [h3', cond_false, zb, List.length_map, ze, cL, Option.bind_some]
        by_cases h4 : (runS l s [] (wayW l s.ver t.ver).1).2.2 = 0
        · rw [if_pos h4]
          simp only [nbeq, decide_true, decide_false, (by decide : (1 : Nat) ≠ 0), cond_true, cond_false, u_asC, zu, u_asI, u_asL, u_asN, zv, z9, za, c4, Option.bind_some, u_asB]
          by_cases h5 : (runS l s [] (wayW l s.ver t.ver).1).1 = t
          · by_cases h6 : 200 < (runS l s [] (wayW l s.ver t.ver).1).2.1.length
            · have h6' : ((runS l s [] (wayW l s.ver t.ver).1).2.1.length : Int) > 200 := by omega
              simp [planS, h1, h2, h3, h4, h5, h6, h6']
            · have h6' : ¬ (((runS l s [] (wayW l s.ver t.ver).1).2.1.length : Int) > 200) := by omega
              simp [planS, h1, h2, h3, h4, h5, h6, h6']
          · simp [planS, h1, h2, h3, h4, h5]
        · rw [if_neg h4]
          simp [planS, h1, h2, h3, h4]
      · have h3' := bne_t h3
        simp [planS, h1, h2, h3, h3']
    · simp [planS, h1, h2, c2]
  · simp [planS, h1])
set_option maxRecDepth 100000 in
theorem zqo (l : List Lnk) (t : Sch) (w : List Nat) (hl : ∀ x ∈ l, x.ok ∧ x.sml ∧ Few x.to) (hw : ∀ k ∈ w, ∃ x, l[k]? = some x) (hwl : w.length ≤ 100) : ∀ (r : List Nat) (i : Nat) (s : Sch) (d : List Stp), w.drop i = r → Few s → d.length + 60 * r.length ≤ 100000 →
    ltbl E0 7 0 8 [lnksV l, natsV w, .lst (.own (.L 10)) 16 (d.map stpV), iV i] [[iV s.ver, frmsV s.forms], [iV t.ver, frmsV t.forms]] =
      some (if (runS l s d r).2.2 = 0 then (1, [.lst (.own (.L 10)) 16 ((runS l s d r).2.1.map stpV)], [[iV (runS l s d r).1.ver, frmsV (runS l s d r).1.forms], [iV t.ver, frmsV t.forms]]) else (0, [stpsV [], iV (runS l s d r).2.2], [])) := by
  intro r
  induction r with
  | nil =>
    intro i s d hr hs hd
    have h : w.length ≤ i := by simpa using hr
    refine zf2 _ _ _ _ _ _ ?_
    have : ¬ ((i : Int) < w.length) := by omega
    simp only [z8j, natsV, zb, List.length_map, this, decide_false, cond_false, runS, if_true]
  | cons k r ih =>
    intro i s d hr hs hd; obtain ⟨hlt, hget, hr2⟩ := zl hr; rw [List.length_cons] at hd
    have h2 : (i : Int) < w.length := by omega
    have e1 := zh (i := i) (by omega)
    obtain ⟨x, hxk⟩ := hw k (z11 hr); have hx := hl x (List.mem_of_getElem? hxk); obtain ⟨m1, ⟨m2, m3⟩, m4, m5⟩ := hx.2.1; have ha : ∀ y ∈ x.on, y.sml ∧ y.ok := fun y hy => ⟨m3 y hy, hx.1.2.2.1 y hy⟩; have c1 := zu2 x hx.2.1
    have c2 := zx8 s x.on x.back hs (by omega) ha
    have c3 := ztd s x.on hs (by omega) m3
    have sm : Sml (nowS s x) := zgd x.on 0 s hs; have c4 := zoi (nowS s x) x.to sm; refine zf2 _ _ _ _ _ _ ?_
    have er : runS l s d (k :: r) = if (ovS s x).2 = 0 then runS l (nowS s x) (d ++ x.on) r else (s, [], (ovS s x).2) := by rw [runS, hxk]
    rw [er]
    have n1 : (d.length + x.on.length) * 168 ≤ 211106232532992 := by omega
    simp only [lnkV, lnkC, frmsV, stpsV, schV, nowS] at c1 c2 c3 c4; simp only [z8j, natsV, lnksV, zb, List.length_map, h2, decide_true, cond_true, cond_false, z9, Int.natCast_nonneg, nthE, Int.toNat_natCast, List.getElem?_map, hget, hxk, Option.map_some, intN, lnkV, lnkC, frmsV, stpsV, u_asA, u_asC, u_asI, u_asB, u_asL, u_asN, za, zx, zj, c1, Option.bind_some]
    rcases bor (lnkS x) with hb | hb
    · simp only [hb, Bool.not_true, cond_false, z9, cond_true, za, zx, zj, c2, Option.bind_some, u_asC, u_asI, u_asN]
      by_cases h : (chkS s x.on x.back).2 = 0
      · have hal := zpa h
        rw [hal] at c3
        by_cases e : nowS s x = x.to
        · have eo : ovS s x = (nowS s x, 0) := by rw [ovS, if_pos hb, if_pos h, if_pos e]
          have o2 : Few (nowS s x) := by rw [e]; exact hx.2.2
          have ih2 := ih (i + 1) (nowS s x) (d ++ x.on) hr2 o2 (by rw [List.length_append]; omega)
          have e' : (⟨x.to.ver, (allS s 0 x.on).1.forms⟩ : Sch) = x.to := e
          rw [if_pos (show (ovS s x).2 = 0 by rw [eo])]
          simp only [lnksV, natsV, frmsV, stpsV, List.map_append, nowS] at ih2; simp only [e'] at ih2; simp only [h, bne_self_eq_false, cond_false, cond_true, z9, za, zx, zj, c3, c4, e', decide_true, Bool.not_true, Option.bind_some, u_asC, u_asA, u_asI, u_asB, u_asL, u_asN, zu, zv, List.length_map, n1, e1, if_true, nowS, List.map_append]; exact ih2
        · have eo : ovS s x = (nowS s x, 17) := by rw [ovS, if_pos hb, if_pos h, if_neg e]
          have e' : ¬ ((⟨x.to.ver, (allS s 0 x.on).1.forms⟩ : Sch) = x.to) := e; rw [eo]
          simp only [h, bne_self_eq_false, cond_false, cond_true, z9, za, zx, zj, c3, c4, e', decide_false, Bool.not_false, Option.bind_some, u_asC, u_asA, u_asI, u_asB, u_asL, u_asN, List.map_nil, (by decide : ¬ ((17 : Int) = 0)), if_false]
      · have h' := bne_t h
        have eo : ovS s x = (s, (chkS s x.on x.back).2) := by rw [ovS, if_pos hb, if_neg h]
        rw [eo, if_neg h, if_neg h]; simp only [h', cond_true, List.map_nil]
    · have eo : ovS s x = (s, 2) := by rw [ovS, hb]; rfl
      rw [eo]
      simp only [hb, Bool.not_false, cond_true, List.map_nil, (by decide : ¬ ((2 : Int) = 0)), if_false]
set_option maxRecDepth 100000 in
theorem zu8 (s : Sch) (l : List Lnk) (t : Sch) (hs : Few s) (ht : Few t) (hl : ∀ x ∈ l, x.ok ∧ x.sml ∧ Few x.to) : tbl E0 7 [schV s, lnksV l, schV t] [] = some ([stpsV (planS s l t).1, iV (planS s l t).2], []) := zsk s l t (by
  have c1 := z5b s hs.sml; have c2 := z5b t ht.sml; have c3 := z11x l s.ver t.ver
  have cL := zqo l t (wayW l s.ver t.ver).1 hl zu6 (by have := z6h l s.ver t.ver; omega) (wayW l s.ver t.ver).1 0 s [] rfl hs (by have := z6h l s.ver t.ver; simp only [List.length_nil]; omega)
  have c4 := zoi (runS l s [] (wayW l s.ver t.ver).1).1 t (zge hl _ _ _ hs).sml; simp only [schV, frmsV, lnksV, natsV, List.map_nil, Int.natCast_zero] at c1 c2 c3 cL c4; simp only [zhp, z9, cond_true, za, zk, c1, Option.bind_some, u_asC, u_asB, u_asN]
  rcases bor (schS s) with h1 | h1
  · rcases bor (schS t) with h2 | h2
    · simp only [h1, h2, Bool.not_true, cond_false, Tok.untok_tok, za, c2, c3, Option.bind_some, u_asC, u_asB, u_asI, u_asL, u_asN]
      by_cases h3 : (wayW l s.ver t.ver).2 = 0
      · have h3' : ((wayW l s.ver t.ver).2 != 0) = false := by simp [h3]
        simp only [h3', cond_false, zb, List.length_map, ze, cL, Option.bind_some]
        by_cases h4 : (runS l s [] (wayW l s.ver t.ver).1).2.2 = 0
        · rw [if_pos h4]
          simp only [nbeq, decide_true, decide_false, (by decide : (1 : Nat) ≠ 0), cond_true, cond_false, u_asC, zu, u_asI, u_asL, u_asN, zv, z9, za, c4, Option.bind_some, u_asB]
          by_cases h5 : (runS l s [] (wayW l s.ver t.ver).1).1 = t
          · by_cases h6 : 200 < (runS l s [] (wayW l s.ver t.ver).1).2.1.length
            · have h6' : ((runS l s [] (wayW l s.ver t.ver).1).2.1.length : Int) > 200 := by omega
              simp [planS, h1, h2, h3, h4, h5, h6, h6']
            · have h6' : ¬ (((runS l s [] (wayW l s.ver t.ver).1).2.1.length : Int) > 200) := by omega
              simp [planS, h1, h2, h3, h4, h5, h6, h6']
          · simp [planS, h1, h2, h3, h4, h5]
        · rw [if_neg h4]
          simp [planS, h1, h2, h3, h4]
      · have h3' := bne_t h3
        simp [planS, h1, h2, h3, h3']
    · simp [planS, h1, h2, c2]
  · simp [planS, h1])
end Go.Proofs.YtjkjhgfiaodgmaaGreat.V
namespace Go.Proofs.YtjkjhgfiaodgmaaGreat.V
open Go
variable {H : Type}
theorem zzz {n : Nat} {d : DataW H} {xs : List AV} (hf : Fit T0 (n + 7) 38 d xs) : ∃ x : Lnk, x.ok ∧ xs = lnkC x := by
  obtain ⟨ds, yss, rfl, rfl, h⟩ := z3i (fs := [(0, 3), (1, 24), (3, 28), (4, 28)]) (by kernel_rfl) hf
  obtain ⟨d0, ds, y0, yss, rfl, rfl, h0, h⟩ := zm h; obtain ⟨d1, ds, y1, yss, rfl, rfl, h1, h⟩ := zm h; obtain ⟨d2, ds, y2, yss, rfl, rfl, h2, h⟩ := zm h; obtain ⟨d3, ds, y3, yss, rfl, rfl, h3, h⟩ := zm h; obtain ⟨rfl, rfl⟩ := z2d h
  obtain ⟨a, ha, rfl, rfl⟩ := z1j (by kernel_rfl) h0
  obtain ⟨s, hs, rfl⟩ := zgc h1; obtain ⟨l, hl, rfl⟩ := zm8 h2; obtain ⟨m, hm, rfl⟩ := zm8 h3; exact ⟨⟨a, s, l, m⟩, ⟨ha, hs, hl, hm⟩, rfl⟩
end Go.Proofs.YtjkjhgfiaodgmaaGreat.V
namespace Go.Proofs.YtjkjhgfiaodgmaaGreat.V
open Go
variable {H : Type}
theorem zxi {n : Nat} {d : DataW H} {xs : List AV} (hf : Fit T0 (n + 8) 25 d xs) : ∃ l : List Lnk, (∀ f ∈ l, f.ok) ∧ xs = [lnksV l] := by
  obtain ⟨ds, sp, l, hd, rfl, h⟩ := z48 (e := 38) (by kernel_rfl) hf
  obtain ⟨cs, rfl, hq⟩ := z3v (f := lnkV) (Q := fun d f => f.ok) (fun d x ⟨ys, h1, h2⟩ => by
    obtain ⟨f, hf, rfl⟩ := zzz h1
    exact ⟨f, z4u (by kernel_rfl) h2, hf⟩) h
  exact ⟨cs, fun f hf => z6g hq hf, rfl⟩
end Go.Proofs.YtjkjhgfiaodgmaaGreat.V
namespace Go.Proofs.YtjkjhgfiaodgmaaGreat.V
open Go
variable {H : Type}
theorem zii : tbl E0 5 [] [] = some ([.bool true], []) := z3e.2 ⟨60, by kernel_rfl⟩
end Go.Proofs.YtjkjhgfiaodgmaaGreat.V
namespace Go.Proofs.YtjkjhgfiaodgmaaGreat.V
open Go
variable {H : Type}
def greatQ (s t : Sch) (l : List Lnk) : Bool := (l.take 13).any greatK || (decide (12 < l.length) || (greatK ⟨0, s, [], []⟩ || greatK ⟨0, t, [], []⟩))
theorem z100 (s t : Sch) (l : List Lnk) : ∀ (r : List Lnk) (i : Nat), l.drop i = r → i ≤ 13 →
    ltbl E0 4 0 2 [lnksV l, iV i] [[iV s.ver, frmsV s.forms], [iV t.ver, frmsV t.forms]] = some (if (r.take (13 - i)).any greatK then (0, [.bool true], []) else (1, [lnksV l], [[iV s.ver, frmsV s.forms], [iV t.ver, frmsV t.forms]])) := by
  intro r
  induction r with
  | nil =>
    intro i hr hi
    have h : l.length ≤ i := by simpa using hr
    refine zov _ _ _ _ ?_
    have : ¬ ((i : Int) < l.length) := by omega
    simp [zbn, this]
  | cons x r ih =>
    intro i hr hi; obtain ⟨hlt, hget, hr2⟩ := zl hr
    have h2 : (i : Int) < l.length := by omega
    have e1 := zh (i := i) (by omega)
    refine zov _ _ _ _ ?_
    by_cases h13 : i < 13
    · have h := ih (i + 1) hr2 (by omega)
      have h3 : (i : Int) < 13 := by omega
      have e2 : 13 - i = (13 - (i + 1)) + 1 := by omega
      have c := z6f x; rw [e2, List.take_succ_cons, List.any_cons]; simp only [lnkV, lnkC, frmsV, stpsV] at c; simp only [lnksV] at h; simp only [zbn, zk, zb, List.length_map, h2, h3, decide_true, cond_true, Option.bind_some, Tok.untok_tok, z9, Int.natCast_nonneg, nthE, Int.toNat_natCast, List.getElem?_map, hget, Option.map_some, lnkV, lnkC, frmsV, stpsV, u_asA, u_asC, u_asI, u_asB, u_asL, u_asN, za, c, e1]
      rcases bor (greatK x) with hb | hb
      · rw [hb, Bool.true_or, if_pos rfl]
        rfl
      · rw [hb, Bool.false_or]
        exact h
    · have h3 : ¬ ((i : Int) < 13) := by omega
      have e2 : 13 - i = 0 := by omega
      simp [zbn, h2, h3, e2]
theorem z11z (s t : Sch) (l : List Lnk) : tbl E0 4 [schV s, schV t, lnksV l] [] = some ([.bool (greatQ s t l)], []) := z11a s t l (by
  have e := z100 s t l l 0 rfl (by omega)
  have g1 := z6f ⟨0, s, [], []⟩; have g2 := z6f ⟨0, t, [], []⟩; simp only [lnkV, lnkC, frmsV, stpsV, List.map_nil] at g1 g2; simp only [Int.natCast_zero, Nat.sub_zero, lnksV, frmsV] at e; simp only [zsi, z9, cond_true, ze, e, Option.bind_some, greatQ]
  rcases bor ((l.take 13).any greatK) with hb | hb
  · rw [hb, if_pos rfl, Bool.true_or]
    simp only [nbeq, decide_true, cond_true, u_asC, u_asB, u_asN]
  · rw [hb, if_neg (by decide), Bool.false_or]
    simp only [nbeq, decide_true, decide_false, (by decide : (1 : Nat) ≠ 0), cond_true, cond_false, u_asC, u_asL, u_asI, u_asN, zk, zb, List.length_map, z9, za, g1, g2, Option.bind_some, u_asB]
    by_cases c : 12 < l.length
    · have c' : (l.length : Int) > 12 := by omega
      simp only [c, c', decide_true, cond_true, Option.bind_some, Tok.untok_tok, Bool.true_or]
    · have c' : ¬ ((l.length : Int) > 12) := by omega
      rcases bor (greatK ⟨0, s, [], []⟩) with h1 | h1
      · simp only [c, c', h1, decide_false, cond_true, cond_false, Option.bind_some, Tok.untok_tok, Bool.false_or, Bool.true_or]
      · simp only [c, c', h1, decide_false, cond_false, Option.bind_some, Tok.untok_tok, Bool.false_or])
theorem zij {s : Sch} (h : greatS s = false) : Few s := by
  unfold greatS at h; simp only [Bool.or_eq_false_iff, decide_eq_false_iff_not, List.any_eq_false, big, decide_eq_true_eq] at h
  refine ⟨by omega, fun f hf => ?_⟩
  have := h.1 f (by rw [List.take_of_length_le (by omega)]; exact hf)
  omega
theorem zqp {s t : Sch} {l : List Lnk} (h : greatQ s t l = false) : Few s ∧ Few t ∧ l.length ≤ 12 ∧ ∀ x ∈ l, x.sml ∧ Few x.to := by
  simp only [greatQ, Bool.or_eq_false_iff, decide_eq_false_iff_not] at h; obtain ⟨h1, h2, h3, h4⟩ := h
  have k : ∀ {u : Sch}, greatK ⟨0, u, [], []⟩ = false → Few u := by
    intro u hu; simp only [greatK, Bool.or_eq_false_iff] at hu; exact zij hu.1
  refine ⟨k h3, k h4, by omega, fun x hx => ?_⟩
  rw [List.take_of_length_le (by omega), List.any_eq_false] at h1
  have hx2 : greatK x = false := by simpa using h1 x hx
  refine ⟨z8r hx2, ?_⟩; simp only [greatK, Bool.or_eq_false_iff] at hx2; exact zij hx2.1
theorem zpb {l : List Lnk} (hl : ∀ x ∈ l, x.sml) : ∀ (w : List Nat) (s : Sch) (d : List Stp), (∀ y ∈ d, y.sml) → (runS l s d w).2.1.length ≤ d.length + 60 * w.length ∧ ∀ y ∈ (runS l s d w).2.1, y.sml
  | [], s, d, hd => ⟨by simp [runS], hd⟩
  | k :: w, s, d, hd => by
    rw [runS]
    cases hk : l[k]? with
    | none => simp
    | some x =>
      have hx := hl x (List.mem_of_getElem? hk); simp only
      by_cases h : (ovS s x).2 = 0
      · rw [if_pos h]
        have := zpb hl w (nowS s x) (d ++ x.on) (fun y hy => by
          rcases List.mem_append.1 hy with hy | hy
          · exact hd y hy
          · exact hx.2.1.2 y hy)
        refine ⟨?_, this.2⟩; have h1 := this.1; have h2 := hx.2.1.1; rw [List.length_append] at h1; rw [List.length_cons]; omega
      · rw [if_neg h]; simp
theorem zxj {s t : Sch} {l : List Lnk} (hl : ∀ x ∈ l, x.sml) : (planS s l t).1.length ≤ 1000 ∧ ∀ y ∈ (planS s l t).1, y.sml := by
  have r := zpb hl (wayW l s.ver t.ver).1 s [] (by simp)
  have w := z6h l s.ver t.ver; unfold planS
  repeat' split
  all_goals first
    | (simp; done)
    | (refine ⟨?_, r.2⟩; have := r.1; show (runS l s [] (wayW l s.ver t.ver).1).2.1.length ≤ 1000; simp only [List.length_nil] at this; omega)
set_option maxRecDepth 100000 in
theorem zmc (s : Sch) (l : List Lnk) (t : Sch) (hl : ∀ x ∈ l, x.ok) : tbl E0 3 [schV s, lnksV l, schV t] [] = some ([.bool true], []) := zld s l t (by
  have g := z11z s t l
  rcases bor (greatQ s t l) with hb | hb
  · simp only [schV, frmsV, lnksV, hb] at g
    simp only [z66, z9, cond_true, za, g, Option.bind_some, u_asC, u_asB, u_asN, zii]
  · obtain ⟨hs, ht, hlen, hx⟩ := zqp hb
    have hq : ∀ x ∈ l, x.ok ∧ x.sml ∧ Few x.to := fun x h => ⟨hl x h, hx x h⟩; have c1 := zu7 s l t hs ht hq; have c2 := zu8 s l t hs ht hq; have ps := zxj (s := s) (t := t) (fun x h => (hx x h).1); have c3 := zn3 (planS s l t).1 (planS s l t).1 ps.1 ps.2; simp only [schV, frmsV, lnksV, stpsV, hb] at g c1 c2 c3; simp only [z66, z9, cond_true, cond_false, za, g, c1, c2, c3, Option.bind_some, zk, Tok.untok_tok, u_asC, u_asI, u_asB, u_asL, u_asN, zii, decide_true, beq_self_eq_true])
theorem zmd (d0 d1 d2 : DataW H) (xs : List AV) (hf : FitAll T0 9 Tryz.f3.params.toList [d0, d1, d2] xs) (hk : (DataW.weightsEach Tryz.prog (Tryz.f3.params.toList ++ Rows.planChecksSpec.plain.varTypes Tryz.prog) ([d0, d1, d2] ++ [])).all (· ≤ reachBytes) = true) :
    tbl E0 3 xs [] = some ([.bool true], []) := by
  have hf' : FitAll T0 9 [24, 25, 24] [d0, d1, d2] xs := hf; obtain ⟨d', ds, x, xs', e1, rfl, ⟨ys, h0, h1⟩, h⟩ := zm hf'
  injection e1 with e1 e2; subst e1; subst e2; obtain ⟨d', ds, y, xs', e1, rfl, ⟨zs, h2, h3⟩, h⟩ := zm h
  injection e1 with e1 e2; subst e1; subst e2; obtain ⟨d', ds, z, xs', e1, rfl, ⟨us, h4, h5⟩, h⟩ := zm h
  injection e1 with e1 e2; subst e1; subst e2; obtain ⟨-, rfl⟩ := z2d h; obtain ⟨s, hs, rfl⟩ := zgc h0; obtain ⟨l, hl, rfl⟩ := zxi h2; obtain ⟨t, ht, rfl⟩ := zgc h4
  have q1 := z4u (by kernel_rfl) h1
  have q2 := zcq (by kernel_rfl) h3
  have q3 := z4u (by kernel_rfl) h5
  injection q2 with q2
  subst q1; subst q2; subst q3; exact zmc s l t hl
end Go.Proofs.YtjkjhgfiaodgmaaGreat.V
namespace Go.Proofs.YtjkjhgfiaodgmaaGreat.planChecks
open Go Go.ChangeShapes Go.WideShapes Go.ChangeAt Go.RowKit Go.Proofs.YtjkjhgfiaodgmaaGreat.V
theorem own : ownKnob Tryz.prog.godebug = none := by kernel_rfl
set_option maxRecDepth 100000 in
theorem contract (H : Type) (enc : TypeId × Value → H) (W : World) (base : Nat) (args : Array Value) (ds gs : List (DataW H)) (before : List MemPlace)
    (hval : ∀ (j : Nat) t v, Tryz.f3.params[j]? = some t → args[j]? = some v → Value.okWide Tryz.prog W .any base t v)
    (hW : DataW.Whole enc Tryz.prog Tryz.f3.params.toList Rows.planChecksSpec.vars false W args.toList ds gs before) (hk : (DataW.weightsEach Tryz.prog (Tryz.f3.params.toList ++ Rows.planChecksSpec.plain.varTypes Tryz.prog) (ds ++ gs)).all (· ≤ reachBytes) = true) :
    Calls Tryz.prog 3 args W fun e W' => ∃ v, e = .returned v ∧ Rows.planChecksSpec.post enc Tryz.prog Tryz.f3 false true false false W args v W' := by
  obtain ⟨p, q, hA, hV, hps, hfz, hnd⟩ := id hW; obtain ⟨rfl, rfl⟩ := trodVars_none hV; have hlen := z7i hA
  obtain ⟨d0, d1, d2, rfl⟩ : ∃ d0 d1 d2, ds = [d0, d1, d2] := by
    match ds, hlen with
    | [d0, d1, d2], _ => exact ⟨d0, d1, d2, rfl⟩
  refine (zrc (E := E0) E0_ok (m := 9) (ts := Tryz.f3.params.toList) (by kernel_rfl) (fun j t v h1 h2 => hval j t v (by simpa using h1) (by simpa using h2)) hA (fun xs hf => zmd d0 d1 d2 xs hf hk)).mono fun e W' ⟨he, bel⟩ => ?_
  subst he
  exact ⟨_, rfl, zuo (tb := 4) (by kernel_rfl) (by kernel_rfl) (by kernel_rfl) Tryz.underlying4 rfl rfl hW hA bel⟩
set_option maxRecDepth 100000 in
theorem lifted (os : Os) (started : os.Started) (H : Type) (enc : TypeId × Value → H) :
    ReturnsInHanded {} Tryz.checked os 3 .any (Rows.planChecksSpec.pre6 enc Tryz.prog Tryz.f3 Rows.planChecksRow.domain false) (Rows.planChecksSpec.post enc Tryz.prog Tryz.f3 false true false false) := by
  refine returnsInHanded_of_change_sized (C := Tryz.checked) own started (by kernel_rfl) Tryz.func3
    (ChangeSpec.witness6 (enc := enc) (C := Tryz.checked) false ⟨#[], #[.agg #[.int .i64 0, .slice none 0 0], .slice none 0 0, .agg #[.int .i64 0, .slice none 0 0]], []⟩ 9 (by kernel_rfl) (by kernel_rfl) (by kernel_rfl) (by kernel_rfl)) ?_
  intro W base args ds gs before hval hW _ hk _; exact contract H enc W base args ds gs before hval hW hk
theorem proved : Rows.PlanChecksSaid :=
  OpenClaim.holds_of_wide 3 Tryz.f3 rfl rfl rfl rfl rfl rfl rfl ⟨rfl, rfl, rfl, rfl, rfl⟩ rfl rfl rfl rfl rfl (by kernel_rfl) Tryz.func3 (by kernel_rfl)
    (of_decide_eq_true (by kernel_rfl)) (by unfold Func.isWrapper; first | (rw [if_pos (by decide +kernel)]; kernel_rfl) | (rw [if_neg (by decide +kernel)]; exact ⟨rfl, rfl⟩))
    (fun os started H enc _ => lifted os started H enc)
end Go.Proofs.YtjkjhgfiaodgmaaGreat.planChecks
namespace Go.Proofs.YtjkjhgfiaodgmaaGreat
theorem planChecks_holds : Rows.PlanChecksSaid := planChecks.proved
end Go.Proofs.YtjkjhgfiaodgmaaGreat
