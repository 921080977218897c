/- Any step's step back, and any list's list back, or why there is none, are as the document says; so is whether two lists are a pair; a list and its list back are a pair, and no other list is one with it. -/
import Derived.Test.YtalpknofimglbaaRows
import Derived.JoinedCond
import Derived.SizedLaws
import Derived.Test.YtalpknofimglbaaPe
set_option linter.unusedVariables false
set_option linter.unusedSimpArgs false
namespace Go.Proofs.Ytalpknofimglbaa.V
open Go
theorem c_iClone (l : List Int) (h : l.length ≤ 1000) : tbl E0 52 [intsV l] [] = some ([intsV l], []) := t_iClone l (by
  have h2 : (0 + (l.map fun n => AV.int .i64 n).length) * 8 ≤ 211106232532992 := by rw [List.length_map]; omega
  cases l with
  | nil =>
    simp only [s_iClone, List.map_nil]
    exact OA_amb_same (fun b => by cases b <;> rfl)
  | cons a l =>
    simp only [s_iClone, List.map_cons] at h2 ⊢
    have h3 := decide_eq_true h2
    simp only [nilEq, List.map_cons, OA_chk, h3, cond_false, cond_true]
    rfl)
def pownS (s : Sch) (x : Stp) : Fld × Int :=
  match formS s.forms x.form with
  | none => (fld0, 0)
  | some g => match g.fields[(atS g.fields x.field).toNat]? with
    | some f => if 0 ≤ atS g.fields x.field then (f, atS g.fields x.field) else (fld0, 0)
    | none => (fld0, 0)
theorem at_get {l : List Fld} {id : Int} : (∃ (k : Nat) (f : Fld), atS l id = (k : Int) ∧ l[k]? = some f) ∨ atS l id = -1 := by
  rcases first_get (p := fun f : Fld => f.id == id) (l := l) with ⟨j, g, q1, q2, q3⟩ | q1
  · exact .inl ⟨j, g, q1, q2⟩
  · exact .inr q1
theorem c_gpown (s : Sch) (x : Stp) (hs : Few s) : tbl E0 51 [schV s, stpV x] [] = some ([fldV (pownS s x).1, .int .i64 (pownS s x).2], []) := t_gpown s x (by
  have c1 := c_sForm s x.form hs.sml
  simp only [schV, frmsV] at c1
  rcases find_form s.forms x.form with ⟨j, g, h1, h2, h3⟩ | ⟨h1, h2⟩
  · rw [h1] at c1
    have c2 := c_sAt g x.field (by have := hs.2 g (List.mem_of_getElem? h3); omega)
    simp only [frmV, fldsV] at c1 c2
    simp only [s_gpown, OA_chk, cond_true, OA_callx, c1, c2, Option.bind_some, u_asC, u_asA, u_asI, u_asB, u_asL, u_asN, pownS, h1]
    rcases at_get (l := g.fields) (id := x.field) with ⟨k, f, q1, q2⟩ | q1
    · have q3 : (k : Int) ≥ 0 := by omega
      have q4 : (0 : Int) ≤ k := q3
      simp only [q1, Int.toNat_natCast, q2, q3, q4, decide_true, cond_true, if_true, OA_chk, nthE, List.getElem?_map, Option.map_some, u_asC, u_asA, u_asI, u_asN]
    · have q3 : ¬ ((-1 : Int) ≥ 0) := by omega
      have q4 : ¬ ((0 : Int) ≤ -1) := by omega
      simp only [q1, q3, q4, decide_false, cond_false, if_false]
      cases g.fields[(-1 : Int).toNat]? <;> rfl
  · rw [h1] at c1
    have c2 := c_sAt ⟨0, []⟩ x.field (by simp)
    have q : atS [] x.field = -1 := rfl
    have q3 : ¬ ((-1 : Int) ≥ 0) := by omega
    simp only [frmV, fldsV, List.map_nil, q] at c1 c2
    simp only [s_gpown, OA_chk, cond_true, OA_callx, c1, c2, Option.bind_some, u_asC, u_asA, u_asI, u_asB, u_asL, u_asN, pownS, h1, q3, decide_false, cond_false]
    rfl)
theorem on_form {s : Sch} {x : Stp} (h : (onS s x).2 = 0) (h9 : x.op ≠ 9) : ∃ (j : Nat) (g : Frm), findS s.forms x.form = (j : Int) ∧ s.forms[j]? = some g ∧ oldS s x = g.fields ∧ formS s.forms x.form = some g ∧ g.fields.length ≤ 8 := by
  obtain ⟨_, _, _, _, hs, h4, hr, hle⟩ := on_out h
  obtain ⟨j, g, e1, e2, e3, e4, _⟩ := names0 h4 h9
  refine ⟨j, g, e1, e2, e4, ?_, ((schS_few hs).2 g (List.mem_of_getElem? e2)).1⟩
  rcases find_form s.forms x.form with ⟨j', g', h1, h2, h3⟩ | ⟨h1, h2⟩
  · have : j' = j := by omega
    subst this
    rw [e2] at h3
    injection h3 with h3
    rw [h1, h3]
  · omega
theorem pown_eq {s : Sch} {x : Stp} (h : (onS s x).2 = 0) (h9 : x.op ≠ 9) {k : Nat} {f : Fld} (q1 : atS (oldS s x) x.field = (k : Int)) (q2 : (oldS s x)[k]? = some f) : pownS s x = (f, (k : Int)) := by
  obtain ⟨j, g, e1, e2, e3, e4, _⟩ := on_form h h9
  rw [e3] at q1 q2
  have q4 : (0 : Int) ≤ k := by omega
  simp only [pownS, e4, q1, Int.toNat_natCast, q2, q4, if_true]
theorem right_zero {x : Stp} (h : tRightS x = true) (o : x.op = 9 ∨ x.op = 10) : x.field = 0 := by
  have h3 := congrArg Stp.field (right_fits h).2.2
  rcases o with o | o <;> simpa [onlyS, hasS, usesS, o] using h3
theorem right_t {x : Stp} (h : tRightS x = true) (o : x.op = 5) : x.t.length ≤ 64 := by
  have h8 := right_op h 8 (by rw [o]; decide)
  simp [fitsS, o] at h8
  simp only [apartS, Bool.and_eq_true, decide_eq_true_eq] at h8
  exact h8.2.2
theorem c_gInvert (s : Sch) (x : Stp) (hs : Few s) (hm : x.sml) (ho : x.ok) : tbl E0 23 [schV s, stpV x] [] = some ([stpV (invS s x).1, .int .i64 (invS s x).2], []) := t_gInvert s x (by
  have c1 := c_gOn s x hs hm ho
  simp only [schV, frmsV, stpV, stpC, intsV, fldsV] at c1
  by_cases h : (onS s x).2 = 0
  · have h' : ((onS s x).2 != 0) = false := by simp [h]
    have ei : invS s x = (backOf s x, 0) := by unfold invS; rw [if_pos h]
    obtain ⟨_, _, _, _, hsr, h4, hr, hle⟩ := on_out h
    have c2 := c_gpown s x hs
    simp only [schV, frmsV, stpV, stpC, intsV, fldsV] at c2
    rw [ei]
    simp only [s_gInvert, OA_chk, cond_true, OA_callx, c1, h', cond_false, Option.bind_some, u_asC, u_asA, u_asI, u_asL, u_asN]
    rcases right_10 hr hle with o | o | o | o | o | o | o | o | o | o
    · have eb : backOf s x = ⟨21, x.form, x.f.id, 0, 0, 0, 0, fld0, 0, [], [], []⟩ := by simp [backOf, o]
      have b1 : (x.op == 1) = true := by rw [o]; rfl
      have w : IntKind.i64.wrap (x.op + 20) = 21 := by rw [o]; rfl
      rw [eb]
      simp only [fldV, fldC] at c2
      simp only [c2, b1, w, OA_chk, cond_true, cond_false, OA_callx, OA_call, Option.bind_some, u_asC, u_asA, u_asI, u_asB, u_asL, u_asUq, u_asS, u_asN, fld0, List.map_nil]
      rfl
    · obtain ⟨k, f, q1, q2, q3, q4, q5, q6, q7⟩ := on_field h (by omega) (by omega) (by omega)
      have ep := pown_eq h (by omega) q1 q2
      have eb : backOf s x = ⟨22, x.form, 0, (k : Int), 0, 0, 0, f, x.n, x.s, [], []⟩ := by simp [backOf, o, q1, q5]
      have b1 : (x.op == 1) = false := by rw [o]; rfl
      have b2 : (x.op == 2) = true := by rw [o]; rfl
      have w : IntKind.i64.wrap (x.op + 20) = 22 := by rw [o]; rfl
      rw [ep] at c2
      rw [eb]
      simp only [fldV, fldC] at c2
      simp only [c2, b1, b2, w, OA_chk, cond_true, cond_false, OA_callx, OA_call, Option.bind_some, u_asC, u_asA, u_asI, u_asB, u_asL, u_asUq, u_asS, u_asN, fld0, List.map_nil]
      rfl
    · obtain ⟨k, f, q1, q2, q3, q4, q5, q6, q7⟩ := on_field h (by omega) (by omega) (by omega)
      have ep := pown_eq h (by omega) q1 q2
      have eb : backOf s x = ⟨23, x.form, x.field, 0, 0, 0, 0, f, 0, [], [], []⟩ := by simp [backOf, o, q1, q5]
      have b1 : (x.op == 1) = false := by rw [o]; rfl
      have b2 : (x.op == 2) = false := by rw [o]; rfl
      have b4 : (x.op == 4) = false := by rw [o]; rfl
      have b6 : (x.op == 6) = false := by rw [o]; rfl
      have b3 : (x.op == 3) = true := by rw [o]; rfl
      have w : IntKind.i64.wrap (x.op + 20) = 23 := by rw [o]; rfl
      rw [ep] at c2
      rw [eb]
      simp only [fldV, fldC] at c2
      simp only [c2, b1, b2, b4, b6, b3, w, OA_chk, cond_true, cond_false, OA_callx, OA_call, Option.bind_some, u_asC, u_asA, u_asI, u_asB, u_asL, u_asUq, u_asS, u_asN, fld0, List.map_nil]
      rfl
    · obtain ⟨k, f, q1, q2, q3, q4, q5, q6, q7⟩ := on_field h (by omega) (by omega) (by omega)
      have ep := pown_eq h (by omega) q1 q2
      have eb : backOf s x = ⟨24, x.form, x.field, 0, 0, x.a, x.b, f, 0, [], [], []⟩ := by simp [backOf, o, q1, q5]
      have b1 : (x.op == 1) = false := by rw [o]; rfl
      have b2 : (x.op == 2) = false := by rw [o]; rfl
      have b4 : (x.op == 4) = true := by rw [o]; rfl
      have w : IntKind.i64.wrap (x.op + 20) = 24 := by rw [o]; rfl
      rw [ep] at c2
      rw [eb]
      simp only [fldV, fldC] at c2
      simp only [c2, b1, b2, b4, w, OA_chk, cond_true, cond_false, OA_callx, OA_call, Option.bind_some, u_asC, u_asA, u_asI, u_asB, u_asL, u_asUq, u_asS, u_asN, fld0, List.map_nil]
      rfl
    · have eb : backOf s x = ⟨25, x.form, x.field, 0, 0, 0, 0, fld0, 0, [], x.t, []⟩ := by simp [backOf, o]
      have b1 : (x.op == 1) = false := by rw [o]; rfl
      have b2 : (x.op == 2) = false := by rw [o]; rfl
      have b4 : (x.op == 4) = false := by rw [o]; rfl
      have b6 : (x.op == 6) = false := by rw [o]; rfl
      have b3 : (x.op == 3) = false := by rw [o]; rfl
      have b5 : (x.op == 5) = true := by rw [o]; rfl
      have w : IntKind.i64.wrap (x.op + 20) = 25 := by rw [o]; rfl
      rw [eb]
      have c3 := c_iClone x.t (by have := right_t hr o; omega)
      simp only [intsV] at c3
      simp only [fldV, fldC] at c2
      simp only [c2, b1, b2, b4, b6, b3, b5, w, OA_chk, cond_true, cond_false, OA_callx, OA_call, Option.bind_some, u_asC, u_asA, u_asI, u_asB, u_asL, u_asUq, u_asS, u_asN, fld0, List.map_nil, c3]
      rfl
    · obtain ⟨k, f, q1, q2, q3, q4, q5, q6, q7⟩ := on_field h (by omega) (by omega) (by omega)
      have ep := pown_eq h (by omega) q1 q2
      have eb : backOf s x = ⟨26, x.form, x.field, 0, x.to, x.a, 0, f, 0, [], [], []⟩ := by simp [backOf, o, q1, q5]
      have b1 : (x.op == 1) = false := by rw [o]; rfl
      have b2 : (x.op == 2) = false := by rw [o]; rfl
      have b4 : (x.op == 4) = false := by rw [o]; rfl
      have b6 : (x.op == 6) = true := by rw [o]; rfl
      have w : IntKind.i64.wrap (x.op + 20) = 26 := by rw [o]; rfl
      rw [ep] at c2
      rw [eb]
      simp only [fldV, fldC] at c2
      simp only [c2, b1, b2, b4, b6, w, OA_chk, cond_true, cond_false, OA_callx, OA_call, Option.bind_some, u_asC, u_asA, u_asI, u_asB, u_asL, u_asUq, u_asS, u_asN, fld0, List.map_nil]
      rfl
    · obtain ⟨k, f, q1, q2, q3, q4, q5, q6, q7⟩ := on_field h (by omega) (by omega) (by omega)
      have ep := pown_eq h (by omega) q1 q2
      have eb : backOf s x = ⟨27, x.form, x.field, (k : Int), 0, 0, 0, fld0, 0, [], [], []⟩ := by simp [backOf, o, q1]
      have b1 : (x.op == 1) = false := by rw [o]; rfl
      have b2 : (x.op == 2) = false := by rw [o]; rfl
      have b4 : (x.op == 4) = false := by rw [o]; rfl
      have b6 : (x.op == 6) = false := by rw [o]; rfl
      have b3 : (x.op == 3) = false := by rw [o]; rfl
      have b5 : (x.op == 5) = false := by rw [o]; rfl
      have b7 : (x.op == 7) = true := by rw [o]; rfl
      have w : IntKind.i64.wrap (x.op + 20) = 27 := by rw [o]; rfl
      rw [ep] at c2
      rw [eb]
      simp only [fldV, fldC] at c2
      simp only [c2, b1, b2, b4, b6, b3, b5, b7, w, OA_chk, cond_true, cond_false, OA_callx, OA_call, Option.bind_some, u_asC, u_asA, u_asI, u_asB, u_asL, u_asUq, u_asS, u_asN, fld0, List.map_nil]
      rfl
    · have eb : backOf s x = ⟨28, x.form, x.to, 0, x.field, 0, 0, fld0, 0, [], [], []⟩ := by simp [backOf, o]
      have b1 : (x.op == 1) = false := by rw [o]; rfl
      have b2 : (x.op == 2) = false := by rw [o]; rfl
      have b4 : (x.op == 4) = false := by rw [o]; rfl
      have b6 : (x.op == 6) = false := by rw [o]; rfl
      have b3 : (x.op == 3) = false := by rw [o]; rfl
      have b5 : (x.op == 5) = false := by rw [o]; rfl
      have b7 : (x.op == 7) = false := by rw [o]; rfl
      have b8 : (x.op == 8) = true := by rw [o]; rfl
      have w : IntKind.i64.wrap (x.op + 20) = 28 := by rw [o]; rfl
      rw [eb]
      simp only [fldV, fldC] at c2
      simp only [c2, b1, b2, b4, b6, b3, b5, b7, b8, w, OA_chk, cond_true, cond_false, OA_callx, OA_call, Option.bind_some, u_asC, u_asA, u_asI, u_asB, u_asL, u_asUq, u_asS, u_asN, fld0, List.map_nil]
      rfl
    · have eb : backOf s x = ⟨29, x.form, 0, 0, 0, 0, 0, fld0, 0, [], [], []⟩ := by simp [backOf, o]
      have b1 : (x.op == 1) = false := by rw [o]; rfl
      have b2 : (x.op == 2) = false := by rw [o]; rfl
      have b4 : (x.op == 4) = false := by rw [o]; rfl
      have b6 : (x.op == 6) = false := by rw [o]; rfl
      have b3 : (x.op == 3) = false := by rw [o]; rfl
      have b5 : (x.op == 5) = false := by rw [o]; rfl
      have b7 : (x.op == 7) = false := by rw [o]; rfl
      have b8 : (x.op == 8) = false := by rw [o]; rfl
      have b10 : (x.op == 10) = false := by rw [o]; rfl
      have w : IntKind.i64.wrap (x.op + 20) = 29 := by rw [o]; rfl
      rw [eb]
      have z0 := right_zero hr (by omega)
      simp only [fldV, fldC] at c2
      simp only [c2, b1, b2, b4, b6, b3, b5, b7, b8, b10, w, OA_chk, cond_true, cond_false, OA_callx, OA_call, Option.bind_some, u_asC, u_asA, u_asI, u_asB, u_asL, u_asUq, u_asS, u_asN, fld0, List.map_nil]
      rw [z0]
      rfl
    · obtain ⟨j, g, e1, e2, e3, e4, e5⟩ := on_form h (by omega)
      have eb : backOf s x = ⟨30, x.form, 0, 0, 0, 0, 0, fld0, 0, [], [], g.fields⟩ := by simp [backOf, o, e3]
      have b1 : (x.op == 1) = false := by rw [o]; rfl
      have b2 : (x.op == 2) = false := by rw [o]; rfl
      have b4 : (x.op == 4) = false := by rw [o]; rfl
      have b6 : (x.op == 6) = false := by rw [o]; rfl
      have b3 : (x.op == 3) = false := by rw [o]; rfl
      have b5 : (x.op == 5) = false := by rw [o]; rfl
      have b7 : (x.op == 7) = false := by rw [o]; rfl
      have b8 : (x.op == 8) = false := by rw [o]; rfl
      have b10 : (x.op == 10) = true := by rw [o]; rfl
      have w : IntKind.i64.wrap (x.op + 20) = 30 := by rw [o]; rfl
      rw [eb]
      have z0 := right_zero hr (by omega)
      have c3 := c_sForm s x.form hs.sml
      rw [e4] at c3
      have c4 := c_gClone g.fields (by omega)
      have ff := flat_flds g.fields
      simp only [schV, frmsV, frmV, fldsV, fldsU] at c3 c4
      simp only [fldV, fldC] at c2
      simp only [c2, b1, b2, b4, b6, b3, b5, b7, b8, b10, w, OA_chk, cond_true, cond_false, OA_callx, OA_call, Option.bind_some, u_asC, u_asA, u_asI, u_asB, u_asL, u_asUq, u_asS, u_asN, fld0, List.map_nil, c3, c4, ff]
      rw [z0]
      rfl
  · have h' := bne_t h
    have ei : invS s x = (stpN, (onS s x).2) := by unfold invS; rw [if_neg h]
    rw [ei]
    simp only [s_gInvert, OA_chk, cond_true, OA_callx, c1, h', Option.bind_some, u_asC, u_asA, u_asI, u_asL, u_asN, stpN, fld0, stpV, stpC, intsV, fldsV, List.map_nil])
theorem c_zInvert (s : Sch) (x : Stp) (hs : Few s) (hm : x.sml) : tbl E0 24 [schV s, stpV x] [] = some ([stpV (invS s x).1, .int .i64 (invS s x).2], []) := t_zInvert s x (by
  have c1 := c_zOn s x hs hm
  simp only [schV, frmsV, stpV, stpC, intsV, fldsV] at c1
  by_cases h : (onS s x).2 = 0
  · have h' : ((onS s x).2 != 0) = false := by simp [h]
    have ei : invS s x = (backOf s x, 0) := by unfold invS; rw [if_pos h]
    obtain ⟨_, _, _, _, hsr, h4, hr, hle⟩ := on_out h
    rw [ei]
    simp only [s_zInvert, OA_chk, cond_true, OA_callx, c1, h', cond_false, Option.bind_some, u_asC, u_asA, u_asI, u_asL, u_asN]
    rcases right_10 hr hle with o | o | o | o | o | o | o | o | o | o
    · obtain ⟨j, g, e1, e2, e3, e4, e5⟩ := on_form h (by omega)
      have c3 := c_yFind s x.form hs.sml
      simp only [schV, frmsV, e1] at c3
      have eb : backOf s x = ⟨21, x.form, x.f.id, 0, 0, 0, 0, fld0, 0, [], [], []⟩ := by simp [backOf, o]
      have b9 : (x.op == 9) = false := by rw [o]; rfl
      have b10 : (x.op == 10) = false := by rw [o]; rfl
      have b1 : (x.op == 1) = true := by rw [o]; rfl
      rw [eb]
      simp only [b9, b10, b1, OA_chk, cond_true, cond_false, OA_callx, OA_call, Option.bind_some, u_asC, u_asA, u_asI, u_asB, u_asL, u_asUq, u_asS, u_asN, fld0, List.map_nil, OA_dbl, OA_asm, c3, nthE, Int.natCast_nonneg, decide_true, Int.toNat_natCast, List.getElem?_map, e2, Option.map_some, frmV, fldsV]
      rfl
    · obtain ⟨k, f, q1, q2, q3, q4, q5, q6, q7⟩ := on_field h (by omega) (by omega) (by omega)
      obtain ⟨j, g, e1, e2, e3, e4, e5⟩ := on_form h (by omega)
      have c3 := c_yFind s x.form hs.sml
      simp only [schV, frmsV, e1] at c3
      have c4 := c_yAt g x.field (by omega)
      have q8 := q1
      have q9 := q2
      rw [e3] at q8 q9
      simp only [frmV, fldsV, q8] at c4
      have eb : backOf s x = ⟨22, x.form, 0, (k : Int), 0, 0, 0, f, x.n, x.s, [], []⟩ := by simp [backOf, o, q1, q5]
      have b9 : (x.op == 9) = false := by rw [o]; rfl
      have b10 : (x.op == 10) = false := by rw [o]; rfl
      have b1 : (x.op == 1) = false := by rw [o]; rfl
      have b2 : (x.op == 2) = true := by rw [o]; rfl
      rw [eb]
      simp only [b9, b10, b1, b2, OA_chk, cond_true, cond_false, OA_callx, OA_call, Option.bind_some, u_asC, u_asA, u_asI, u_asB, u_asL, u_asUq, u_asS, u_asN, fld0, List.map_nil, OA_dbl, OA_asm, c3, nthE, Int.natCast_nonneg, decide_true, Int.toNat_natCast, List.getElem?_map, e2, Option.map_some, frmV, fldsV, c4, q9, fldV, fldC]
      rfl
    · obtain ⟨k, f, q1, q2, q3, q4, q5, q6, q7⟩ := on_field h (by omega) (by omega) (by omega)
      obtain ⟨j, g, e1, e2, e3, e4, e5⟩ := on_form h (by omega)
      have c3 := c_yFind s x.form hs.sml
      simp only [schV, frmsV, e1] at c3
      have c4 := c_yAt g x.field (by omega)
      have q8 := q1
      have q9 := q2
      rw [e3] at q8 q9
      simp only [frmV, fldsV, q8] at c4
      have eb : backOf s x = ⟨23, x.form, x.field, 0, 0, 0, 0, f, 0, [], [], []⟩ := by simp [backOf, o, q1, q5]
      have b9 : (x.op == 9) = false := by rw [o]; rfl
      have b10 : (x.op == 10) = false := by rw [o]; rfl
      have b1 : (x.op == 1) = false := by rw [o]; rfl
      have b2 : (x.op == 2) = false := by rw [o]; rfl
      have b3 : (x.op == 3) = true := by rw [o]; rfl
      rw [eb]
      simp only [b9, b10, b1, b2, b3, OA_chk, cond_true, cond_false, OA_callx, OA_call, Option.bind_some, u_asC, u_asA, u_asI, u_asB, u_asL, u_asUq, u_asS, u_asN, fld0, List.map_nil, OA_dbl, OA_asm, c3, nthE, Int.natCast_nonneg, decide_true, Int.toNat_natCast, List.getElem?_map, e2, Option.map_some, frmV, fldsV, c4, q9, fldV, fldC]
      rfl
    · obtain ⟨k, f, q1, q2, q3, q4, q5, q6, q7⟩ := on_field h (by omega) (by omega) (by omega)
      obtain ⟨j, g, e1, e2, e3, e4, e5⟩ := on_form h (by omega)
      have c3 := c_yFind s x.form hs.sml
      simp only [schV, frmsV, e1] at c3
      have c4 := c_yAt g x.field (by omega)
      have q8 := q1
      have q9 := q2
      rw [e3] at q8 q9
      simp only [frmV, fldsV, q8] at c4
      have eb : backOf s x = ⟨24, x.form, x.field, 0, 0, x.a, x.b, f, 0, [], [], []⟩ := by simp [backOf, o, q1, q5]
      have b9 : (x.op == 9) = false := by rw [o]; rfl
      have b10 : (x.op == 10) = false := by rw [o]; rfl
      have b1 : (x.op == 1) = false := by rw [o]; rfl
      have b2 : (x.op == 2) = false := by rw [o]; rfl
      have b3 : (x.op == 3) = false := by rw [o]; rfl
      have b4 : (x.op == 4) = true := by rw [o]; rfl
      rw [eb]
      simp only [b9, b10, b1, b2, b3, b4, OA_chk, cond_true, cond_false, OA_callx, OA_call, Option.bind_some, u_asC, u_asA, u_asI, u_asB, u_asL, u_asUq, u_asS, u_asN, fld0, List.map_nil, OA_dbl, OA_asm, c3, nthE, Int.natCast_nonneg, decide_true, Int.toNat_natCast, List.getElem?_map, e2, Option.map_some, frmV, fldsV, c4, q9, fldV, fldC]
      rfl
    · obtain ⟨k, f, q1, q2, q3, q4, q5, q6, q7⟩ := on_field h (by omega) (by omega) (by omega)
      obtain ⟨j, g, e1, e2, e3, e4, e5⟩ := on_form h (by omega)
      have c3 := c_yFind s x.form hs.sml
      simp only [schV, frmsV, e1] at c3
      have c4 := c_yAt g x.field (by omega)
      have q8 := q1
      have q9 := q2
      rw [e3] at q8 q9
      simp only [frmV, fldsV, q8] at c4
      have eb : backOf s x = ⟨25, x.form, x.field, 0, 0, 0, 0, fld0, 0, [], x.t, []⟩ := by simp [backOf, o]
      have b9 : (x.op == 9) = false := by rw [o]; rfl
      have b10 : (x.op == 10) = false := by rw [o]; rfl
      have b1 : (x.op == 1) = false := by rw [o]; rfl
      have b2 : (x.op == 2) = false := by rw [o]; rfl
      have b3 : (x.op == 3) = false := by rw [o]; rfl
      have b4 : (x.op == 4) = false := by rw [o]; rfl
      have b5 : (x.op == 5) = true := by rw [o]; rfl
      rw [eb]
      have n1 : (0 + (x.t.map fun n => AV.int .i64 n).length) * 8 ≤ 211106232532992 := by rw [List.length_map]; have := right_t hr o; omega
      simp only [b9, b10, b1, b2, b3, b4, b5, OA_chk, cond_true, cond_false, OA_callx, OA_call, Option.bind_some, u_asC, u_asA, u_asI, u_asB, u_asL, u_asUq, u_asS, u_asN, fld0, List.map_nil, OA_dbl, OA_asm, c3, nthE, Int.natCast_nonneg, decide_true, Int.toNat_natCast, List.getElem?_map, e2, Option.map_some, frmV, fldsV, c4, q9, fldV, fldC, n1]
      rfl
    · obtain ⟨k, f, q1, q2, q3, q4, q5, q6, q7⟩ := on_field h (by omega) (by omega) (by omega)
      obtain ⟨j, g, e1, e2, e3, e4, e5⟩ := on_form h (by omega)
      have c3 := c_yFind s x.form hs.sml
      simp only [schV, frmsV, e1] at c3
      have c4 := c_yAt g x.field (by omega)
      have q8 := q1
      have q9 := q2
      rw [e3] at q8 q9
      simp only [frmV, fldsV, q8] at c4
      have eb : backOf s x = ⟨26, x.form, x.field, 0, x.to, x.a, 0, f, 0, [], [], []⟩ := by simp [backOf, o, q1, q5]
      have b9 : (x.op == 9) = false := by rw [o]; rfl
      have b10 : (x.op == 10) = false := by rw [o]; rfl
      have b1 : (x.op == 1) = false := by rw [o]; rfl
      have b2 : (x.op == 2) = false := by rw [o]; rfl
      have b3 : (x.op == 3) = false := by rw [o]; rfl
      have b4 : (x.op == 4) = false := by rw [o]; rfl
      have b5 : (x.op == 5) = false := by rw [o]; rfl
      have b6 : (x.op == 6) = true := by rw [o]; rfl
      rw [eb]
      simp only [b9, b10, b1, b2, b3, b4, b5, b6, OA_chk, cond_true, cond_false, OA_callx, OA_call, Option.bind_some, u_asC, u_asA, u_asI, u_asB, u_asL, u_asUq, u_asS, u_asN, fld0, List.map_nil, OA_dbl, OA_asm, c3, nthE, Int.natCast_nonneg, decide_true, Int.toNat_natCast, List.getElem?_map, e2, Option.map_some, frmV, fldsV, c4, q9, fldV, fldC]
      rfl
    · obtain ⟨k, f, q1, q2, q3, q4, q5, q6, q7⟩ := on_field h (by omega) (by omega) (by omega)
      obtain ⟨j, g, e1, e2, e3, e4, e5⟩ := on_form h (by omega)
      have c3 := c_yFind s x.form hs.sml
      simp only [schV, frmsV, e1] at c3
      have c4 := c_yAt g x.field (by omega)
      have q8 := q1
      have q9 := q2
      rw [e3] at q8 q9
      simp only [frmV, fldsV, q8] at c4
      have eb : backOf s x = ⟨27, x.form, x.field, (k : Int), 0, 0, 0, fld0, 0, [], [], []⟩ := by simp [backOf, o, q1]
      have b9 : (x.op == 9) = false := by rw [o]; rfl
      have b10 : (x.op == 10) = false := by rw [o]; rfl
      have b1 : (x.op == 1) = false := by rw [o]; rfl
      have b2 : (x.op == 2) = false := by rw [o]; rfl
      have b3 : (x.op == 3) = false := by rw [o]; rfl
      have b4 : (x.op == 4) = false := by rw [o]; rfl
      have b5 : (x.op == 5) = false := by rw [o]; rfl
      have b6 : (x.op == 6) = false := by rw [o]; rfl
      have b7 : (x.op == 7) = true := by rw [o]; rfl
      rw [eb]
      simp only [b9, b10, b1, b2, b3, b4, b5, b6, b7, OA_chk, cond_true, cond_false, OA_callx, OA_call, Option.bind_some, u_asC, u_asA, u_asI, u_asB, u_asL, u_asUq, u_asS, u_asN, fld0, List.map_nil, OA_dbl, OA_asm, c3, nthE, Int.natCast_nonneg, decide_true, Int.toNat_natCast, List.getElem?_map, e2, Option.map_some, frmV, fldsV, c4, q9, fldV, fldC]
      rfl
    · obtain ⟨k, f, q1, q2, q3, q4, q5, q6, q7⟩ := on_field h (by omega) (by omega) (by omega)
      obtain ⟨j, g, e1, e2, e3, e4, e5⟩ := on_form h (by omega)
      have c3 := c_yFind s x.form hs.sml
      simp only [schV, frmsV, e1] at c3
      have c4 := c_yAt g x.field (by omega)
      have q8 := q1
      have q9 := q2
      rw [e3] at q8 q9
      simp only [frmV, fldsV, q8] at c4
      have eb : backOf s x = ⟨28, x.form, x.to, 0, x.field, 0, 0, fld0, 0, [], [], []⟩ := by simp [backOf, o]
      have b9 : (x.op == 9) = false := by rw [o]; rfl
      have b10 : (x.op == 10) = false := by rw [o]; rfl
      have b1 : (x.op == 1) = false := by rw [o]; rfl
      have b2 : (x.op == 2) = false := by rw [o]; rfl
      have b3 : (x.op == 3) = false := by rw [o]; rfl
      have b4 : (x.op == 4) = false := by rw [o]; rfl
      have b5 : (x.op == 5) = false := by rw [o]; rfl
      have b6 : (x.op == 6) = false := by rw [o]; rfl
      have b7 : (x.op == 7) = false := by rw [o]; rfl
      rw [eb]
      simp only [b9, b10, b1, b2, b3, b4, b5, b6, b7, OA_chk, cond_true, cond_false, OA_callx, OA_call, Option.bind_some, u_asC, u_asA, u_asI, u_asB, u_asL, u_asUq, u_asS, u_asN, fld0, List.map_nil, OA_dbl, OA_asm, c3, nthE, Int.natCast_nonneg, decide_true, Int.toNat_natCast, List.getElem?_map, e2, Option.map_some, frmV, fldsV, c4, q9, fldV, fldC]
      rfl
    · have eb : backOf s x = ⟨29, x.form, 0, 0, 0, 0, 0, fld0, 0, [], [], []⟩ := by simp [backOf, o]
      have b9 : (x.op == 9) = true := by rw [o]; rfl
      rw [eb]
      simp only [b9, OA_chk, cond_true, cond_false, OA_callx, OA_call, Option.bind_some, u_asC, u_asA, u_asI, u_asB, u_asL, u_asUq, u_asS, u_asN, fld0, List.map_nil, OA_dbl, OA_asm]
      rfl
    · obtain ⟨j, g, e1, e2, e3, e4, e5⟩ := on_form h (by omega)
      have c3 := c_yFind s x.form hs.sml
      simp only [schV, frmsV, e1] at c3
      have eb : backOf s x = ⟨30, x.form, 0, 0, 0, 0, 0, fld0, 0, [], [], g.fields⟩ := by simp [backOf, o, e3]
      have b9 : (x.op == 9) = false := by rw [o]; rfl
      have b10 : (x.op == 10) = true := by rw [o]; rfl
      rw [eb]
      have n1 : (0 + (g.fields.map fldV).length) * 40 ≤ 211106232532992 := by rw [List.length_map]; omega
      simp only [b9, b10, OA_chk, cond_true, cond_false, OA_callx, OA_call, Option.bind_some, u_asC, u_asA, u_asI, u_asB, u_asL, u_asUq, u_asS, u_asN, fld0, List.map_nil, OA_dbl, OA_asm, c3, nthE, Int.natCast_nonneg, decide_true, Int.toNat_natCast, List.getElem?_map, e2, Option.map_some, frmV, fldsV, n1]
      rfl
  · have h' := bne_t h
    have ei : invS s x = (stpN, (onS s x).2) := by unfold invS; rw [if_neg h]
    rw [ei]
    simp only [s_zInvert, OA_chk, cond_true, OA_callx, c1, h', Option.bind_some, u_asC, u_asA, u_asI, u_asL, u_asN, stpN, fld0, stpV, stpC, intsV, fldsV, List.map_nil])
end Go.Proofs.Ytalpknofimglbaa.V
namespace Go.Proofs.Ytalpknofimglbaa.V
open Go
open AV (int lst agg str bool ref clo)
open List (map)
def s_SameListT {α : Type} (A : Alg α) (x : List Stp) (y : List Stp) (kc : List AV → List (Nat × List AV) → α) : α :=
  A.asm ((map stpV x).length ≤ maxL) (A.asm ((map stpV y).length ≤ maxL) (bif ((↑(map stpV x).length : Int) != (↑(map stpV y).length : Int)) then (kc [bool false] []) else (A.loop 4 [lst .ro 16 (map stpV x), lst .ro 16 (map stpV y), int .i64 0] [] fun j0 l1 l2 => bif (j0.beq 0) then (asC A l1 fun v3 l4 => asB A v3 fun b5 => asN A l4 (asN A l2 (kc [bool b5] []))) else (bif (j0.beq 1) then (asN A l1 (asN A l2 (kc [bool true] []))) else A.fail))))
def s_SameListTL {α : Type} (A : Alg α) (x : List Stp) (y : List Stp) (i : Int) (next : List AV → List (List AV) → α) (kc : Nat → List AV → List (List AV) → α) : α :=
  A.asm ((map stpV x).length ≤ maxL) (bif (decide (i < (↑(map stpV x).length : Int))) then (A.chk (decide ((0 : Int) ≤ i)) (nthE A (map stpV x) i.toNat fun v0 => asA A v0 fun l1 => asC A l1 fun v2 l3 => asI A .i64 v2 fun n4 => asC A l3 fun v5 l6 => asI A .i64 v5 fun n7 => asC A l6 fun v8 l9 => asI A .i64 v8 fun n10 => asC A l9 fun v11 l12 => asI A .i64 v11 fun n13 => asC A l12 fun v14 l15 => asI A .i64 v14 fun n16 => asC A l15 fun v17 l18 => asI A .i64 v17 fun n19 => asC A l18 fun v20 l21 => asI A .i64 v20 fun n22 => asC A l21 fun v23 l24 => asI A .i64 v23 fun n25 => asC A l24 fun v26 l27 => asI A .i64 v26 fun n28 => asC A l27 fun v29 l30 => asI A .i64 v29 fun n31 => asC A l30 fun v32 l33 => asI A .i64 v32 fun n34 => asC A l33 fun v35 l36 => asI A .i64 v35 fun n37 => asC A l36 fun v38 l39 => asI A .i64 v38 fun n40 => asC A l39 fun v41 l42 => asS A v41 fun l43 => asC A l42 fun v44 l45 => asL A 1 v44 fun l46 => asC A l45 fun v47 l48 => asL A 5 v47 fun l49 => asN A l48 (A.chk true (A.chk (decide ((0 : Int) ≤ i)) (nthE A (map stpV y) i.toNat fun v50 => asA A v50 fun l51 => asC A l51 fun v52 l53 => asI A .i64 v52 fun n54 => asC A l53 fun v55 l56 => asI A .i64 v55 fun n57 => asC A l56 fun v58 l59 => asI A .i64 v58 fun n60 => asC A l59 fun v61 l62 => asI A .i64 v61 fun n63 => asC A l62 fun v64 l65 => asI A .i64 v64 fun n66 => asC A l65 fun v67 l68 => asI A .i64 v67 fun n69 => asC A l68 fun v70 l71 => asI A .i64 v70 fun n72 => asC A l71 fun v73 l74 => asI A .i64 v73 fun n75 => asC A l74 fun v76 l77 => asI A .i64 v76 fun n78 => asC A l77 fun v79 l80 => asI A .i64 v79 fun n81 => asC A l80 fun v82 l83 => asI A .i64 v82 fun n84 => asC A l83 fun v85 l86 => asI A .i64 v85 fun n87 => asC A l86 fun v88 l89 => asI A .i64 v88 fun n90 => asC A l89 fun v91 l92 => asS A v91 fun l93 => asC A l92 fun v94 l95 => asL A 1 v94 fun l96 => asC A l95 fun v97 l98 => asL A 5 v97 fun l99 => asN A l98 (A.chk true (A.callx 27 [agg [int .i64 n4, int .i64 n7, int .i64 n10, int .i64 n13, int .i64 n16, int .i64 n19, int .i64 n22, int .i64 n25, int .i64 n28, int .i64 n31, int .i64 n34, int .i64 n37, int .i64 n40, str l43, lst .ro 1 l46, lst .ro 5 l49], agg [int .i64 n54, int .i64 n57, int .i64 n60, int .i64 n63, int .i64 n66, int .i64 n69, int .i64 n72, int .i64 n75, int .i64 n78, int .i64 n81, int .i64 n84, int .i64 n87, int .i64 n90, str l93, lst .ro 1 l96, lst .ro 5 l99]] fun l100 => asC A l100 fun v101 l102 => asB A v101 fun b103 => asN A l102 (bif (!b103) then (kc 0 [bool false] []) else (next [lst .ro 16 (map stpV x), lst .ro 16 (map stpV y), int .i64 (IntKind.i64.wrap (i + (1 : Int)))] []))))))))) else (kc 1 [] []))
theorem t_SameListT (x y : List Stp) {r : CR} (h : s_SameListT (OA (tbl E0) (ltbl E0 28 0)) x y (fun r o => some (r, o)) = some r) : tbl E0 28 [stpsV x, stpsV y] [] = some r :=
  tbl_of (body := bodyOf Try.f28) Try.func28 (by kernel_rfl) (by kernel_rfl) (by kernel_rfl) (Eq.trans (by kernel_rfl) h)
theorem t_SameListTL (x y : List Stp) (i : Int) {r : LR} (h : s_SameListTL (OA (tbl E0) (ltbl E0 28 0)) x y i (fun vs os => ltbl E0 28 0 4 vs os) (fun j vs os => some (j, vs, os)) = some r) : ltbl E0 28 0 4 [stpsV x, stpsV y, .int .i64 i] [] = some r :=
  ltbl_of (body := bodyOf Try.f28) Try.func28 (by kernel_rfl) (by kernel_rfl) (Eq.trans (by kernel_rfl) h)
end Go.Proofs.Ytalpknofimglbaa.V
namespace Go.Proofs.Ytalpknofimglbaa.V
open Go
open AV (int lst agg str bool ref clo)
open List (map)
end Go.Proofs.Ytalpknofimglbaa.V
namespace Go.Proofs.Ytalpknofimglbaa.V
open Go
end Go.Proofs.Ytalpknofimglbaa.V
namespace Go.Proofs.Ytalpknofimglbaa.V
open Go
end Go.Proofs.Ytalpknofimglbaa.V
namespace Go.Proofs.Ytalpknofimglbaa.V
open Go
end Go.Proofs.Ytalpknofimglbaa.V
namespace Go.Proofs.Ytalpknofimglbaa.V
open Go
end Go.Proofs.Ytalpknofimglbaa.V
namespace Go.Proofs.Ytalpknofimglbaa.V
open Go
end Go.Proofs.Ytalpknofimglbaa.V
namespace Go.Proofs.Ytalpknofimglbaa.V
open Go
end Go.Proofs.Ytalpknofimglbaa.V
namespace Go.Proofs.Ytalpknofimglbaa.V
open Go
theorem c_SameListTL (x y : List Stp) (hl : x.length ≤ 1000) (he : x.length = y.length) (hok : ∀ a ∈ x, a.sml) : ∀ (r r' : List Stp) (i : Nat), x.drop i = r → y.drop i = r' →
    ltbl E0 28 0 4 [stpsV x, stpsV y, .int .i64 i] [] = some (if r = r' then (1, [], []) else (0, [.bool false], [])) := by
  intro r
  induction r with
  | nil =>
    intro r' i hr hr'
    have h : x.length ≤ i := by simpa using hr
    have h3 : r' = [] := by rw [← hr', List.drop_eq_nil_iff]; omega
    have : ¬ ((i : Int) < x.length) := by omega
    subst h3
    exact t_SameListTL _ _ _ (by simp [s_SameListTL, this])
  | cons a r ih =>
    intro r' i hr hr'
    obtain ⟨hlt, hget, hr2⟩ := drop_c hr
    have hlt' : i < y.length := by omega
    rw [List.drop_eq_getElem_cons hlt'] at hr'
    subst hr'
    have hg2 : y[i]? = some y[i] := List.getElem?_eq_getElem hlt'
    generalize y[i] = g at *
    have h2 : (i : Int) < x.length := by omega
    have e1 := i64_succ (i := i) (by omega)
    have h := ih _ (i + 1) hr2 rfl
    have c := c_ytSame a g (hok a (mem_drop hr))
    simp only [stpV, stpC, intsV, fldsV] at c
    refine t_SameListTL _ _ _ ?_
    simp only [s_SameListTL, List.length_map, h2, Int.natCast_nonneg, nthE, Int.toNat_natCast, List.getElem?_map, hget, hg2, Option.map_some, OA_asm, OA_chk, OA_call, OA_callx, OA_loop, OA_both_id, u_asA, u_asC, u_asI, u_asB, u_asS, u_asL, u_asOwn, u_asN, u_asRef0, Option.bind_some, nbeq, Nm_beq_self, decide_true, cond_true, cond_false, c, e1]
    by_cases e : a = g
    · simp only [e, decide_true, Bool.not_true, cond_false, h, List.cons.injEq, true_and]
    · simp [e]
theorem c_SameListT (x y : List Stp) (hl : x.length ≤ 1000) (hok : ∀ a ∈ x, a.sml) : tbl E0 28 [stpsV x, stpsV y] [] = some ([.bool (decide (x = y))], []) :=
  t_SameListT x y (by
    by_cases he : x.length = y.length
    · have k := c_SameListTL x y hl he hok x y 0 rfl rfl
      simp only [Int.natCast_zero] at k
      have h' : ((x.length : Int) != (y.length : Int)) = false := by rw [he]; simp
      simp only [s_SameListT, List.length_map, OA_asm, OA_chk, OA_call, OA_callx, OA_loop, OA_both_id, u_asA, u_asC, u_asI, u_asB, u_asS, u_asL, u_asOwn, u_asN, u_asRef0, Option.bind_some, nbeq, Nm_beq_self, decide_true, cond_true, cond_false, h', k]
      by_cases e2 : x = y <;> simp [e2]
    · have : ¬ (x = y) := fun e => he (by rw [e])
      have h' : ((x.length : Int) != (y.length : Int)) = true := bne_t (by omega)
      simp only [s_SameListT, List.length_map, OA_asm, OA_chk, OA_call, OA_callx, OA_loop, OA_both_id, u_asA, u_asC, u_asI, u_asB, u_asS, u_asL, u_asOwn, u_asN, u_asRef0, Option.bind_some, nbeq, Nm_beq_self, decide_true, cond_true, cond_false, h']
      simp [this])
end Go.Proofs.Ytalpknofimglbaa.V
namespace Go.Proofs.Ytalpknofimglbaa.V
open Go
theorem rgt_ok {f : Fld} (h : rgtS f = true) : f.ok := by
  obtain ⟨id, kind, lo, hi, most⟩ := f
  simp only [rgtS, Bool.and_eq_true, decide_eq_true_eq] at h
  obtain ⟨h1, h2⟩ := h
  have h3 : i64 kind ∧ i64 lo ∧ i64 hi ∧ i64 most := by
    simp only [i64]
    split at h2
    · simp only [decide_eq_true_eq] at h2; omega
    · split at h2
      · simp only [decide_eq_true_eq] at h2; omega
      · split at h2
        · simp only [decide_eq_true_eq] at h2; omega
        · split at h2
          · simp only [decide_eq_true_eq] at h2; omega
          · cases h2
  exact ⟨⟨by show (-9223372036854775808 : Int) ≤ id; omega, by show id ≤ (9223372036854775807 : Int); omega⟩, h3⟩
theorem ok_mk {op form field place to a b n : Int} {f : Fld} {s : List UInt8} {t : List Int} {fs : List Fld} (h : i64 op ∧ i64 form ∧ i64 field ∧ i64 place ∧ i64 to ∧ i64 a ∧ i64 b ∧ i64 n) (hf : f.ok)
    (ht : (∀ n ∈ t, i64 n) ∧ t.length ≤ 1000) (hfs : (∀ f ∈ fs, f.ok) ∧ fs.length ≤ 1000) : (Stp.mk op form field place to a b f n s t fs).ok ∧ (Stp.mk op form field place to a b f n s t fs).sml := by
  obtain ⟨h1, h2, h3, h4, h5, h6, h7, h8⟩ := h
  obtain ⟨t1, t2⟩ := ht
  obtain ⟨f1, f2⟩ := hfs
  exact ⟨⟨h1, h2, h3, h4, h5, h6, h7, hf, h8, t1, f1⟩, ⟨by show t.length ≤ _; omega, by show fs.length ≤ _; omega⟩⟩
theorem fld0_ok : fld0.ok := by
  refine ⟨⟨?_, ?_⟩, ⟨?_, ?_⟩, ⟨?_, ?_⟩, ⟨?_, ?_⟩, ⟨?_, ?_⟩⟩ <;> decide
theorem backOf_ok {s : Sch} {x : Stp} (h : (onS s x).2 = 0) (hx : x.ok) : (backOf s x).ok ∧ (backOf s x).sml := by
  obtain ⟨i0, i1, i2, i3, i4, i5, i6, i7, i8, i9, iA⟩ := hx
  obtain ⟨_, _, _, _, hsr, h4, hr, hle⟩ := on_out h
  have zf := fld0_ok
  have i7' := i7.1
  rcases right_10 hr hle with o | o | o | o | o | o | o | o | o | o
  · have eb : backOf s x = ⟨21, x.form, x.f.id, 0, 0, 0, 0, fld0, 0, [], [], []⟩ := by simp [backOf, o]
    rw [eb]
    exact ok_mk (by simp only [i64] at *; omega) zf ⟨by simp, by simp⟩ ⟨by simp, by simp⟩
  · obtain ⟨k, f, q1, q2, q3, q4, q5, q6, q7⟩ := on_field h (by omega) (by omega) (by omega)
    have eb : backOf s x = ⟨22, x.form, 0, (k : Int), 0, 0, 0, f, x.n, x.s, [], []⟩ := by simp [backOf, o, q1, q5]
    rw [eb]
    exact ok_mk (by simp only [i64] at *; omega) (rgt_ok q4) ⟨by simp, by simp⟩ ⟨by simp, by simp⟩
  · obtain ⟨k, f, q1, q2, q3, q4, q5, q6, q7⟩ := on_field h (by omega) (by omega) (by omega)
    have eb : backOf s x = ⟨23, x.form, x.field, 0, 0, 0, 0, f, 0, [], [], []⟩ := by simp [backOf, o, q1, q5]
    rw [eb]
    exact ok_mk (by simp only [i64] at *; omega) (rgt_ok q4) ⟨by simp, by simp⟩ ⟨by simp, by simp⟩
  · obtain ⟨k, f, q1, q2, q3, q4, q5, q6, q7⟩ := on_field h (by omega) (by omega) (by omega)
    have eb : backOf s x = ⟨24, x.form, x.field, 0, 0, x.a, x.b, f, 0, [], [], []⟩ := by simp [backOf, o, q1, q5]
    rw [eb]
    exact ok_mk (by simp only [i64] at *; omega) (rgt_ok q4) ⟨by simp, by simp⟩ ⟨by simp, by simp⟩
  · have eb : backOf s x = ⟨25, x.form, x.field, 0, 0, 0, 0, fld0, 0, [], x.t, []⟩ := by simp [backOf, o]
    rw [eb]
    exact ok_mk (by simp only [i64] at *; omega) zf ⟨i9, by have := right_t hr o; omega⟩ ⟨by simp, by simp⟩
  · obtain ⟨k, f, q1, q2, q3, q4, q5, q6, q7⟩ := on_field h (by omega) (by omega) (by omega)
    have eb : backOf s x = ⟨26, x.form, x.field, 0, x.to, x.a, 0, f, 0, [], [], []⟩ := by simp [backOf, o, q1, q5]
    rw [eb]
    exact ok_mk (by simp only [i64] at *; omega) (rgt_ok q4) ⟨by simp, by simp⟩ ⟨by simp, by simp⟩
  · obtain ⟨k, f, q1, q2, q3, q4, q5, q6, q7⟩ := on_field h (by omega) (by omega) (by omega)
    have eb : backOf s x = ⟨27, x.form, x.field, (k : Int), 0, 0, 0, fld0, 0, [], [], []⟩ := by simp [backOf, o, q1]
    rw [eb]
    exact ok_mk (by simp only [i64] at *; omega) zf ⟨by simp, by simp⟩ ⟨by simp, by simp⟩
  · have eb : backOf s x = ⟨28, x.form, x.to, 0, x.field, 0, 0, fld0, 0, [], [], []⟩ := by simp [backOf, o]
    rw [eb]
    exact ok_mk (by simp only [i64] at *; omega) zf ⟨by simp, by simp⟩ ⟨by simp, by simp⟩
  · have eb : backOf s x = ⟨29, x.form, 0, 0, 0, 0, 0, fld0, 0, [], [], []⟩ := by simp [backOf, o]
    rw [eb]
    exact ok_mk (by simp only [i64] at *; omega) zf ⟨by simp, by simp⟩ ⟨by simp, by simp⟩
  · obtain ⟨j, g, e1, e2, e3, e4, e5⟩ := on_form h (by omega)
    have hg := ((schS_few hsr).2 g (List.mem_of_getElem? e2)).2
    have eb : backOf s x = ⟨30, x.form, 0, 0, 0, 0, 0, fld0, 0, [], [], g.fields⟩ := by simp [backOf, o, e3]
    rw [eb]
    exact ok_mk (by simp only [i64] at *; omega) zf ⟨by simp, by simp⟩ ⟨fun y hy => rgt_ok (hg y hy), by omega⟩
theorem trail_ok : ∀ (l : List Stp) (i : Nat) (s : Sch), (allS s i l).2.2 = 0 → (∀ x ∈ l, x.ok) → ∀ y ∈ trailS s l, y.ok ∧ y.sml
  | [], i, s, h, hx, y, hy => by simp [trailS] at hy
  | a :: l, i, s, h, hx, y, hy => by
    unfold allS at h
    by_cases e : (onS s a).2 = 0
    · rw [if_pos e] at h
      rcases List.mem_cons.1 hy with rfl | hy
      · exact backOf_ok e (hx a (by simp))
      · exact trail_ok l (i + 1) _ h (fun x hm => hx x (by simp [hm])) y hy
    · rw [if_neg e] at h; exact absurd h e
theorem flat_stps (l : List Stp) : (l.map stpV).all AV.flat = true := by
  rw [List.all_eq_true]
  intro x hx
  obtain ⟨f, _, rfl⟩ := List.mem_map.1 hx
  rfl
theorem cond_of {α : Type} {b : Bool} {x y : α} (h : b = true) : (bif b then x else y) = x := by rw [h]; rfl
theorem q168 {n : Nat} (h : n ≤ 3000) : n * 168 ≤ 211106232532992 := by omega
theorem c_gBackL (l : List Stp) (hl : l.length ≤ 1000) (hx : ∀ x ∈ l, x.sml ∧ x.ok) : ∀ (r : List Stp) (i : Nat) (s : Sch) (d : List Stp), l.drop i = r → Few s → d.length = i →
    ltbl E0 25 0 3 [.lst .uq 16 (d.map stpV), stpsV l, .int .i64 l.length, .int .i64 i] [[.int .i64 s.ver, frmsV s.forms]] =
      some (if (allS s i r).2.2 = 0 then (1, [.lst .uq 16 ((d ++ trailS s r).map stpV)], []) else (0, [stpsV [], .int .i64 (allS s i r).2.2], [])) := by
  intro r
  induction r with
  | nil =>
    intro i s d hr hs hd
    have h : l.length ≤ i := by simpa using hr
    refine t_gBackL _ _ _ _ _ ?_
    have : ¬ ((i : Int) < l.length) := by omega
    have ff := flat_stps d
    simp [s_gBackL, this, allS, trailS, ff]
  | cons x r ih =>
    intro i s d hr hs hd
    obtain ⟨hlt, hget, hr2⟩ := drop_c hr
    have h2 : (i : Int) < l.length := by omega
    have e1 := i64_succ (i := i) (by omega)
    have hxx := hx x (mem_drop hr)
    have c := c_gInvert s x hs hxx.1 hxx.2
    have c2 := c_gOn s x hs hxx.1 hxx.2
    refine t_gBackL _ _ _ _ _ ?_
    by_cases h : (onS s x).2 = 0
    · have ei : invS s x = (backOf s x, 0) := by unfold invS; rw [if_pos h]
      rw [ei] at c
      have e := ih (i + 1) (onS s x).1 (d ++ [backOf s x]) hr2 (few_of (on_right h)) (by simp [hd])
      have ff := flat_stps (d ++ [backOf s x])
      have ea : allS s i (x :: r) = allS (onS s x).1 (i + 1) r := by rw [allS, if_pos h]
      have et : trailS s (x :: r) = backOf s x :: trailS (onS s x).1 r := rfl
      rw [ea, et]
      have ed : d ++ backOf s x :: trailS (onS s x).1 r = d ++ [backOf s x] ++ trailS (onS s x).1 r := by simp
      rw [ed]
      have hq := q168 (n := d.length + 1) (by omega)
      generalize backOf s x = y at *
      simp only [List.map_append, List.map_cons, List.map_nil, schV, frmsV, stpV, stpC, intsV, fldsV] at c c2 e ff ⊢
      simp only [s_gBackL, OA_asm, List.length_map, h2, decide_true, cond_true, OA_chk, Int.natCast_nonneg, nthE, Int.toNat_natCast, List.getElem?_map, hget, Option.map_some, u_asA, u_asC, u_asI, u_asS, u_asL, u_asN, stpV, stpC, intsV, fldsV, OA_callx, c, c2, Option.bind_some, e1, OA_dbl, OA_both_id, bne_self_eq_false, cond_false, List.length_cons, List.length_nil, Nat.zero_add]
      simp only [hq, decide_true, cond_true]
      exact (cond_of ff).trans e
    · have ei : invS s x = (stpN, (onS s x).2) := by unfold invS; rw [if_neg h]
      rw [ei] at c
      have h' := bne_t h
      simp only [schV, frmsV, stpV, stpC, intsV, fldsV, stpN, fld0, List.map_nil] at c
      simp only [s_gBackL, OA_asm, List.length_map, h2, decide_true, cond_true, OA_chk, Int.natCast_nonneg, nthE, Int.toNat_natCast, List.getElem?_map, hget, Option.map_some, u_asA, u_asC, u_asI, u_asS, u_asL, u_asN, stpV, stpC, intsV, fldsV, OA_callx, c, Option.bind_some, h', allS, if_neg h, stpsV, List.map_nil]
set_option maxRecDepth 100000 in
theorem c_zBackL (l : List Stp) (hl : l.length ≤ 1000) (hx : ∀ x ∈ l, x.sml) : ∀ (r : List Stp) (i : Nat) (s : Sch) (d : List Stp), l.drop i = r → Few s → d.length = i →
    ltbl E0 26 0 3 [stpsV l, stpsV d, .int .i64 i] [[.int .i64 s.ver, frmsV s.forms]] =
      some (if (allS s i r).2.2 = 0 then (1, [stpsV ((trailS s r).reverse ++ d)], []) else (0, [stpsV [], .int .i64 (allS s i r).2.2], [])) := by
  intro r
  induction r with
  | nil =>
    intro i s d hr hs hd
    have h : l.length ≤ i := by simpa using hr
    refine t_zBackL _ _ _ _ ?_
    have : ¬ ((i : Int) < l.length) := by omega
    simp [s_zBackL, this, allS, trailS]
  | cons x r ih =>
    intro i s d hr hs hd
    obtain ⟨hlt, hget, hr2⟩ := drop_c hr
    have h2 : (i : Int) < l.length := by omega
    have e1 := i64_succ (i := i) (by omega)
    have hxx := hx x (mem_drop hr)
    have c := c_zInvert s x hs hxx
    have c2 := c_zOn s x hs hxx
    refine t_zBackL _ _ _ _ ?_
    by_cases h : (onS s x).2 = 0
    · have ei : invS s x = (backOf s x, 0) := by unfold invS; rw [if_pos h]
      rw [ei] at c
      have e := ih (i + 1) (onS s x).1 (backOf s x :: d) hr2 (few_of (on_right h)) (by simp [hd])
      have ea : allS s i (x :: r) = allS (onS s x).1 (i + 1) r := by rw [allS, if_pos h]
      have et : trailS s (x :: r) = backOf s x :: trailS (onS s x).1 r := rfl
      rw [ea, et]
      have ed : (backOf s x :: trailS (onS s x).1 r).reverse ++ d = (trailS (onS s x).1 r).reverse ++ backOf s x :: d := by simp
      rw [ed]
      have hq := q168 (n := 1 + d.length) (by omega)
      generalize backOf s x = y at *
      simp only [List.map_cons, List.map_nil, schV, frmsV, stpsV, stpV, stpC, intsV, fldsV] at c c2 e ⊢
      simp only [s_zBackL, s_zBackL_k1, OA_asm, List.length_map, h2, decide_true, cond_true, OA_chk, Int.natCast_nonneg, nthE, Int.toNat_natCast, List.getElem?_map, hget, Option.map_some, u_asA, u_asC, u_asI, u_asS, u_asL, u_asN, stpV, stpC, intsV, fldsV, OA_callx, c, c2, Option.bind_some, e1, OA_dbl, OA_both_id, bne_self_eq_false, cond_false, List.length_cons, List.length_nil, Nat.zero_add, hq]
      exact e
    · have ei : invS s x = (stpN, (onS s x).2) := by unfold invS; rw [if_neg h]
      rw [ei] at c
      have h' := bne_t h
      simp only [schV, frmsV, stpV, stpC, intsV, fldsV, stpN, fld0, List.map_nil] at c
      simp only [s_zBackL, s_zBackL_k1, OA_asm, List.length_map, h2, decide_true, cond_true, OA_chk, Int.natCast_nonneg, nthE, Int.toNat_natCast, List.getElem?_map, hget, Option.map_some, u_asA, u_asC, u_asI, u_asS, u_asL, u_asN, stpV, stpC, intsV, fldsV, OA_callx, OA_dbl, OA_both_id, c, Option.bind_some, h', allS, if_neg h, stpsV, List.map_nil]
theorem c_gBack (s : Sch) (l : List Stp) (hs : Few s) (hl : l.length ≤ 1000) (hx : ∀ x ∈ l, x.sml ∧ x.ok) : tbl E0 25 [schV s, stpsV l] [] = some ([stpsV (backS s [] l).1, .int .i64 (backS s [] l).2], []) := t_gBack s l (by
  have c := c_gBackL l hl hx l 0 s [] rfl hs rfl
  have e2 := back_all l 0 s []
  simp only [Int.natCast_zero, List.map_nil, List.nil_append, stpsV, frmsV] at c
  simp only [s_gBack, OA_chk, cond_true, OA_asm, List.length_map, OA_loop, c, Option.bind_some]
  by_cases h : (allS s 0 l).2.2 = 0
  · have eb := back_eq l s [] (e2.trans h)
    have ff := flat_stps (trailS s l).reverse
    rw [List.map_reverse] at ff
    rw [e2, h, eb, if_pos rfl]
    simp only [Option.bind_some, nbeq, decide_true, cond_true, cond_false, decide_false, (by decide : (1 : Nat) ≠ 0), u_asC, u_asUq, u_asN, ff, List.append_nil, List.map_reverse, stpsV]
  · have eb := back_err l s [] (by rw [e2]; exact h)
    rw [e2, eb, if_neg h]
    simp only [Option.bind_some, nbeq, decide_true, cond_true, u_asC, u_asI, u_asL, u_asN, stpsV, List.map_nil])
theorem c_zBack (s : Sch) (l : List Stp) (hs : Few s) (hl : l.length ≤ 1000) (hx : ∀ x ∈ l, x.sml) : tbl E0 26 [schV s, stpsV l] [] = some ([stpsV (backS s [] l).1, .int .i64 (backS s [] l).2], []) := t_zBack s l (by
  have c := c_zBackL l hl hx l 0 s [] rfl hs rfl
  have e2 := back_all l 0 s []
  simp only [Int.natCast_zero, List.map_nil, stpsV, frmsV] at c
  simp only [s_zBack, OA_chk, cond_true, OA_asm, List.length_map, OA_loop, c, Option.bind_some]
  by_cases h : (allS s 0 l).2.2 = 0
  · have eb := back_eq l s [] (e2.trans h)
    rw [e2, h, eb, if_pos rfl]
    simp only [Option.bind_some, nbeq, decide_true, cond_true, cond_false, decide_false, (by decide : (1 : Nat) ≠ 0), u_asC, u_asL, u_asN, List.append_nil, stpsV]
  · have eb := back_err l s [] (by rw [e2]; exact h)
    rw [e2, eb, if_neg h]
    simp only [Option.bind_some, nbeq, decide_true, cond_true, u_asC, u_asI, u_asL, u_asN, stpsV, List.map_nil])
theorem lt_min {i a b : Int} (h1 : i < a) (h2 : i < b) : i < if b < a then b else a := by split <;> omega
theorem nlt_min {i a b : Int} (h : a ≤ i ∨ b ≤ i) : ¬ (i < if b < a then b else a) := by split <;> omega
set_option maxRecDepth 100000 in
theorem c_gunlikeL (a b : List Stp) (ha : a.length ≤ 1000) (hao : ∀ x ∈ a, x.ok ∧ x.sml) (hbo : ∀ x ∈ b, x.ok) : ∀ (r r' : List Stp) (i : Nat), a.drop i = r → b.drop i = r' →
    ltbl E0 55 0 2 [stpsV a, stpsV b, .clo 56 [], .int .i64 i] [] = some (1, [.int .i64 ((i + likeN r r' : Nat) : Int)], []) := by
  intro r
  induction r with
  | nil =>
    intro r' i hr hr'
    have h : a.length ≤ i := by simpa using hr
    have hn := nlt_min (i := i) (a := a.length) (b := b.length) (by omega)
    refine t_gunlikeL _ _ _ ?_
    simp only [s_gunlikeL, OA_asm, List.length_map, hn, decide_false, cond_false, likeN, Nat.add_zero]
  | cons x r ih =>
    intro r' i hr hr'
    obtain ⟨hlt, hget, hr2⟩ := drop_c hr
    cases r' with
    | nil =>
      have h : b.length ≤ i := by simpa using hr'
      have hn := nlt_min (i := i) (a := a.length) (b := b.length) (by omega)
      refine t_gunlikeL _ _ _ ?_
      simp only [s_gunlikeL, OA_asm, List.length_map, hn, decide_false, cond_false, likeN, Nat.add_zero]
    | cons y r' =>
      obtain ⟨hlt', hget', hr2'⟩ := drop_c hr'
      have hn := lt_min (i := i) (a := a.length) (b := b.length) (by omega) (by omega)
      have e1 := i64_succ (i := i) (by omega)
      have h := ih r' (i + 1) hr2 hr2'
      have hx := hao x (mem_drop hr)
      have c := c_tSame x y hx.1 (hbo y (mem_drop hr')) hx.2
      simp only [stpsV, stpV, stpC, intsV, fldsV] at c h
      refine t_gunlikeL _ _ _ ?_
      simp only [s_gunlikeL, OA_asm, List.length_map, hn, decide_true, cond_true, OA_chk, Int.natCast_nonneg, nthE, Int.toNat_natCast, List.getElem?_map, hget, hget', Option.map_some, u_asA, u_asC, u_asI, u_asB, u_asS, u_asL, u_asN, stpV, stpC, intsV, fldsV, OA_callx, c, Option.bind_some, e1]
      by_cases e : x = y
      · subst e
        have el : likeN (x :: r) (x :: r') = likeN r r' + 1 := by rw [likeN, if_pos rfl]
        rw [el, show i + (likeN r r' + 1) = i + 1 + likeN r r' by omega]
        simp only [decide_true, cond_true]
        exact h
      · have el : likeN (x :: r) (y :: r') = 0 := by unfold likeN; rw [if_neg e]
        rw [el]
        simp only [e, decide_false, cond_false, Nat.add_zero]
theorem c_gunlike (a b : List Stp) (ha : a.length ≤ 1000) (hao : ∀ x ∈ a, x.ok ∧ x.sml) (hbo : ∀ x ∈ b, x.ok) : tbl E0 55 [stpsV a, stpsV b, .clo 56 []] [] = some ([.int .i64 (likeN a b : Nat)], []) := t_gunlike a b (by
  have c := c_gunlikeL a b ha hao hbo a b 0 rfl rfl
  simp only [Int.natCast_zero, Nat.zero_add, stpsV] at c
  simp only [s_gunlike, OA_loop, c, Option.bind_some, nbeq, decide_true, cond_true, u_asC, u_asI, u_asN])
def chkS (s : Sch) (a b : List Stp) : Int × Int :=
  if (allS s 0 a).2.2 = 0 then (if likeN (trailS s a).reverse b < max (trailS s a).reverse.length b.length then ((likeN (trailS s a).reverse b : Nat), 18) else (0, 0)) else (((allS s 0 a).2.1 : Nat), (allS s 0 a).2.2)
theorem lt_max {i a b : Nat} : ((i : Int) < if (a : Int) < (b : Int) then (b : Int) else (a : Int)) ↔ i < max a b := by split <;> omega
theorem c_gCheck (s : Sch) (a b : List Stp) (hs : Few s) (hl : a.length ≤ 1000) (ha : ∀ x ∈ a, x.sml ∧ x.ok) (hb : ∀ x ∈ b, x.ok) : tbl E0 29 [schV s, stpsV a, stpsV b] [] = some ([.int .i64 (chkS s a b).1, .int .i64 (chkS s a b).2], []) := t_gCheck s a b (by
  have c1 := c_gAll s a hs hl ha
  have c2 := c_gBack s a hs hl ha
  have e2 := back_all a 0 s []
  simp only [schV, frmsV, stpsV] at c1 c2
  simp only [s_gCheck, OA_chk, cond_true, OA_callx, c1, Option.bind_some, u_asC, u_asA, u_asI, u_asL, u_asN]
  by_cases h : (allS s 0 a).2.2 = 0
  · have h' : ((allS s 0 a).2.2 != 0) = false := by simp [h]
    have eb := back_eq a s [] (e2.trans h)
    rw [List.append_nil] at eb
    rw [e2, h, eb] at c2
    have c3 := c_gunlike (trailS s a).reverse b (by rw [List.length_reverse, trail_len]; omega) (fun y hy => trail_ok a 0 s h (fun x hx => (ha x hx).2) y (by simpa using hy)) hb
    simp only [stpsV] at c3
    simp only [h', cond_false, c2, c3, Option.bind_some, OA_chk, OA_callx, OA_asm, List.length_map, bne_self_eq_false, u_asC, u_asI, u_asL, u_asN, cond_true, chkS, h, if_true]
    by_cases q : likeN (trailS s a).reverse b < max (trailS s a).reverse.length b.length
    · rw [if_pos q, decide_eq_true (lt_max.2 q)]
      rfl
    · rw [if_neg q, decide_eq_false (fun w => q (lt_max.1 w))]
      rfl
  · have h' := bne_t h
    simp only [h', cond_true, chkS, if_neg h])
set_option maxRecDepth 100000 in
theorem c_zCheckL (a b : List Stp) (ha : a.length ≤ 1000) (hao : ∀ x ∈ a, x.sml) : ∀ (r r' : List Stp) (i : Nat), a.drop i = r → b.drop i = r' →
    ltbl E0 30 0 6 [stpsV b, stpsV a, .int .i64 i] [] = some (if likeN r r' < min r.length r'.length then (0, [.int .i64 ((i + likeN r r' : Nat) : Int), .int .i64 18], []) else (1, [stpsV b, stpsV a], [])) := by
  intro r
  induction r with
  | nil =>
    intro r' i hr hr'
    have h : a.length ≤ i := by simpa using hr
    have hn : ¬ ((i : Int) < a.length) := by omega
    refine t_zCheckL _ _ _ ?_
    have q : ¬ (likeN [] r' < min ([] : List Stp).length r'.length) := by simp
    rw [if_neg q]
    simp only [s_zCheckL, OA_join, OA_asm, List.length_map, hn, decide_false, cond_false, Option.bind_some, Tok.untok_tok, stpsV]
  | cons x r ih =>
    intro r' i hr hr'
    obtain ⟨hlt, hget, hr2⟩ := drop_c hr
    have hn : (i : Int) < a.length := by omega
    cases r' with
    | nil =>
      have h : b.length ≤ i := by simpa using hr'
      have hn2 : ¬ ((i : Int) < b.length) := by omega
      refine t_zCheckL _ _ _ ?_
      have q : ¬ (likeN (x :: r) [] < min (x :: r).length ([] : List Stp).length) := by simp
      rw [if_neg q]
      simp only [s_zCheckL, OA_join, OA_asm, List.length_map, hn, hn2, decide_true, decide_false, cond_true, cond_false, Option.bind_some, Tok.untok_tok, stpsV]
    | cons y r' =>
      obtain ⟨hlt', hget', hr2'⟩ := drop_c hr'
      have hn2 : (i : Int) < b.length := by omega
      have e1 := i64_succ (i := i) (by omega)
      have h := ih r' (i + 1) hr2 hr2'
      have c := c_ytSame x y (hao x (mem_drop hr))
      simp only [stpsV, stpV, stpC, intsV, fldsV] at c h
      refine t_zCheckL _ _ _ ?_
      simp only [s_zCheckL, OA_join, OA_asm, List.length_map, hn, hn2, decide_true, cond_true, Option.bind_some, Tok.untok_tok, OA_chk, Int.natCast_nonneg, nthE, Int.toNat_natCast, List.getElem?_map, hget, hget', Option.map_some, u_asA, u_asC, u_asI, u_asB, u_asS, u_asL, u_asN, stpV, stpC, intsV, fldsV, OA_callx, c, e1]
      by_cases e : x = y
      · subst e
        have el : likeN (x :: r) (x :: r') = likeN r r' + 1 := by rw [likeN, if_pos rfl]
        have em : (likeN (x :: r) (x :: r') < min (x :: r).length (x :: r').length) = (likeN r r' < min r.length r'.length) := by
          rw [el, List.length_cons, List.length_cons]; apply propext; omega
        rw [show i + 1 + likeN r r' = i + likeN (x :: r) (x :: r') by omega] at h
        simp only [decide_true, Bool.not_true, cond_false, em]
        exact h
      · have el : likeN (x :: r) (y :: r') = 0 := by unfold likeN; rw [if_neg e]
        have em : likeN (x :: r) (y :: r') < min (x :: r).length (y :: r').length := by rw [el]; simp only [List.length_cons]; omega
        rw [if_pos em, el]
        simp only [e, decide_false, Bool.not_false, cond_true, Nat.add_zero]
theorem c_zCheck (s : Sch) (a b : List Stp) (hs : Few s) (hl : a.length ≤ 1000) (ha : ∀ x ∈ a, x.sml ∧ x.ok) : tbl E0 30 [schV s, stpsV a, stpsV b] [] = some ([.int .i64 (chkS s a b).1, .int .i64 (chkS s a b).2], []) := t_zCheck s a b (by
  have c1 := c_zAll s a hs hl (fun x hx => (ha x hx).1)
  have c2 := c_zBack s a hs hl (fun x hx => (ha x hx).1)
  have e2 := back_all a 0 s []
  simp only [schV, frmsV, stpsV] at c1 c2
  simp only [s_zCheck, OA_chk, cond_true, OA_callx, c1, Option.bind_some, u_asC, u_asA, u_asI, u_asL, u_asN]
  by_cases h : (allS s 0 a).2.2 = 0
  · have h' : ((allS s 0 a).2.2 != 0) = false := by simp [h]
    have eb := back_eq a s [] (e2.trans h)
    rw [List.append_nil] at eb
    rw [e2, h, eb] at c2
    have c3 := c_zCheckL (trailS s a).reverse b (by rw [List.length_reverse, trail_len]; omega) (fun y hy => (trail_ok a 0 s h (fun x hx => (ha x hx).2) y (by simpa using hy)).2) (trailS s a).reverse b 0 rfl rfl
    simp only [stpsV, Int.natCast_zero, Nat.zero_add] at c3
    have k := like_le (trailS s a).reverse b
    simp only [h', cond_false, c2, Option.bind_some, OA_chk, OA_callx, u_asC, u_asI, u_asL, u_asN, cond_true, cond_false, chkS, h, if_true, OA_loop, c3, bne_self_eq_false]
    by_cases q : likeN (trailS s a).reverse b < min (trailS s a).reverse.length b.length
    · have q2 : likeN (trailS s a).reverse b < max (trailS s a).reverse.length b.length := by omega
      rw [if_pos q, if_pos q2]
      simp only [Option.bind_some, nbeq, decide_true, cond_true, u_asC, u_asI, u_asN]
    · rw [if_neg q]
      simp only [Option.bind_some, nbeq, decide_true, decide_false, (by decide : (1 : Nat) ≠ 0), cond_true, cond_false, u_asC, u_asL, u_asN, OA_asm, List.length_map]
      by_cases q3 : (trailS s a).reverse.length = b.length
      · have q2 : ¬ (likeN (trailS s a).reverse b < max (trailS s a).reverse.length b.length) := by omega
        have q4 : (((trailS s a).reverse.length : Int) != (b.length : Int)) = false := by rw [q3]; simp
        rw [if_neg q2]
        simp only [q4, cond_false]
      · have q2 : likeN (trailS s a).reverse b < max (trailS s a).reverse.length b.length := by omega
        have q4 : (((trailS s a).reverse.length : Int) != (b.length : Int)) = true := bne_t (by omega)
        have q5 : (if (b.length : Int) < ((trailS s a).reverse.length : Int) then (b.length : Int) else ((trailS s a).reverse.length : Int)) = (likeN (trailS s a).reverse b : Nat) := by split <;> omega
        rw [if_pos q2]
        simp only [q4, cond_true, q5]
  · have h' := bne_t h
    simp only [h', cond_true, chkS, if_neg h])
end Go.Proofs.Ytalpknofimglbaa.V
namespace Go.Proofs.Ytalpknofimglbaa.V
open Go
variable {H : Type}
end Go.Proofs.Ytalpknofimglbaa.V
namespace Go.Proofs.Ytalpknofimglbaa.V
open Go
variable {H : Type}
theorem each_all {α β : Type} {q : β → Prop} : ∀ {l : List α} {r : List β}, Each (fun _ b => q b) l r → ∀ {b : β}, b ∈ r → q b := by
  intro l r h b hb
  obtain ⟨i, hi, e⟩ := List.mem_iff_getElem.1 hb
  obtain ⟨a, _, h2⟩ := h.get i b (by rw [← e]; exact List.getElem?_eq_getElem hi)
  exact h2
theorem fit_fld {n : Nat} {d : DataW H} {xs : List AV} (hf : Fit T0 (n + 2) 26 d xs) : ∃ f : Fld, f.ok ∧ xs = fldC f := by
  obtain ⟨ds, yss, rfl, rfl, h⟩ := fit_struct (fs := [(0, 3), (1, 3), (2, 3), (3, 3), (4, 3)]) (by kernel_rfl) hf
  obtain ⟨d0, ds, y0, yss, rfl, rfl, h0, h⟩ := each3_cons h
  obtain ⟨d1, ds, y1, yss, rfl, rfl, h1, h⟩ := each3_cons h
  obtain ⟨d2, ds, y2, yss, rfl, rfl, h2, h⟩ := each3_cons h
  obtain ⟨d3, ds, y3, yss, rfl, rfl, h3, h⟩ := each3_cons h
  obtain ⟨d4, ds, y4, yss, rfl, rfl, h4, h⟩ := each3_cons h
  obtain ⟨rfl, rfl⟩ := each3_nil h
  obtain ⟨a, ha, rfl, rfl⟩ := fit_i64 (by kernel_rfl) h0
  obtain ⟨b, hb, rfl, rfl⟩ := fit_i64 (by kernel_rfl) h1
  obtain ⟨c, hc, rfl, rfl⟩ := fit_i64 (by kernel_rfl) h2
  obtain ⟨e, he, rfl, rfl⟩ := fit_i64 (by kernel_rfl) h3
  obtain ⟨g, hg, rfl, rfl⟩ := fit_i64 (by kernel_rfl) h4
  exact ⟨⟨a, b, c, e, g⟩, ⟨ha, hb, hc, he, hg⟩, rfl⟩
theorem fit_flds {n : Nat} {d : DataW H} {xs : List AV} (hf : Fit T0 (n + 3) 30 d xs) : ∃ l : List Fld, (∀ f ∈ l, f.ok) ∧ xs = [fldsV l] := by
  obtain ⟨ds, sp, l, hd, rfl, h⟩ := fit_slice (e := 26) (by kernel_rfl) hf
  obtain ⟨cs, rfl, hq⟩ := each_map (f := fldV) (Q := fun d f => f.ok) (fun d x ⟨ys, h1, h2⟩ => by
    obtain ⟨f, hf, rfl⟩ := fit_fld h1
    exact ⟨f, elem_agg (by kernel_rfl) h2, hf⟩) h
  exact ⟨cs, fun f hf => each_all hq hf, rfl⟩
theorem fit_frm {n : Nat} {d : DataW H} {xs : List AV} (hf : Fit T0 (n + 4) 52 d xs) : ∃ f : Frm, f.ok ∧ xs = [.int .i64 f.id, fldsV f.fields] := by
  obtain ⟨ds, yss, rfl, rfl, h⟩ := fit_struct (fs := [(0, 3), (1, 30)]) (by kernel_rfl) hf
  obtain ⟨d0, ds, y0, yss, rfl, rfl, h0, h⟩ := each3_cons h
  obtain ⟨d1, ds, y1, yss, rfl, rfl, h1, h⟩ := each3_cons h
  obtain ⟨rfl, rfl⟩ := each3_nil h
  obtain ⟨a, ha, rfl, rfl⟩ := fit_i64 (by kernel_rfl) h0
  obtain ⟨l, hl, rfl⟩ := fit_flds h1
  exact ⟨⟨a, l⟩, ⟨ha, hl⟩, rfl⟩
theorem fit_frms {n : Nat} {d : DataW H} {xs : List AV} (hf : Fit T0 (n + 5) 22 d xs) : ∃ l : List Frm, (∀ f ∈ l, f.ok) ∧ xs = [frmsV l] := by
  obtain ⟨ds, sp, l, hd, rfl, h⟩ := fit_slice (e := 52) (by kernel_rfl) hf
  obtain ⟨cs, rfl, hq⟩ := each_map (f := frmV) (Q := fun d f => f.ok) (fun d x ⟨ys, h1, h2⟩ => by
    obtain ⟨f, hf, rfl⟩ := fit_frm h1
    exact ⟨f, elem_agg (by kernel_rfl) h2, hf⟩) h
  exact ⟨cs, fun f hf => each_all hq hf, rfl⟩
theorem fit_sch {n : Nat} {d : DataW H} {xs : List AV} (hf : Fit T0 (n + 6) 24 d xs) : ∃ s : Sch, s.ok ∧ xs = [.int .i64 s.ver, frmsV s.forms] := by
  obtain ⟨ds, yss, rfl, rfl, h⟩ := fit_struct (fs := [(0, 3), (1, 22)]) (by kernel_rfl) hf
  obtain ⟨d0, ds, y0, yss, rfl, rfl, h0, h⟩ := each3_cons h
  obtain ⟨d1, ds, y1, yss, rfl, rfl, h1, h⟩ := each3_cons h
  obtain ⟨rfl, rfl⟩ := each3_nil h
  obtain ⟨a, ha, rfl, rfl⟩ := fit_i64 (by kernel_rfl) h0
  obtain ⟨l, hl, rfl⟩ := fit_frms h1
  exact ⟨⟨a, l⟩, ⟨ha, hl⟩, rfl⟩
end Go.Proofs.Ytalpknofimglbaa.V
namespace Go.Proofs.Ytalpknofimglbaa.V
open Go
variable {H : Type}
theorem fit_ints {n : Nat} {d : DataW H} {xs : List AV} (hf : Fit T0 (n + 2) 29 d xs) : ∃ l : List Int, (∀ n ∈ l, i64 n) ∧ xs = [intsV l] := by
  obtain ⟨ds, sp, l, hd, rfl, h⟩ := fit_slice (e := 3) (by kernel_rfl) hf
  obtain ⟨cs, rfl, hq⟩ := each_map (f := fun n => AV.int .i64 n) (Q := fun d n => i64 n) (fun d x ⟨ys, h1, h2⟩ => by
    obtain ⟨a, ha, rfl, rfl⟩ := fit_i64 (by kernel_rfl) h1
    have q := elem_one (by kernel_rfl) h2
    injection q with q
    exact ⟨a, q.symm, ha⟩) h
  exact ⟨cs, fun f hf => each_all hq hf, rfl⟩
theorem fit_val {n : Nat} {d : DataW H} {xs : List AV} (hf : Fit T0 (n + 2) 28 d xs) : ∃ (a : Int) (s : List UInt8), i64 a ∧ xs = [.int .i64 a, .str s] := by
  obtain ⟨ds, yss, rfl, rfl, h⟩ := fit_struct (fs := [(0, 3), (1, 9)]) (by kernel_rfl) hf
  obtain ⟨d0, ds, y0, yss, rfl, rfl, h0, h⟩ := each3_cons h
  obtain ⟨d1, ds, y1, yss, rfl, rfl, h1, h⟩ := each3_cons h
  obtain ⟨rfl, rfl⟩ := each3_nil h
  obtain ⟨a, ha, rfl, rfl⟩ := fit_i64 (by kernel_rfl) h0
  obtain ⟨s, rfl, rfl⟩ := fit_str (by kernel_rfl) h1
  exact ⟨a, s, ha, rfl⟩
theorem fit_stp {n : Nat} {d : DataW H} {xs : List AV} (hf : Fit T0 (n + 4) 32 d xs) : ∃ x : Stp, x.ok ∧ xs = stpC x := by
  obtain ⟨ds, yss, rfl, rfl, h⟩ := fit_struct (fs := [(0, 3), (1, 3), (2, 3), (3, 3), (4, 3), (5, 3), (6, 3), (7, 26), (12, 28), (14, 29), (15, 30)]) (by kernel_rfl) hf
  obtain ⟨d0, ds, y0, yss, rfl, rfl, h0, h⟩ := each3_cons h
  obtain ⟨d1, ds, y1, yss, rfl, rfl, h1, h⟩ := each3_cons h
  obtain ⟨d2, ds, y2, yss, rfl, rfl, h2, h⟩ := each3_cons h
  obtain ⟨d3, ds, y3, yss, rfl, rfl, h3, h⟩ := each3_cons h
  obtain ⟨d4, ds, y4, yss, rfl, rfl, h4, h⟩ := each3_cons h
  obtain ⟨d5, ds, y5, yss, rfl, rfl, h5, h⟩ := each3_cons h
  obtain ⟨d6, ds, y6, yss, rfl, rfl, h6, h⟩ := each3_cons h
  obtain ⟨d7, ds, y7, yss, rfl, rfl, h7, h⟩ := each3_cons h
  obtain ⟨d8, ds, y8, yss, rfl, rfl, h8, h⟩ := each3_cons h
  obtain ⟨d9, ds, y9, yss, rfl, rfl, h9, h⟩ := each3_cons h
  obtain ⟨dA, ds, yA, yss, rfl, rfl, hA, h⟩ := each3_cons h
  obtain ⟨rfl, rfl⟩ := each3_nil h
  obtain ⟨a0, i0, rfl, rfl⟩ := fit_i64 (by kernel_rfl) h0
  obtain ⟨a1, i1, rfl, rfl⟩ := fit_i64 (by kernel_rfl) h1
  obtain ⟨a2, i2, rfl, rfl⟩ := fit_i64 (by kernel_rfl) h2
  obtain ⟨a3, i3, rfl, rfl⟩ := fit_i64 (by kernel_rfl) h3
  obtain ⟨a4, i4, rfl, rfl⟩ := fit_i64 (by kernel_rfl) h4
  obtain ⟨a5, i5, rfl, rfl⟩ := fit_i64 (by kernel_rfl) h5
  obtain ⟨a6, i6, rfl, rfl⟩ := fit_i64 (by kernel_rfl) h6
  obtain ⟨f, i7, rfl⟩ := fit_fld h7
  obtain ⟨a8, s, i8, rfl⟩ := fit_val h8
  obtain ⟨t, i9, rfl⟩ := fit_ints h9
  obtain ⟨fs, iA, rfl⟩ := fit_flds hA
  exact ⟨⟨a0, a1, a2, a3, a4, a5, a6, f, a8, s, t, fs⟩, ⟨i0, i1, i2, i3, i4, i5, i6, i7, i8, i9, iA⟩, rfl⟩
theorem fit_stps {n : Nat} {d : DataW H} {xs : List AV} (hf : Fit T0 (n + 5) 34 d xs) : ∃ l : List Stp, (∀ f ∈ l, f.ok) ∧ xs = [stpsV l] := by
  obtain ⟨ds, sp, l, hd, rfl, h⟩ := fit_slice (e := 32) (by kernel_rfl) hf
  obtain ⟨cs, rfl, hq⟩ := each_map (f := stpV) (Q := fun d f => f.ok) (fun d x ⟨ys, h1, h2⟩ => by
    obtain ⟨f, hf, rfl⟩ := fit_stp h1
    exact ⟨f, elem_agg (by kernel_rfl) h2, hf⟩) h
  exact ⟨cs, fun f hf => each_all hq hf, rfl⟩
end Go.Proofs.Ytalpknofimglbaa.V
namespace Go.Proofs.Ytalpknofimglbaa.V
open Go
open AV (int lst agg str bool ref clo)
open List (map)
end Go.Proofs.Ytalpknofimglbaa.V
namespace Go.Proofs.Ytalpknofimglbaa.V
open Go
end Go.Proofs.Ytalpknofimglbaa.V
namespace Go.Proofs.Ytalpknofimglbaa.V
open Go
end Go.Proofs.Ytalpknofimglbaa.V
namespace Go.Proofs.Ytalpknofimglbaa.V
open Go
end Go.Proofs.Ytalpknofimglbaa.V
namespace Go.Proofs.Ytalpknofimglbaa.V
open Go
end Go.Proofs.Ytalpknofimglbaa.V
namespace Go.Proofs.Ytalpknofimglbaa.V
open Go
end Go.Proofs.Ytalpknofimglbaa.V
namespace Go.Proofs.Ytalpknofimglbaa.V
open Go
variable {H : Type}
end Go.Proofs.Ytalpknofimglbaa.V
namespace Go.Proofs.Ytalpknofimglbaa.V
open Go
variable {H : Type}
def tyG (s : Sch) (l : List Stp) : Bool := (s.forms.take 41).any big || (decide (40 < s.forms.length) || greatT l)
theorem tyG_few {s : Sch} {l : List Stp} (h : tyG s l = false) : Few s ∧ l.length ≤ 60 ∧ ∀ x ∈ l, x.sml := by
  unfold tyG at h
  simp only [greatT, Bool.or_eq_false_iff, decide_eq_false_iff_not, List.any_eq_false, big, decide_eq_true_eq] at h
  refine ⟨⟨by omega, fun f hf => ?_⟩, by omega, fun x hx => ?_⟩
  · have := h.1 f (by rw [List.take_of_length_le (by omega)]; exact hf)
    omega
  · have := h.2.2.1 x (by rw [List.take_of_length_le (by omega)]; exact hx)
    simp only [bigT, Bool.or_eq_true, decide_eq_true_eq, not_or] at this
    exact ⟨by omega, by omega⟩
end Go.Proofs.Ytalpknofimglbaa.V
namespace Go.Proofs.Ytalpknofimglbaa.V
open Go
variable {H : Type}
theorem c_pgreatL (s : Sch) (l : List Stp) : ∀ (r : List Frm) (i : Nat), s.forms.drop i = r → i ≤ 41 →
    ltbl E0 20 0 2 [stpsV l, .int .i64 i] [[.int .i64 s.ver, frmsV s.forms]] = some (if (r.take (41 - i)).any big then (0, [.bool true], []) else (1, [stpsV l], [[.int .i64 s.ver, frmsV s.forms]])) := by
  intro r
  induction r with
  | nil =>
    intro i hr hi
    have h : s.forms.length ≤ i := by simpa using hr
    refine t_pgreatL _ _ _ ?_
    have : ¬ ((i : Int) < s.forms.length) := by omega
    simp [s_pgreatL, this]
  | cons f r ih =>
    intro i hr hi
    obtain ⟨hlt, hget, hr2⟩ := drop_c hr
    have h2 : (i : Int) < s.forms.length := by omega
    have e1 := i64_succ (i := i) (by omega)
    refine t_pgreatL _ _ _ ?_
    by_cases h41 : i < 41
    · have h := ih (i + 1) hr2 (by omega)
      have h3 : (i : Int) < 41 := by omega
      have e2 : 41 - i = (41 - (i + 1)) + 1 := by omega
      rw [e2, List.take_succ_cons, List.any_cons]
      simp only [s_pgreatL, OA_join, OA_asm, List.length_map, h2, h3, decide_true, cond_true, Option.bind_some, Tok.untok_tok, OA_chk, Int.natCast_nonneg, nthE, Int.toNat_natCast, List.getElem?_map, hget, Option.map_some, u_asA, u_asC, u_asI, u_asB, u_asL, u_asN, e1, h]
      by_cases b : 40 < f.fields.length
      · have b' : (f.fields.length : Int) > 40 := by omega
        simp [big, b, b']
      · have b' : ¬ ((f.fields.length : Int) > 40) := by omega
        simp [big, b, b']
    · have h3 : ¬ ((i : Int) < 41) := by omega
      have e2 : 41 - i = 0 := by omega
      simp [s_pgreatL, h2, h3, e2]
theorem c_pgreat (s : Sch) (l : List Stp) : tbl E0 20 [schV s, stpsV l] [] = some ([.bool (tyG s l)], []) :=
  t_pgreat s l (by
    have e := c_pgreatL s l s.forms 0 rfl (by omega)
    have g := c_yGreat l
    simp only [Int.natCast_zero, Nat.sub_zero] at e
    simp only [stpsV] at g
    simp only [s_pgreat, OA_chk, cond_true, OA_loop, e, tyG]
    by_cases b : ((s.forms.take 41).any big) = true
    · simp [b]
    · have b : ((s.forms.take 41).any big) = false := by simpa using b
      by_cases c : 40 < s.forms.length
      · have c' : (s.forms.length : Int) > 40 := by omega
        simp [b, c, c']
      · have c' : ¬ ((s.forms.length : Int) > 40) := by omega
        simp [b, c, c', g])
theorem c_awake17 : tbl E0 22 [] [] = some ([.bool true], []) := tbl_iff.2 ⟨60, by kernel_rfl⟩
theorem greatT_sml {l : List Stp} (h : greatT l = false) : l.length ≤ 60 ∧ ∀ x ∈ l, x.sml := by
  simp only [greatT, Bool.or_eq_false_iff, decide_eq_false_iff_not, List.any_eq_false] at h
  refine ⟨by omega, fun x hx => ?_⟩
  have := h.1 x (by rw [List.take_of_length_le (by omega)]; exact hx)
  simp only [bigT, Bool.or_eq_true, decide_eq_true_eq, not_or] at this
  exact ⟨by omega, by omega⟩
theorem inv_sml {s : Sch} {x : Stp} (hx : x.ok) : (invS s x).1.sml := by
  unfold invS
  by_cases h : (onS s x).2 = 0
  · rw [if_pos h]; exact (backOf_ok h hx).2
  · rw [if_neg h]; exact ⟨by simp [stpN], by simp [stpN]⟩
theorem back_sml {s : Sch} {l : List Stp} (hl : l.length ≤ 60) (hx : ∀ x ∈ l, x.ok) : (backS s [] l).1.length ≤ 60 ∧ ∀ y ∈ (backS s [] l).1, y.ok ∧ y.sml := by
  have e2 := back_all l 0 s []
  by_cases h : (allS s 0 l).2.2 = 0
  · rw [back_eq l s [] (e2.trans h), List.append_nil, List.length_reverse, trail_len]
    exact ⟨hl, fun y hy => trail_ok l 0 s h hx y (by simpa using hy)⟩
  · rw [back_err l s [] (by rw [e2]; exact h)]
    simp
set_option maxRecDepth 100000 in
theorem c_PairSteps (s : Sch) (x : Stp) (l : List Stp) (hx : x.ok) (hl : ∀ x ∈ l, x.ok) : tbl E0 6 [schV s, stpV x, stpsV l] [] = some ([.bool true], []) := t_PairSteps s x l (by
  have g := c_pgreat s l
  have g2 := c_yGreat [x]
  rcases bor (tyG s l) with hb | hb
  · simp only [schV, frmsV, stpsV, hb] at g
    simp only [s_PairSteps, OA_chk, cond_true, OA_callx, g, Option.bind_some, u_asC, u_asB, u_asN, c_awake17]
  · rcases bor (greatT [x]) with hb2 | hb2
    · simp only [schV, frmsV, stpsV, hb, hb2, List.map_cons, List.map_nil, stpV, stpC, intsV, fldsV] at g g2
      simp only [s_PairSteps, OA_chk, cond_true, cond_false, OA_callx, g, g2, Option.bind_some, u_asC, u_asB, u_asN, c_awake17]
    · obtain ⟨hs, hlen, hm⟩ := tyG_few hb
      have hxm := (greatT_sml hb2).2 x (by simp)
      have c1 := c_gInvert s x hs hxm hx
      have c2 := c_zInvert s x hs hxm
      have c3 := c_gBack s l hs (by omega) (fun y hy => ⟨hm y hy, hl y hy⟩)
      have c4 := c_zBack s l hs (by omega) hm
      have c5 := c_ytSame (invS s x).1 (invS s x).1 (inv_sml hx)
      have bs := back_sml (s := s) hlen hl
      have c6 := c_SameListT (backS s [] l).1 (backS s [] l).1 (by omega) (fun y hy => (bs.2 y hy).2)
      simp only [schV, frmsV, stpsV, hb, hb2, List.map_cons, List.map_nil, stpV, stpC, intsV, fldsV] at g g2 c1 c2 c3 c4 c5 c6
      simp only [s_PairSteps, OA_chk, cond_true, cond_false, OA_callx, g, g2, c1, c2, c3, c4, c5, c6, Option.bind_some, OA_join, Tok.untok_tok, u_asC, u_asA, u_asI, u_asB, u_asS, u_asL, u_asN, c_awake17, decide_true, beq_self_eq_true])
theorem c_PairChecks (s : Sch) (a b : List Stp) (ha : ∀ x ∈ a, x.ok) (hb : ∀ x ∈ b, x.ok) : tbl E0 7 [schV s, stpsV a, stpsV b] [] = some ([.bool true], []) := t_PairChecks s a b (by
  have g := c_pgreat s a
  have g2 := c_yGreat b
  rcases bor (tyG s a) with h1 | h1
  · simp only [schV, frmsV, stpsV, h1] at g
    simp only [s_PairChecks, OA_chk, cond_true, OA_callx, OA_join, Tok.untok_tok, g, Option.bind_some, u_asC, u_asB, u_asN, c_awake17]
  · rcases bor (greatT b) with h2 | h2
    · simp only [schV, frmsV, stpsV, h1, h2] at g g2
      simp only [s_PairChecks, OA_chk, cond_true, cond_false, OA_callx, OA_join, Tok.untok_tok, g, g2, Option.bind_some, u_asC, u_asB, u_asN, c_awake17]
    · obtain ⟨hs, hlen, hm⟩ := tyG_few h1
      have c1 := c_gCheck s a b hs (by omega) (fun y hy => ⟨hm y hy, ha y hy⟩) hb
      have c2 := c_zCheck s a b hs (by omega) (fun y hy => ⟨hm y hy, ha y hy⟩)
      simp only [schV, frmsV, stpsV, h1, h2] at g g2 c1 c2
      simp only [s_PairChecks, OA_chk, cond_true, cond_false, OA_callx, OA_join, Tok.untok_tok, g, g2, c1, c2, Option.bind_some, u_asC, u_asI, u_asB, u_asN, c_awake17, beq_self_eq_true])
set_option maxRecDepth 100000 in
theorem c_PairBackL (s : Sch) (a b : List Stp) (hlen : a.length ≤ 60) (ha : ∀ x ∈ a, x.ok) (h : (allS s 0 a).2.2 = 0) : ∀ (r : List Stp) (i : Nat), a.drop i = r →
    ltbl E0 8 0 11 [stpsV a, stpsV b, stpsV (trailS s a).reverse, .int .i64 i] [[.int .i64 s.ver, frmsV s.forms]] = some (1, [stpsV a, stpsV b, stpsV (trailS s a).reverse], [[.int .i64 s.ver, frmsV s.forms]]) := by
  intro r
  induction r with
  | nil =>
    intro i hr
    have h : a.length ≤ i := by simpa using hr
    refine t_PairBackL _ _ _ _ _ ?_
    have : ¬ ((i : Int) < a.length) := by omega
    simp only [s_PairBackL, OA_asm, List.length_map, this, decide_false, cond_false, stpsV]
  | cons z r ih =>
    intro i hr
    obtain ⟨hlt, hget, hr2⟩ := drop_c hr
    have h2 : (i : Int) < a.length := by omega
    have e1 := i64_succ (i := i) (by omega)
    have e := ih (i + 1) hr2
    obtain ⟨x, hx⟩ : ∃ x, a[a.length - 1 - i]? = some x := ⟨_, List.getElem?_eq_getElem (by omega)⟩
    obtain ⟨y, hy, hr3, ho, hlo, hhi⟩ := trail_get a 0 s h (a.length - 1 - i) x hx
    have hrev : (trailS s a).reverse[i]? = some y := by
      rw [List.getElem?_reverse (by rw [trail_len]; omega), trail_len]
      exact hy
    have hym := (trail_ok a 0 s h ha y (List.mem_of_getElem? hy)).2
    have c := c_ytRight y hym
    rw [← tRight_eq, hr3] at c
    have ei : IntKind.i64.wrap (IntKind.i64.wrap ((a.length : Int) - 1) - (i : Int)) = ((a.length - 1 - i : Nat) : Int) := by
      have q1 : IntKind.i64.wrap ((a.length : Int) - 1) = ((a.length - 1 : Nat) : Int) := by
        rw [show (a.length : Int) - 1 = ((a.length - 1 : Nat) : Int) by omega]
        exact wrap_i64 _ (by omega) (by omega)
      rw [q1, show ((a.length - 1 : Nat) : Int) - (i : Int) = ((a.length - 1 - i : Nat) : Int) by omega]
      exact wrap_i64 _ (by omega) (by omega)
    have ew : IntKind.i64.wrap (x.op + 20) = y.op := by
      rw [ho]
      exact wrap_i64 _ (by omega) (by omega)
    refine t_PairBackL _ _ _ _ _ ?_
    simp only [stpsV, stpV, stpC, intsV, fldsV] at c e ⊢
    simp only [s_PairBackL, OA_asm, List.length_map, h2, decide_true, cond_true, OA_chk, Int.natCast_nonneg, nthE, Int.toNat_natCast, List.getElem?_map, hrev, Option.map_some, u_asA, u_asC, u_asI, u_asB, u_asS, u_asL, u_asN, stpV, stpC, intsV, fldsV, OA_callx, c, Option.bind_some, Bool.not_true, cond_false, ei, hx, ew, bne_self_eq_false, e1]
    exact e
theorem chk_self {s : Sch} {a : List Stp} (h : (allS s 0 a).2.2 = 0) : chkS s a (trailS s a).reverse = (0, 0) := by
  have := (like_all (trailS s a).reverse (trailS s a).reverse).2 rfl
  rw [chkS, if_pos h, if_neg (by omega)]
theorem chk_other {s : Sch} {a b : List Stp} (h : (allS s 0 a).2.2 = 0) : ((chkS s a b).2 == 0) = decide ((trailS s a).reverse = b) := by
  have k := like_all (trailS s a).reverse b
  rw [chkS, if_pos h]
  by_cases e : (trailS s a).reverse = b
  · rw [if_neg (by have := k.2 e; omega), decide_eq_true e]
    rfl
  · have : ¬ (max (trailS s a).reverse.length b.length ≤ likeN (trailS s a).reverse b) := fun q => e (k.1 q)
    rw [if_pos (by omega), decide_eq_false e]
    rfl
set_option maxRecDepth 100000 in
theorem c_PairBack (s : Sch) (a b : List Stp) (ha : ∀ x ∈ a, x.ok) (hb : ∀ x ∈ b, x.ok) : tbl E0 8 [schV s, stpsV a, stpsV b] [] = some ([.bool true], []) := t_PairBack s a b (by
  have g := c_pgreat s a
  have g2 := c_yGreat b
  rcases bor (tyG s a) with h1 | h1
  · simp only [schV, frmsV, stpsV, h1] at g
    simp only [s_PairBack, OA_chk, cond_true, OA_callx, OA_join, Tok.untok_tok, g, Option.bind_some, u_asC, u_asB, u_asN, c_awake17]
  · rcases bor (greatT b) with h2 | h2
    · simp only [schV, frmsV, stpsV, h1, h2] at g g2
      simp only [s_PairBack, OA_chk, cond_true, cond_false, OA_callx, OA_join, Tok.untok_tok, g, g2, Option.bind_some, u_asC, u_asB, u_asN, c_awake17]
    · obtain ⟨hs, hlen, hm⟩ := tyG_few h1
      have hao : ∀ y ∈ a, y.sml ∧ y.ok := fun y hy => ⟨hm y hy, ha y hy⟩
      have c1 := c_gBack s a hs (by omega) hao
      have c2 := c_zAll s a hs (by omega) hm
      have c3 := c_gCheck s a b hs (by omega) hao hb
      have e2 := back_all a 0 s []
      simp only [schV, frmsV, stpsV, h1, h2] at g g2 c1 c2 c3
      by_cases h : (allS s 0 a).2.2 = 0
      · have eb := back_eq a s [] (e2.trans h)
        rw [List.append_nil] at eb
        rw [e2, h, eb] at c1
        rw [h] at c2
        have tk := trail_ok a 0 s h ha
        have c4 := c_gCheck s a (trailS s a).reverse hs (by omega) hao (fun y hy => (tk y (by simpa using hy)).1)
        rw [chk_self h] at c4
        have c5 := c_SameListT (trailS s a).reverse b (by rw [List.length_reverse, trail_len]; omega) (fun y hy => (tk y (by simpa using hy)).2)
        have cL := c_PairBackL s a b hlen ha h a 0 rfl
        have lt : ((trailS s a).reverse.length : Int) = (a.length : Int) := by rw [List.length_reverse, trail_len]
        have co := chk_other (b := b) h
        have bq : ∀ p : Bool, (p == p) = true := by intro p; cases p <;> rfl
        simp only [schV, frmsV, stpsV, Int.natCast_zero] at c4 c5 cL
        simp only [s_PairBack, OA_chk, cond_true, cond_false, OA_callx, OA_join, OA_asm, OA_loop, Tok.untok_tok, List.length_map, g, g2, c1, c2, c3, c4, c5, cL, lt, co, bq, Option.bind_some, nbeq, decide_true, decide_false, (by decide : (1 : Nat) ≠ 0), u_asC, u_asA, u_asI, u_asB, u_asL, u_asN, c_awake17, bne_self_eq_false, beq_self_eq_true]
      · have h' := bne_t h
        have eb := back_err a s [] (by rw [e2]; exact h)
        rw [e2, eb] at c1
        have ec : chkS s a b = ((((allS s 0 a).2.1 : Nat) : Int), (allS s 0 a).2.2) := by rw [chkS, if_neg h]
        rw [ec] at c3
        simp only [List.map_nil] at c1
        simp only [s_PairBack, OA_chk, cond_true, cond_false, OA_callx, OA_join, OA_asm, Tok.untok_tok, g, g2, c1, c2, c3, h', Option.bind_some, u_asC, u_asA, u_asI, u_asB, u_asL, u_asN, c_awake17, List.length_nil, Int.natCast_zero, beq_self_eq_true])
theorem l_PairSteps (d0 d1 d2 : DataW H) (xs : List AV) (hf : FitAll T0 9 Try.f6.params.toList [d0, d1, d2] xs) (hk : (DataW.weightsEach Try.prog (Try.f6.params.toList ++ Rows.pairStepsSpec.plain.varTypes Try.prog) ([d0, d1, d2] ++ [])).all (· ≤ reachBytes) = true) :
    tbl E0 6 xs [] = some ([.bool true], []) := by
  have hf' : FitAll T0 9 [24, 32, 34] [d0, d1, d2] xs := hf
  obtain ⟨d', ds, x, xs', e1, rfl, ⟨ys, h0, h1⟩, h⟩ := each3_cons hf'
  injection e1 with e1 e2; subst e1; subst e2
  obtain ⟨d', ds, y, xs', e1, rfl, ⟨zs, h2, h3⟩, h⟩ := each3_cons h
  injection e1 with e1 e2; subst e1; subst e2
  obtain ⟨d', ds, z, xs', e1, rfl, ⟨us, h4, h5⟩, h⟩ := each3_cons h
  injection e1 with e1 e2; subst e1; subst e2
  obtain ⟨-, rfl⟩ := each3_nil h
  obtain ⟨s, hs, rfl⟩ := fit_sch h0
  obtain ⟨t, ht, rfl⟩ := fit_stp h2
  obtain ⟨l, hl, rfl⟩ := fit_stps h4
  have q1 := elem_agg (by kernel_rfl) h1
  have q2 := elem_agg (by kernel_rfl) h3
  have q3 := elem_one (by kernel_rfl) h5
  injection q3 with q3
  subst q1; subst q2; subst q3
  exact c_PairSteps s t l ht hl
theorem l_PairChecks (d0 d1 d2 : DataW H) (xs : List AV) (hf : FitAll T0 9 Try.f7.params.toList [d0, d1, d2] xs) (hk : (DataW.weightsEach Try.prog (Try.f7.params.toList ++ Rows.pairChecksSpec.plain.varTypes Try.prog) ([d0, d1, d2] ++ [])).all (· ≤ reachBytes) = true) :
    tbl E0 7 xs [] = some ([.bool true], []) := by
  have hf' : FitAll T0 9 [24, 34, 34] [d0, d1, d2] xs := hf
  obtain ⟨d', ds, x, xs', e1, rfl, ⟨ys, h0, h1⟩, h⟩ := each3_cons hf'
  injection e1 with e1 e2; subst e1; subst e2
  obtain ⟨d', ds, y, xs', e1, rfl, ⟨zs, h2, h3⟩, h⟩ := each3_cons h
  injection e1 with e1 e2; subst e1; subst e2
  obtain ⟨d', ds, z, xs', e1, rfl, ⟨us, h4, h5⟩, h⟩ := each3_cons h
  injection e1 with e1 e2; subst e1; subst e2
  obtain ⟨-, rfl⟩ := each3_nil h
  obtain ⟨s, hs, rfl⟩ := fit_sch h0
  obtain ⟨a, ha, rfl⟩ := fit_stps h2
  obtain ⟨b, hb, rfl⟩ := fit_stps h4
  have q1 := elem_agg (by kernel_rfl) h1
  have q2 := elem_one (by kernel_rfl) h3
  have q3 := elem_one (by kernel_rfl) h5
  injection q2 with q2
  injection q3 with q3
  subst q1; subst q2; subst q3
  exact c_PairChecks s a b ha hb
theorem l_PairBack (d0 d1 d2 : DataW H) (xs : List AV) (hf : FitAll T0 9 Try.f8.params.toList [d0, d1, d2] xs) (hk : (DataW.weightsEach Try.prog (Try.f8.params.toList ++ Rows.pairBackSpec.plain.varTypes Try.prog) ([d0, d1, d2] ++ [])).all (· ≤ reachBytes) = true) :
    tbl E0 8 xs [] = some ([.bool true], []) := by
  have hf' : FitAll T0 9 [24, 34, 34] [d0, d1, d2] xs := hf
  obtain ⟨d', ds, x, xs', e1, rfl, ⟨ys, h0, h1⟩, h⟩ := each3_cons hf'
  injection e1 with e1 e2; subst e1; subst e2
  obtain ⟨d', ds, y, xs', e1, rfl, ⟨zs, h2, h3⟩, h⟩ := each3_cons h
  injection e1 with e1 e2; subst e1; subst e2
  obtain ⟨d', ds, z, xs', e1, rfl, ⟨us, h4, h5⟩, h⟩ := each3_cons h
  injection e1 with e1 e2; subst e1; subst e2
  obtain ⟨-, rfl⟩ := each3_nil h
  obtain ⟨s, hs, rfl⟩ := fit_sch h0
  obtain ⟨a, ha, rfl⟩ := fit_stps h2
  obtain ⟨b, hb, rfl⟩ := fit_stps h4
  have q1 := elem_agg (by kernel_rfl) h1
  have q2 := elem_one (by kernel_rfl) h3
  have q3 := elem_one (by kernel_rfl) h5
  injection q2 with q2
  injection q3 with q3
  subst q1; subst q2; subst q3
  exact c_PairBack s a b ha hb
end Go.Proofs.Ytalpknofimglbaa.V
namespace Go.Proofs.Ytalpknofimglbaa.pairSteps
open Go Go.ChangeShapes Go.WideShapes Go.ChangeAt Go.RowKit Go.Proofs.Ytalpknofimglbaa.V
theorem own : ownKnob Try.prog.godebug = none := by kernel_rfl
set_option maxRecDepth 100000 in
theorem contract (H : Type) (enc : TypeId × Value → H) (W : World) (base : Nat) (args : Array Value) (ds gs : List (DataW H)) (before : List MemPlace)
    (hval : ∀ (j : Nat) t v, Try.f6.params[j]? = some t → args[j]? = some v → Value.okWide Try.prog W .any base t v)
    (hW : DataW.Whole enc Try.prog Try.f6.params.toList Rows.pairStepsSpec.vars false W args.toList ds gs before) (hk : (DataW.weightsEach Try.prog (Try.f6.params.toList ++ Rows.pairStepsSpec.plain.varTypes Try.prog) (ds ++ gs)).all (· ≤ reachBytes) = true) :
    Calls Try.prog 6 args W fun e W' => ∃ v, e = .returned v ∧ Rows.pairStepsSpec.post enc Try.prog Try.f6 false true false false W args v W' := by
  obtain ⟨p, q, hA, hV, hps, hfz, hnd⟩ := id hW
  obtain ⟨rfl, rfl⟩ := trodVars_none hV
  have hlen := trodAll_length hA
  obtain ⟨d0, d1, d2, rfl⟩ : ∃ d0 d1 d2, ds = [d0, d1, d2] := by
    match ds, hlen with
    | [d0, d1, d2], _ => exact ⟨d0, d1, d2, rfl⟩
  refine (law_calls (E := E0) E0_ok (m := 9) (ts := Try.f6.params.toList) (by kernel_rfl) (fun j t v h1 h2 => hval j t v (by simpa using h1) (by simpa using h2)) hA (fun xs hf => l_PairSteps d0 d1 d2 xs hf hk)).mono fun e W' ⟨he, bel⟩ => ?_
  subst he
  exact ⟨_, rfl, law_post (tb := 4) (by kernel_rfl) (by kernel_rfl) (by kernel_rfl) Try.underlying4 rfl rfl hW hA bel⟩
set_option maxRecDepth 100000 in
theorem lifted (os : Os) (started : os.Started) (H : Type) (enc : TypeId × Value → H) :
    ReturnsInHanded {} Try.checked os 6 .any (Rows.pairStepsSpec.pre6 enc Try.prog Try.f6 Rows.pairStepsRow.domain false) (Rows.pairStepsSpec.post enc Try.prog Try.f6 false true false false) := by
  refine returnsInHanded_of_change_sized (C := Try.checked) own started (by kernel_rfl) Try.func6
    (ChangeSpec.witness6 (enc := enc) (C := Try.checked) false ⟨#[], #[.agg #[.int .i64 0, .slice none 0 0], .agg #[.int .i64 0, .int .i64 0, .int .i64 0, .int .i64 0, .int .i64 0, .int .i64 0, .int .i64 0, .int .i64 0, .int .i64 0, .int .i64 0, .int .i64 0, .int .i64 0, .int .i64 0, .string ⟨#[]⟩, .slice none 0 0, .slice none 0 0], .slice none 0 0], []⟩ 9 (by kernel_rfl) (by kernel_rfl) (by kernel_rfl) (by kernel_rfl)) ?_
  intro W base args ds gs before hval hW _ hk _
  exact contract H enc W base args ds gs before hval hW hk
theorem proved : Rows.PairStepsSaid :=
  OpenClaim.holds_of_wide 6 Try.f6 rfl rfl rfl rfl rfl rfl rfl ⟨rfl, rfl, rfl, rfl, rfl⟩ rfl rfl rfl rfl rfl (by kernel_rfl) Try.func6 (by kernel_rfl)
    (of_decide_eq_true (by kernel_rfl)) (by unfold Func.isWrapper; first | (rw [if_pos (by decide +kernel)]; kernel_rfl) | (rw [if_neg (by decide +kernel)]; exact ⟨rfl, rfl⟩))
    (fun os started H enc _ => lifted os started H enc)
end Go.Proofs.Ytalpknofimglbaa.pairSteps
namespace Go.Proofs.Ytalpknofimglbaa
theorem pairSteps_holds : Rows.PairStepsSaid := pairSteps.proved
end Go.Proofs.Ytalpknofimglbaa
namespace Go.Proofs.Ytalpknofimglbaa.pairChecks
open Go Go.ChangeShapes Go.WideShapes Go.ChangeAt Go.RowKit Go.Proofs.Ytalpknofimglbaa.V
theorem own : ownKnob Try.prog.godebug = none := by kernel_rfl
set_option maxRecDepth 100000 in
theorem contract (H : Type) (enc : TypeId × Value → H) (W : World) (base : Nat) (args : Array Value) (ds gs : List (DataW H)) (before : List MemPlace)
    (hval : ∀ (j : Nat) t v, Try.f7.params[j]? = some t → args[j]? = some v → Value.okWide Try.prog W .any base t v)
    (hW : DataW.Whole enc Try.prog Try.f7.params.toList Rows.pairChecksSpec.vars false W args.toList ds gs before) (hk : (DataW.weightsEach Try.prog (Try.f7.params.toList ++ Rows.pairChecksSpec.plain.varTypes Try.prog) (ds ++ gs)).all (· ≤ reachBytes) = true) :
    Calls Try.prog 7 args W fun e W' => ∃ v, e = .returned v ∧ Rows.pairChecksSpec.post enc Try.prog Try.f7 false true false false W args v W' := by
  obtain ⟨p, q, hA, hV, hps, hfz, hnd⟩ := id hW
  obtain ⟨rfl, rfl⟩ := trodVars_none hV
  have hlen := trodAll_length hA
  obtain ⟨d0, d1, d2, rfl⟩ : ∃ d0 d1 d2, ds = [d0, d1, d2] := by
    match ds, hlen with
    | [d0, d1, d2], _ => exact ⟨d0, d1, d2, rfl⟩
  refine (law_calls (E := E0) E0_ok (m := 9) (ts := Try.f7.params.toList) (by kernel_rfl) (fun j t v h1 h2 => hval j t v (by simpa using h1) (by simpa using h2)) hA (fun xs hf => l_PairChecks d0 d1 d2 xs hf hk)).mono fun e W' ⟨he, bel⟩ => ?_
  subst he
  exact ⟨_, rfl, law_post (tb := 4) (by kernel_rfl) (by kernel_rfl) (by kernel_rfl) Try.underlying4 rfl rfl hW hA bel⟩
set_option maxRecDepth 100000 in
theorem lifted (os : Os) (started : os.Started) (H : Type) (enc : TypeId × Value → H) :
    ReturnsInHanded {} Try.checked os 7 .any (Rows.pairChecksSpec.pre6 enc Try.prog Try.f7 Rows.pairChecksRow.domain false) (Rows.pairChecksSpec.post enc Try.prog Try.f7 false true false false) := by
  refine returnsInHanded_of_change_sized (C := Try.checked) own started (by kernel_rfl) Try.func7
    (ChangeSpec.witness6 (enc := enc) (C := Try.checked) false ⟨#[], #[.agg #[.int .i64 0, .slice none 0 0], .slice none 0 0, .slice none 0 0], []⟩ 9 (by kernel_rfl) (by kernel_rfl) (by kernel_rfl) (by kernel_rfl)) ?_
  intro W base args ds gs before hval hW _ hk _
  exact contract H enc W base args ds gs before hval hW hk
theorem proved : Rows.PairChecksSaid :=
  OpenClaim.holds_of_wide 7 Try.f7 rfl rfl rfl rfl rfl rfl rfl ⟨rfl, rfl, rfl, rfl, rfl⟩ rfl rfl rfl rfl rfl (by kernel_rfl) Try.func7 (by kernel_rfl)
    (of_decide_eq_true (by kernel_rfl)) (by unfold Func.isWrapper; first | (rw [if_pos (by decide +kernel)]; kernel_rfl) | (rw [if_neg (by decide +kernel)]; exact ⟨rfl, rfl⟩))
    (fun os started H enc _ => lifted os started H enc)
end Go.Proofs.Ytalpknofimglbaa.pairChecks
namespace Go.Proofs.Ytalpknofimglbaa
theorem pairChecks_holds : Rows.PairChecksSaid := pairChecks.proved
end Go.Proofs.Ytalpknofimglbaa
namespace Go.Proofs.Ytalpknofimglbaa.pairBack
open Go Go.ChangeShapes Go.WideShapes Go.ChangeAt Go.RowKit Go.Proofs.Ytalpknofimglbaa.V
theorem own : ownKnob Try.prog.godebug = none := by kernel_rfl
set_option maxRecDepth 100000 in
theorem contract (H : Type) (enc : TypeId × Value → H) (W : World) (base : Nat) (args : Array Value) (ds gs : List (DataW H)) (before : List MemPlace)
    (hval : ∀ (j : Nat) t v, Try.f8.params[j]? = some t → args[j]? = some v → Value.okWide Try.prog W .any base t v)
    (hW : DataW.Whole enc Try.prog Try.f8.params.toList Rows.pairBackSpec.vars false W args.toList ds gs before) (hk : (DataW.weightsEach Try.prog (Try.f8.params.toList ++ Rows.pairBackSpec.plain.varTypes Try.prog) (ds ++ gs)).all (· ≤ reachBytes) = true) :
    Calls Try.prog 8 args W fun e W' => ∃ v, e = .returned v ∧ Rows.pairBackSpec.post enc Try.prog Try.f8 false true false false W args v W' := by
  obtain ⟨p, q, hA, hV, hps, hfz, hnd⟩ := id hW
  obtain ⟨rfl, rfl⟩ := trodVars_none hV
  have hlen := trodAll_length hA
  obtain ⟨d0, d1, d2, rfl⟩ : ∃ d0 d1 d2, ds = [d0, d1, d2] := by
    match ds, hlen with
    | [d0, d1, d2], _ => exact ⟨d0, d1, d2, rfl⟩
  refine (law_calls (E := E0) E0_ok (m := 9) (ts := Try.f8.params.toList) (by kernel_rfl) (fun j t v h1 h2 => hval j t v (by simpa using h1) (by simpa using h2)) hA (fun xs hf => l_PairBack d0 d1 d2 xs hf hk)).mono fun e W' ⟨he, bel⟩ => ?_
  subst he
  exact ⟨_, rfl, law_post (tb := 4) (by kernel_rfl) (by kernel_rfl) (by kernel_rfl) Try.underlying4 rfl rfl hW hA bel⟩
set_option maxRecDepth 100000 in
theorem lifted (os : Os) (started : os.Started) (H : Type) (enc : TypeId × Value → H) :
    ReturnsInHanded {} Try.checked os 8 .any (Rows.pairBackSpec.pre6 enc Try.prog Try.f8 Rows.pairBackRow.domain false) (Rows.pairBackSpec.post enc Try.prog Try.f8 false true false false) := by
  refine returnsInHanded_of_change_sized (C := Try.checked) own started (by kernel_rfl) Try.func8
    (ChangeSpec.witness6 (enc := enc) (C := Try.checked) false ⟨#[], #[.agg #[.int .i64 0, .slice none 0 0], .slice none 0 0, .slice none 0 0], []⟩ 9 (by kernel_rfl) (by kernel_rfl) (by kernel_rfl) (by kernel_rfl)) ?_
  intro W base args ds gs before hval hW _ hk _
  exact contract H enc W base args ds gs before hval hW hk
theorem proved : Rows.PairBackSaid :=
  OpenClaim.holds_of_wide 8 Try.f8 rfl rfl rfl rfl rfl rfl rfl ⟨rfl, rfl, rfl, rfl, rfl⟩ rfl rfl rfl rfl rfl (by kernel_rfl) Try.func8 (by kernel_rfl)
    (of_decide_eq_true (by kernel_rfl)) (by unfold Func.isWrapper; first | (rw [if_pos (by decide +kernel)]; kernel_rfl) | (rw [if_neg (by decide +kernel)]; exact ⟨rfl, rfl⟩))
    (fun os started H enc _ => lifted os started H enc)
end Go.Proofs.Ytalpknofimglbaa.pairBack
namespace Go.Proofs.Ytalpknofimglbaa
theorem pairBack_holds : Rows.PairBackSaid := pairBack.proved
end Go.Proofs.Ytalpknofimglbaa
