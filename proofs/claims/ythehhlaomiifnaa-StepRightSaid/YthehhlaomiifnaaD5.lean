/- Which steps may be: by what they use, and as the document has it; the same (plain). -/
import Derived.Test.YthehhlaomiifnaaD4
set_option linter.unusedVariables false
set_option linter.unusedSimpArgs false
namespace Go.Proofs.Ythehhlaomiifnaa.V
open Go
def opsL : List Int := [1, 2, 3, 4, 5, 6, 7, 8, 9, 10, 21, 22, 23, 24, 25, 26, 27, 28, 29, 30]
/-- What an operation uses: 0 the form, 1 the field, 2 the place, 3 to, 4 one, 5 both, 6 types, 7 the value, 8 the table, 9 fields. -/
def usesS (op : Int) : List Int :=
  if op = 1 then [0, 2, 6, 7] else if op = 22 then [0, 2, 6, 7] else if op = 2 then [0, 1, 7] else if op = 3 then [0, 1, 6] else if op = 23 then [0, 1, 6]
  else if op = 4 then [0, 1, 5] else if op = 24 then [0, 1, 5, 6] else if op = 5 then [0, 1, 4, 8] else if op = 25 then [0, 1, 8] else if op = 6 then [0, 1, 4, 3]
  else if op = 26 then [0, 1, 4, 3, 6] else if op = 7 then [0, 1, 2] else if op = 27 then [0, 1, 2] else if op = 8 then [0, 1, 3] else if op = 28 then [0, 1, 3]
  else if op = 9 then [0, 9] else if op = 30 then [0, 9] else if op = 10 then [0] else if op = 29 then [0] else if op = 21 then [0, 1] else []
def hasS (op p : Int) : Bool := (usesS op).contains p
def inS (n lo hi : Int) : Bool := decide (lo ≤ n) && decide (n ≤ hi)
def longestS (f : Fld) : Int := if f.kind = 4 then f.most else 0
def hasV (f : Fld) (n : Int) (s : List UInt8) : Bool := rgtS f && (inS n (loS f) (hiS f) && decide ((s.length : Int) ≤ longestS f))
def apartS (l : List Int) (below : Int) : Bool := (l.all fun n => inS n 0 (below - 1)) && nodupI l && decide (1 ≤ l.length ∧ l.length ≤ 64)
def fitsS (x : Stp) (p : Int) : Bool :=
  if p = 0 then inS x.form 0 200 else if p = 1 then inS x.field 0 255 else if p = 2 then inS x.place 0 8 else if p = 3 then inS x.to 0 255 && x.to != x.field
  else if p = 4 then (if x.op = 5 then inS x.a 1 1000 else inS x.a 2 1048576)
  else if p = 5 then inS x.a (-1048576) 1048576 && (x.a != 0 && inS x.b (-1099511627776) 1099511627776)
  else if p = 6 then rgtS x.f && (x.op == 1 || (x.op == 22 || x.f.id == x.field))
  else if p = 7 then (if x.op = 2 then inS x.n (-1099511627776) 1099511627776 && decide ((x.s.length : Int) ≤ 32) else hasV x.f x.n x.s)
  else if p = 8 then apartS x.t (if x.op = 5 then x.a else 1000)
  else fineS ⟨x.form, x.fields⟩
def fld0 : Fld := ⟨0, 0, 0, 0, 0⟩
def onlyS (x : Stp) : Stp :=
  ⟨x.op, if hasS x.op 0 then x.form else 0, if hasS x.op 1 then x.field else 0, if hasS x.op 2 then x.place else 0, if hasS x.op 3 then x.to else 0,
    if hasS x.op 4 || hasS x.op 5 then x.a else 0, if hasS x.op 5 then x.b else 0, if hasS x.op 6 then x.f else fld0, if hasS x.op 7 then x.n else 0, if hasS x.op 7 then x.s else [],
    if hasS x.op 8 then x.t else [], if hasS x.op 9 then x.fields else []⟩
def tRightS (x : Stp) : Bool := (usesS x.op).all (fitsS x) && (!(usesS x.op).isEmpty && decide (x = onlyS x))
def zeroS (x : Stp) : Bool :=
  (hasS x.op 1 || x.field == 0) && ((hasS x.op 2 || x.place == 0) && ((hasS x.op 3 || x.to == 0) && ((hasS x.op 4 || (hasS x.op 5 || x.a == 0)) && ((hasS x.op 5 || x.b == 0) &&
    ((hasS x.op 6 || decide (x.f = fld0)) && ((hasS x.op 7 || (x.n == 0 && x.s == [])) && ((hasS x.op 8 || x.t.isEmpty) && (hasS x.op 9 || x.fields.isEmpty))))))))
def numbersS (x : Stp) : Bool :=
  if x.op = 4 ∨ x.op = 24 then inS x.a (-1048576) 1048576 && (x.a != 0 && inS x.b (-1099511627776) 1099511627776)
  else if x.op = 6 ∨ x.op = 26 then inS x.a 2 1048576
  else if x.op = 5 then inS x.a 1 1000 && apartS x.t x.a
  else if x.op = 25 then apartS x.t 1000 else true
def ytRightS (x : Stp) : Bool :=
  !(usesS x.op).isEmpty && (zeroS x && (inS x.form 0 200 && (inS x.field 0 255 && (inS x.place 0 8 && (inS x.to 0 255 && (numbersS x &&
    (!(hasS x.op 3 && x.to == x.field) && (!(hasS x.op 6 && !rgtS x.f) && (!(hasS x.op 6 && (hasS x.op 1 && x.f.id != x.field)) &&
      (!(x.op == 2 && !(inS x.n (-1099511627776) 1099511627776 && decide ((x.s.length : Int) ≤ 32))) && (!(hasS x.op 2 && (hasS x.op 7 && !hasV x.f x.n x.s)) && (!hasS x.op 9 || fineS ⟨x.form, x.fields⟩))))))))))))
theorem op_in (op : Int) : op ∈ opsL ∨ (op ∉ opsL ∧ usesS op = []) := by
  by_cases h : op ∈ opsL
  · exact .inl h
  · refine .inr ⟨h, ?_⟩
    simp only [opsL, List.mem_cons, List.not_mem_nil, or_false, not_or] at h
    obtain ⟨h1, h2, h3, h4, h5, h6, h7, h8, h9, h10, h11, h12, h13, h14, h15, h16, h17, h18, h19, h20⟩ := h
    simp only [usesS, h1, h2, h3, h4, h5, h6, h7, h8, h9, h10, h11, h12, h13, h14, h15, h16, h17, h18, h19, h20, if_false]
/-- What holds of each operation holds of all. -/
theorem op_all {p : Int → Prop} (op : Int) (h : ∀ o ∈ opsL, p o) (h0 : op ∉ opsL → usesS op = [] → p op) : p op := by
  rcases op_in op with h1 | ⟨h1, h2⟩
  · exact h op h1
  · exact h0 h1 h2
theorem tRight_eq (x : Stp) : tRightS x = ytRightS x := by
  obtain ⟨op, form, field, place, to, a, b, f, n, s, t, fields⟩ := x
  refine op_all (p := fun op => tRightS ⟨op, form, field, place, to, a, b, f, n, s, t, fields⟩ = ytRightS ⟨op, form, field, place, to, a, b, f, n, s, t, fields⟩) op ?_ ?_
  · intro o ho
    simp only [opsL, List.mem_cons, List.not_mem_nil, or_false] at ho
    rcases ho with rfl | rfl | rfl | rfl | rfl | rfl | rfl | rfl | rfl | rfl | rfl | rfl | rfl | rfl | rfl | rfl | rfl | rfl | rfl | rfl <;>
    · simp [tRightS, ytRightS, usesS, fitsS, onlyS, zeroS, numbersS, hasS, inS, List.isEmpty_iff]
      rw [Bool.eq_iff_iff]
      simp only [Bool.and_eq_true, Bool.or_eq_true, decide_eq_true_eq, Bool.not_eq_true', beq_iff_eq, bne_iff_ne, ne_eq]
      constructor <;> (intro h; simp_all) <;> (try omega) <;> grind
  · intro _ h
    simp [tRightS, ytRightS, h]
end Go.Proofs.Ythehhlaomiifnaa.V
