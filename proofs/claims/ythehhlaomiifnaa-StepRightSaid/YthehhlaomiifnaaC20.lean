/- Contracts of steps: right, as the document has it; the same. -/
import Derived.Test.YthehhlaomiifnaaC19
set_option linter.unusedVariables false
set_option linter.unusedSimpArgs false
namespace Go.Proofs.Ythehhlaomiifnaa.V
open Go
def letterS (p : Int) : Int := if p = 0 then 102 else if p = 1 then 100 else if p = 2 then 112 else if p = 3 then 116 else if p = 4 then 97 else if p = 5 then 98 else if p = 6 then 70 else if p = 7 then 86 else if p = 8 then 84 else 76
set_option maxRecDepth 50000 in
theorem yhas_all : (opsL.map fun o => [(0 : Int), 1, 2, 3, 4, 5, 6, 7, 8, 9].map fun p => (G E0 12).1 120 [.int .i64 o, .int .u8 (letterS p)] []) = (opsL.map fun o => [(0 : Int), 1, 2, 3, 4, 5, 6, 7, 8, 9].map fun p => some ([.bool (hasS o p)], [])) := by kernel_rfl
theorem c_yhas (op p : Int) (hp : p ∈ [(0 : Int), 1, 2, 3, 4, 5, 6, 7, 8, 9]) : tbl E0 120 [.int .i64 op, .int .u8 (letterS p)] [] = some ([.bool (hasS op p)], []) := by
  refine op_all (p := fun op => tbl E0 120 [.int .i64 op, .int .u8 (letterS p)] [] = some ([.bool (hasS op p)], [])) op ?_ ?_
  · intro o ho
    have h1 := List.map_inj_left.1 yhas_all o ho
    exact tbl_iff.2 ⟨12, List.map_inj_left.1 h1 p hp⟩
  · intro h hu
    obtain ⟨s, c, hs⟩ := c_yuses op
    rw [hu] at hs
    simp only [List.map_nil] at hs
    subst hs
    have e : ltbl E0 120 0 3 [.int .u8 (letterS p), .str [], .int .i64 0] [] = some (1, [], []) := t_yhasL _ _ _ (by simp [s_yhasL])
    exact t_yhas _ _ (by simp [s_yhas, c, e, hasS, hu])
theorem c_yh (op : Int) : (tbl E0 120 [.int .i64 op, .int .u8 100] [] = some ([.bool (hasS op 1)], []) ∧ tbl E0 120 [.int .i64 op, .int .u8 112] [] = some ([.bool (hasS op 2)], []) ∧ tbl E0 120 [.int .i64 op, .int .u8 116] [] = some ([.bool (hasS op 3)], [])) ∧
    (tbl E0 120 [.int .i64 op, .int .u8 97] [] = some ([.bool (hasS op 4)], []) ∧ tbl E0 120 [.int .i64 op, .int .u8 98] [] = some ([.bool (hasS op 5)], []) ∧ tbl E0 120 [.int .i64 op, .int .u8 70] [] = some ([.bool (hasS op 6)], [])) ∧
    (tbl E0 120 [.int .i64 op, .int .u8 86] [] = some ([.bool (hasS op 7)], []) ∧ tbl E0 120 [.int .i64 op, .int .u8 84] [] = some ([.bool (hasS op 8)], []) ∧ tbl E0 120 [.int .i64 op, .int .u8 76] [] = some ([.bool (hasS op 9)], [])) :=
  ⟨⟨c_yhas op 1 (by simp), c_yhas op 2 (by simp), c_yhas op 3 (by simp)⟩, ⟨c_yhas op 4 (by simp), c_yhas op 5 (by simp), c_yhas op 6 (by simp)⟩, ⟨c_yhas op 7 (by simp), c_yhas op 8 (by simp), c_yhas op 9 (by simp)⟩⟩
theorem cond_tt (a b : Bool) : (bif a then true else b) = (a || b) := by cases a <;> rfl
theorem cond_ff (a b : Bool) : (bif a then b else false) = (a && b) := by cases a <;> rfl
theorem cond_or (a b x : Bool) : (bif a then x else (b && x)) = ((a || b) && x) := by cases a <;> simp
theorem cond_nt (a b : Bool) : (bif !a then true else b) = (!a || b) := by cases a <;> rfl
theorem c_yzero (x : Stp) : tbl E0 117 [stpV x] [] = some ([.bool (zeroS x)], []) := by
  obtain ⟨⟨h1, h2, h3⟩, ⟨h4, h5, h6⟩, ⟨h7, h8, h9⟩⟩ := c_yh x.op
  refine t_yzero x ?_
  have ft : decide (x.f = fld0) = (x.f.id == 0 && (x.f.kind == 0 && (x.f.lo == 0 && (x.f.hi == 0 && (x.f.most == 0 && true))))) := (fld_eq x.f fld0).symm
  simp only [s_yzero, OA_chk, cond_true, OA_callx, h1, h2, h3, h4, h5, h6, h7, h8, h9, Option.bind_some, u_asC, u_asB, u_asN, OA_join, OA_asm, List.length_map, zeroS, ft]
  generalize (x.f.id == 0 && (x.f.kind == 0 && (x.f.lo == 0 && (x.f.hi == 0 && (x.f.most == 0 && true))))) = bf
  have ht : ((x.t.length : Int) == 0) = x.t.isEmpty := by cases x.t <;> simp; omega
  have hl : ((x.fields.length : Int) == 0) = x.fields.isEmpty := by cases x.fields <;> simp; omega
  simp only [tok_cond, Option.bind_some, Tok.untok_tok, cond_tt, cond_ff, cond_or, ht, hl, Bool.and_true, Bool.and_assoc]
end Go.Proofs.Ythehhlaomiifnaa.V
