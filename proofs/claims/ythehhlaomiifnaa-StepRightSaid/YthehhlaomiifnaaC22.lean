/- The law of steps' rightness. -/
import Derived.Test.YthehhlaomiifnaaC21
set_option linter.unusedVariables false
set_option linter.unusedSimpArgs false
namespace Go.Proofs.Ythehhlaomiifnaa.V
open Go
theorem awake15 : tbl E0 59 [] [] = some ([.bool true], []) := tbl_iff.2 ⟨60, by kernel_rfl⟩
theorem bigT_sml {x : Stp} (h : bigT x = false) : x.sml := by
  simp only [bigT, Bool.or_eq_false_iff, decide_eq_false_iff_not] at h
  exact ⟨by omega, by omega⟩
theorem c_StepRight (x y : Stp) (hx : x.ok) (hy : y.ok) : tbl E0 10 [stpV x, stpV y] [] = some ([.bool true], []) := by
  have c1 := c_yGreat [x, y]
  refine t_StepRight x y ?_
  simp only [stpsV, List.map_cons, List.map_nil, stpV] at c1
  simp only [s_StepRight, OA_chk, cond_true, OA_callx, c1, Option.bind_some, u_asC, u_asB, u_asN, OA_join, OA_asm, awake15]
  rcases bor (greatT [x, y]) with hb | hb
  · simp [hb]
  · have hs : x.sml ∧ y.sml := by
      simp only [greatT, List.take_succ_cons, List.take_nil, List.any_cons, List.any_nil, Bool.or_false, Bool.or_eq_false_iff] at hb
      exact ⟨bigT_sml hb.1.1, bigT_sml hb.1.2⟩
    have c2 := c_tRight x hx hs.1
    have c3 := c_ytRight x hs.1
    have c4 := c_tSame x y hx hy hs.1
    have c5 := c_ytSame x y hs.1
    have c6 := c_tSame x x hx hx hs.1
    rw [tRight_eq] at c2
    simp only [stpV, stpC, intsV, fldsV] at c2 c3 c4 c5 c6
    simp only [hb, cond_false, c2, c3, c4, c5, c6, Option.bind_some, u_asC, u_asB, u_asN, beq_self_eq_true, cond_true, decide_true]
end Go.Proofs.Ythehhlaomiifnaa.V
