/- The laws of steps' bytes, over what a row reads. -/
import Derived.Test.YthehhlaomiifnaaC23
import Derived.Test.YthehhlaomiifnaaL15
set_option linter.unusedVariables false
set_option linter.unusedSimpArgs false
namespace Go.Proofs.Ythehhlaomiifnaa.V
open Go
variable {H : Type}
theorem l_StepBytes (d0 d1 : DataW H) (xs : List AV) (hf : FitAll T0 9 Try.f11.params.toList [d0, d1] xs) (hk : (DataW.weightsEach Try.prog (Try.f11.params.toList ++ Rows.stepBytesSpec.plain.varTypes Try.prog) ([d0, d1] ++ [])).all (· ≤ reachBytes) = true) :
    tbl E0 11 xs [] = some ([.bool true], []) := by
  obtain ⟨x, ys, y, zs, rfl, h1, h2, h3, h4⟩ := fitAll_two (t := 80) (u := 25) hf
  obtain ⟨l, hl, rfl⟩ := fit_stps h1
  obtain ⟨ds, sp, b, hd, rfl, hlb⟩ := fit_bytes h3
  have e1 := elem_one (by kernel_rfl) h2
  have e2 := elem_one (by kernel_rfl) h4
  injection e1 with e1
  injection e2 with e2
  subst e1; subst e2
  have hw : (DataW.weightsEach Try.prog ([80, 25] ++ []) ([d0, d1] ++ [])).all (· ≤ reachBytes) = true := hk
  simp only [List.cons_append, List.nil_append, DataW.weightsEach, List.all_append, List.append_nil, Bool.and_eq_true] at hw
  have g2 := slice_len Try.underlying25 (by kernel_rfl) hd hw.2
  have hr : reachBytes ≤ 140737488355328 := by decide
  exact c_StepBytes l b hl (by rw [← hlb]; omega)
theorem l_StepBack (d0 d1 : DataW H) (xs : List AV) (hf : FitAll T0 9 Try.f12.params.toList [d0, d1] xs) (hk : (DataW.weightsEach Try.prog (Try.f12.params.toList ++ Rows.stepBackSpec.plain.varTypes Try.prog) ([d0, d1] ++ [])).all (· ≤ reachBytes) = true) :
    tbl E0 12 xs [] = some ([.bool true], []) := by
  obtain ⟨x, ys, y, zs, rfl, h1, h2, h3, h4⟩ := fitAll_two (t := 80) (u := 25) hf
  obtain ⟨l, hl, rfl⟩ := fit_stps h1
  obtain ⟨ds, sp, b, hd, rfl, hlb⟩ := fit_bytes h3
  have e1 := elem_one (by kernel_rfl) h2
  have e2 := elem_one (by kernel_rfl) h4
  injection e1 with e1
  injection e2 with e2
  subst e1; subst e2
  have hw : (DataW.weightsEach Try.prog ([80, 25] ++ []) ([d0, d1] ++ [])).all (· ≤ reachBytes) = true := hk
  simp only [List.cons_append, List.nil_append, DataW.weightsEach, List.all_append, List.append_nil, Bool.and_eq_true] at hw
  have g2 := slice_len Try.underlying25 (by kernel_rfl) hd hw.2
  have hr : reachBytes ≤ 140737488355328 := by decide
  exact c_StepBack l b hl (by rw [← hlb]; omega)
end Go.Proofs.Ythehhlaomiifnaa.V
