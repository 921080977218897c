/- The laws of links, over what a row reads. -/
import Derived.Test.YthmocicjocjdoaaC30
import Derived.Test.YthmocicjocjdoaaL15
set_option linter.unusedVariables false
set_option linter.unusedSimpArgs false
namespace Go.Proofs.Ythmocicjocjdoaa.V
open Go
variable {H : Type}
theorem fit_lnk {n : Nat} {d : DataW H} {xs : List AV} (hf : Fit T0 (n + 7) 27 d xs) : ∃ x : Lnk, x.ok ∧ xs = lnkC x := by
  obtain ⟨ds, yss, rfl, rfl, h⟩ := fit_struct (fs := [(0, 3), (1, 24), (3, 25), (4, 25)]) (by kernel_rfl) hf
  obtain ⟨d0, ds, y0, yss, rfl, rfl, h0, h⟩ := each3_cons h
  obtain ⟨d1, ds, y1, yss, rfl, rfl, h1, h⟩ := each3_cons h
  obtain ⟨d2, ds, y2, yss, rfl, rfl, h2, h⟩ := each3_cons h
  obtain ⟨d3, ds, y3, yss, rfl, rfl, h3, h⟩ := each3_cons h
  obtain ⟨rfl, rfl⟩ := each3_nil h
  obtain ⟨a, ha, rfl, rfl⟩ := fit_i64 (by kernel_rfl) h0
  obtain ⟨s, hs, rfl⟩ := fit_sch h1
  obtain ⟨l, hl, rfl⟩ := fit_stps h2
  obtain ⟨m, hm, rfl⟩ := fit_stps h3
  exact ⟨⟨a, s, l, m⟩, ⟨ha, hs, hl, hm⟩, rfl⟩
theorem l_LinkRight (d0 d1 : DataW H) (xs : List AV) (hf : FitAll T0 9 Try.f3.params.toList [d0, d1] xs) (hk : (DataW.weightsEach Try.prog (Try.f3.params.toList ++ Rows.linkRightSpec.plain.varTypes Try.prog) ([d0, d1] ++ [])).all (· ≤ reachBytes) = true) :
    tbl E0 3 xs [] = some ([.bool true], []) := by
  obtain ⟨x, ys, y, zs, rfl, h1, h2, h3, h4⟩ := fitAll_two (t := 27) (u := 27) hf
  obtain ⟨s, hs, rfl⟩ := fit_lnk h1
  obtain ⟨t, ht, rfl⟩ := fit_lnk h3
  have e1 := elem_agg (by kernel_rfl) h2
  have e2 := elem_agg (by kernel_rfl) h4
  subst e1; subst e2
  exact c_LinkRight s t hs ht
end Go.Proofs.Ythmocicjocjdoaa.V
