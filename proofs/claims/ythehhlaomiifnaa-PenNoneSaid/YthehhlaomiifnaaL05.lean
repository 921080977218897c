/- The laws of the pen, over what a row reads. -/
import Derived.Test.YthehhlaomiifnaaC3
import Derived.Test.YthehhlaomiifnaaWh
import Derived.Test.YthehhlaomiifnaaRows
namespace Go.Proofs.Ythehhlaomiifnaa.V
open Go
variable {H : Type}
theorem fit_act {n : Nat} {d : DataW H} {xs : List AV} (hf : Fit T0 (n + 2) 28 d xs) : ∃ (k i : Int) (s : List UInt8), (-9223372036854775808 ≤ k ∧ k ≤ 9223372036854775807) ∧ (-9223372036854775808 ≤ i ∧ i ≤ 9223372036854775807) ∧ d = .agg [.lit (.int .i64 k), .lit (.int .i64 i), .lit (.string s)] ∧ xs = [.int .i64 k, .int .i64 i, .str s] := by
  obtain ⟨ds, yss, rfl, rfl, h⟩ := fit_struct (fs := [(0, 3), (1, 3), (2, 9)]) (by kernel_rfl) hf
  obtain ⟨d0, ds, y0, yss, rfl, rfl, h0, h⟩ := each3_cons h
  obtain ⟨d1, ds, y1, yss, rfl, rfl, h1, h⟩ := each3_cons h
  obtain ⟨d2, ds, y2, yss, rfl, rfl, h2, h⟩ := each3_cons h
  obtain ⟨rfl, rfl⟩ := each3_nil h
  obtain ⟨k, hk, rfl, rfl⟩ := fit_i64 (by kernel_rfl) h0
  obtain ⟨i, hi, rfl, rfl⟩ := fit_i64 (by kernel_rfl) h1
  obtain ⟨s, rfl, rfl⟩ := fit_str (by kernel_rfl) h2
  exact ⟨k, i, s, hk, hi, rfl, rfl⟩
theorem fitAll_one {t : Nat} {d : DataW H} {m : Nat} {xs : List AV} (h : FitAll T0 m [t] [d] xs) : ∃ x ys, xs = [x] ∧ Fit T0 m t d ys ∧ ElemOf (T0.ty t) x ys := by
  obtain ⟨d', ds, x, xs', e1, rfl, ⟨ys, h0, h1⟩, h⟩ := each3_cons h
  obtain ⟨rfl, rfl⟩ := each3_nil h
  cases e1
  exact ⟨x, ys, rfl, h0, h1⟩
theorem l_PenNone (d0 : DataW H) (xs : List AV) (hf : FitAll T0 9 Try.f6.params.toList [d0] xs) (hk : (DataW.weightsEach Try.prog (Try.f6.params.toList ++ Rows.penNoneSpec.plain.varTypes Try.prog) ([d0] ++ [])).all (· ≤ reachBytes) = true) :
    tbl E0 6 xs [] = some ([.bool true], []) := by
  obtain ⟨x, ys, rfl, h1, h2⟩ := fitAll_one (t := 28) hf
  obtain ⟨k, i, s, hk', hi, rfl, rfl⟩ := fit_act h1
  have := elem_agg (by kernel_rfl) h2
  subst this
  refine c_PenNone k i s hi.1 hi.2 ?_
  have hu : Try.prog.underlying 28 = some _ := Try.underlying28
  have hk2 := List.all_eq_true.1 hk s.length (by
    rw [show Try.f6.params.toList = [28] from rfl]
    simp [DataW.weightsEach, DataW.weights, hu])
  simp only [decide_eq_true_eq] at hk2
  exact Nat.le_trans hk2 (by decide)
end Go.Proofs.Ythehhlaomiifnaa.V
