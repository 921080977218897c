/- The laws of steps, over what a row reads. -/
import Derived.Test.YthmocicjocjdoaaC17
import Derived.Test.YthmocicjocjdoaaL13
set_option linter.unusedVariables false
set_option linter.unusedSimpArgs false
namespace Go.Proofs.Ythmocicjocjdoaa.V
open Go
variable {H : Type}
theorem fit_ints {n : Nat} {d : DataW H} {xs : List AV} (hf : Fit T0 (n + 2) 54 d xs) : ∃ l : List Int, (∀ n ∈ l, i64 n) ∧ xs = [intsV l] := by
  obtain ⟨ds, sp, l, hd, rfl, h⟩ := fit_slice (e := 3) (by kernel_rfl) hf
  obtain ⟨cs, rfl, hq⟩ := each_map (f := fun n => AV.int .i64 n) (Q := fun d n => i64 n) (fun d x ⟨ys, h1, h2⟩ => by
    obtain ⟨a, ha, rfl, rfl⟩ := fit_i64 (by kernel_rfl) h1
    have q := elem_one (by kernel_rfl) h2
    injection q with q
    exact ⟨a, q.symm, ha⟩) h
  exact ⟨cs, fun f hf => each_all hq hf, rfl⟩
theorem fit_val {n : Nat} {d : DataW H} {xs : List AV} (hf : Fit T0 (n + 2) 53 d xs) : ∃ (a : Int) (s : List UInt8), i64 a ∧ xs = [.int .i64 a, .str s] := by
  obtain ⟨ds, yss, rfl, rfl, h⟩ := fit_struct (fs := [(0, 3), (1, 9)]) (by kernel_rfl) hf
  obtain ⟨d0, ds, y0, yss, rfl, rfl, h0, h⟩ := each3_cons h
  obtain ⟨d1, ds, y1, yss, rfl, rfl, h1, h⟩ := each3_cons h
  obtain ⟨rfl, rfl⟩ := each3_nil h
  obtain ⟨a, ha, rfl, rfl⟩ := fit_i64 (by kernel_rfl) h0
  obtain ⟨s, rfl, rfl⟩ := fit_str (by kernel_rfl) h1
  exact ⟨a, s, ha, rfl⟩
theorem fit_stp {n : Nat} {d : DataW H} {xs : List AV} (hf : Fit T0 (n + 4) 57 d xs) : ∃ x : Stp, x.ok ∧ xs = stpC x := by
  obtain ⟨ds, yss, rfl, rfl, h⟩ := fit_struct (fs := [(0, 3), (1, 3), (2, 3), (3, 3), (4, 3), (5, 3), (6, 3), (7, 51), (12, 53), (14, 54), (15, 55)]) (by kernel_rfl) hf
  obtain ⟨d0, ds, y0, yss, rfl, rfl, h0, h⟩ := each3_cons h
  obtain ⟨d1, ds, y1, yss, rfl, rfl, h1, h⟩ := each3_cons h
  obtain ⟨d2, ds, y2, yss, rfl, rfl, h2, h⟩ := each3_cons h
  obtain ⟨d3, ds, y3, yss, rfl, rfl, h3, h⟩ := each3_cons h
  obtain ⟨d4, ds, y4, yss, rfl, rfl, h4, h⟩ := each3_cons h
  obtain ⟨d5, ds, y5, yss, rfl, rfl, h5, h⟩ := each3_cons h
  obtain ⟨d6, ds, y6, yss, rfl, rfl, h6, h⟩ := each3_cons h
  obtain ⟨d7, ds, y7, yss, rfl, rfl, h7, h⟩ := each3_cons h
  obtain ⟨d8, ds, y8, yss, rfl, rfl, h8, h⟩ := each3_cons h
  obtain ⟨d9, ds, y9, yss, rfl, rfl, h9, h⟩ := each3_cons h
  obtain ⟨dA, ds, yA, yss, rfl, rfl, hA, h⟩ := each3_cons h
  obtain ⟨rfl, rfl⟩ := each3_nil h
  obtain ⟨a0, i0, rfl, rfl⟩ := fit_i64 (by kernel_rfl) h0
  obtain ⟨a1, i1, rfl, rfl⟩ := fit_i64 (by kernel_rfl) h1
  obtain ⟨a2, i2, rfl, rfl⟩ := fit_i64 (by kernel_rfl) h2
  obtain ⟨a3, i3, rfl, rfl⟩ := fit_i64 (by kernel_rfl) h3
  obtain ⟨a4, i4, rfl, rfl⟩ := fit_i64 (by kernel_rfl) h4
  obtain ⟨a5, i5, rfl, rfl⟩ := fit_i64 (by kernel_rfl) h5
  obtain ⟨a6, i6, rfl, rfl⟩ := fit_i64 (by kernel_rfl) h6
  obtain ⟨f, i7, rfl⟩ := fit_fld h7
  obtain ⟨a8, s, i8, rfl⟩ := fit_val h8
  obtain ⟨t, i9, rfl⟩ := fit_ints h9
  obtain ⟨fs, iA, rfl⟩ := fit_flds hA
  exact ⟨⟨a0, a1, a2, a3, a4, a5, a6, f, a8, s, t, fs⟩, ⟨i0, i1, i2, i3, i4, i5, i6, i7, i8, i9, iA⟩, rfl⟩
theorem fit_stps {n : Nat} {d : DataW H} {xs : List AV} (hf : Fit T0 (n + 5) 25 d xs) : ∃ l : List Stp, (∀ f ∈ l, f.ok) ∧ xs = [stpsV l] := by
  obtain ⟨ds, sp, l, hd, rfl, h⟩ := fit_slice (e := 57) (by kernel_rfl) hf
  obtain ⟨cs, rfl, hq⟩ := each_map (f := stpV) (Q := fun d f => f.ok) (fun d x ⟨ys, h1, h2⟩ => by
    obtain ⟨f, hf, rfl⟩ := fit_stp h1
    exact ⟨f, elem_agg (by kernel_rfl) h2, hf⟩) h
  exact ⟨cs, fun f hf => each_all hq hf, rfl⟩
end Go.Proofs.Ythmocicjocjdoaa.V
