/- The laws of the pen, over what a row reads. -/
import Derived.Test.YthehhlaomiifnaaC6
import Derived.Test.YthehhlaomiifnaaBh
import Derived.Test.YthehhlaomiifnaaRows
set_option linter.unusedVariables false
set_option linter.unusedSimpArgs false
namespace Go.Proofs.Ythehhlaomiifnaa.V
open Go
variable {H : Type}
theorem fit_act {n : Nat} {d : DataW H} {xs : List AV} (hf : Fit T0 (n + 2) 28 d xs) : ∃ (k i : Int) (s : List UInt8), (-9223372036854775808 ≤ k ∧ k ≤ 9223372036854775807) ∧ (-9223372036854775808 ≤ i ∧ i ≤ 9223372036854775807) ∧ d = .agg [.lit (.int .i64 k), .lit (.int .i64 i), .lit (.string s)] ∧ xs = [.int .i64 k, .int .i64 i, .str s] := by
  obtain ⟨ds, yss, rfl, rfl, h⟩ := fit_struct (fs := [(0, 3), (1, 3), (2, 9)]) (by kernel_rfl) hf
  obtain ⟨d0, ds, y0, yss, rfl, rfl, h0, h⟩ := each3_cons h
  obtain ⟨d1, ds, y1, yss, rfl, rfl, h1, h⟩ := each3_cons h
  obtain ⟨d2, ds, y2, yss, rfl, rfl, h2, h⟩ := each3_cons h
  obtain ⟨rfl, rfl⟩ := each3_nil h
  obtain ⟨k, hk, rfl, rfl⟩ := fit_i64 (by kernel_rfl) h0
  obtain ⟨i, hi, rfl, rfl⟩ := fit_i64 (by kernel_rfl) h1
  obtain ⟨s, rfl, rfl⟩ := fit_str (by kernel_rfl) h2
  exact ⟨k, i, s, hk, hi, rfl, rfl⟩
theorem fitAll_one {t : Nat} {d : DataW H} {m : Nat} {xs : List AV} (h : FitAll T0 m [t] [d] xs) : ∃ x ys, xs = [x] ∧ Fit T0 m t d ys ∧ ElemOf (T0.ty t) x ys := by
  obtain ⟨d', ds, x, xs', e1, rfl, ⟨ys, h0, h1⟩, h⟩ := each3_cons h
  obtain ⟨rfl, rfl⟩ := each3_nil h
  cases e1
  exact ⟨x, ys, rfl, h0, h1⟩
theorem l_PenNone (d0 : DataW H) (xs : List AV) (hf : FitAll T0 9 Try.f6.params.toList [d0] xs) (hk : (DataW.weightsEach Try.prog (Try.f6.params.toList ++ Rows.penNoneSpec.plain.varTypes Try.prog) ([d0] ++ [])).all (· ≤ reachBytes) = true) :
    tbl E0 6 xs [] = some ([.bool true], []) := by
  obtain ⟨x, ys, rfl, h1, h2⟩ := fitAll_one (t := 28) hf
  obtain ⟨k, i, s, hk', hi, rfl, rfl⟩ := fit_act h1
  have := elem_agg (by kernel_rfl) h2
  subst this
  refine c_PenNone k i s hi.1 hi.2 ?_
  have hu : Try.prog.underlying 28 = some _ := Try.underlying28
  have hk2 := List.all_eq_true.1 hk s.length (by
    rw [show Try.f6.params.toList = [28] from rfl]
    simp [DataW.weightsEach, DataW.weights, hu])
  simp only [decide_eq_true_eq] at hk2
  exact Nat.le_trans hk2 (by decide)
def actD (a : Int × Int × List UInt8) : DataW H := .agg [.lit (.int .i64 a.1), .lit (.int .i64 a.2.1), .lit (.string a.2.2)]
theorem bulk_acts : ∀ {ds : List (DataW H)} {l : List (Int × Int × List UInt8)}, Each (fun d a => d = actD a ∧ actOK a) ds l → (∀ a, a ∈ l → actOK a) ∧ actSz l ≤ 10 * Rows.uptoBulkAll ds ∧ l.length ≤ Rows.uptoBulkAll ds
  | [], [], _ => ⟨fun a h => (by cases h), by simp [actSz], by simp⟩
  | d :: ds, a :: l, h => by
    obtain ⟨h1, h2, h3⟩ := bulk_acts h.2
    obtain ⟨rfl, h4⟩ := h.1
    refine ⟨fun x hx => ?_, ?_, ?_⟩
    · rcases List.mem_cons.1 hx with rfl | hx
      · exact h4
      · exact h1 x hx
    · have e : actSz (a :: l) = 10 + a.2.2.length + actSz l := by simp [actSz]
      rw [e]
      simp only [Rows.uptoBulkAll, actD, Rows.uptoBulk]
      omega
    · simp only [Rows.uptoBulkAll, actD, Rows.uptoBulk, List.length_cons]
      omega
  | [], _ :: _, h => h.elim
  | _ :: _, [], h => h.elim
theorem fit_acts {n : Nat} {d : DataW H} {xs : List AV} (hf : Fit T0 (n + 3) 22 d xs) : ∃ (ds sp : List (DataW H)) (l : List (Int × Int × List UInt8)), (d = .slice ds sp ∨ (d = .nil ∧ ds = [])) ∧ xs = [.lst .ro 3 (actL l)] ∧ Each (fun d a => d = actD a ∧ actOK a) ds l := by
  obtain ⟨ds, sp, l, hd, rfl, h⟩ := fit_slice (e := 28) (by kernel_rfl) hf
  obtain ⟨cs, rfl, hq⟩ := each_map (f := fun a : Int × Int × List UInt8 => actV a.1 a.2.1 a.2.2) (Q := fun d a => d = actD a ∧ actOK a) (fun d x ⟨ys, h1, h2⟩ => by
    obtain ⟨k, i, s, hk, hi, rfl, rfl⟩ := fit_act h1
    exact ⟨(k, i, s), elem_agg (by kernel_rfl) h2, rfl, hi⟩) h
  exact ⟨ds, sp, cs, hd, rfl, hq⟩
theorem fit_bytes {n : Nat} {d : DataW H} {xs : List AV} (hf : Fit T0 (n + 2) 25 d xs) : ∃ (ds sp : List (DataW H)) (b : List UInt8), (d = .slice ds sp ∨ (d = .nil ∧ ds = [])) ∧ xs = [.lst .ro 1 (encB b)] ∧ ds.length = b.length := by
  obtain ⟨ds, sp, l, hd, rfl, h⟩ := fit_slice (e := 5) (by kernel_rfl) hf
  obtain ⟨cs, rfl, hq⟩ := each_map (f := fun c : UInt8 => AV.int .u8 (c.toNat : Int)) (Q := fun d c => d = .lit (.int .u8 (c.toNat : Int))) (fun d x ⟨ys, h1, h2⟩ => by
    obtain ⟨c, rfl, rfl⟩ := fit_u8 (by kernel_rfl) h1
    have := elem_one (by kernel_rfl) h2
    injection this with this
    exact ⟨c, this.symm, rfl⟩) h
  exact ⟨ds, sp, cs, hd, rfl, hq.length⟩
theorem upto_bound {ds : List (DataW H)} (hk : Rows.uptoSmall H ds = true) : Rows.uptoBulkAll ds ≤ 1048576 := of_decide_eq_true hk
theorem acts_small {d0 : DataW H} {ds sp : List (DataW H)} (hk : Rows.uptoSmall H ([d0] ++ []) = true) (hd : d0 = .slice ds sp ∨ (d0 = .nil ∧ ds = [])) : Rows.uptoBulkAll ds ≤ 1048576 := by
  have hb := upto_bound hk
  rcases hd with rfl | ⟨rfl, rfl⟩
  · simp only [List.append_nil, Rows.uptoBulkAll, Rows.uptoBulk] at hb; omega
  · simp [Rows.uptoBulkAll]
theorem l_PenWrites (d0 : DataW H) (xs : List AV) (hf : FitAll T0 9 Try.f3.params.toList [d0] xs) (hk : Rows.uptoSmall H ([d0] ++ []) = true) : tbl E0 3 xs [] = some ([.bool true], []) := by
  obtain ⟨x, ys, rfl, h1, h2⟩ := fitAll_one (t := 22) hf
  obtain ⟨ds, sp, l, hd, rfl, hq⟩ := fit_acts h1
  have := elem_one (by kernel_rfl) h2
  injection this with this
  subst this
  have hb := acts_small hk hd
  obtain ⟨g1, g2, g3⟩ := bulk_acts hq
  exact c_PenWrites l g1 (by omega) (by omega)
theorem l_PenBack (d0 : DataW H) (xs : List AV) (hf : FitAll T0 9 Try.f5.params.toList [d0] xs) (hk : Rows.uptoSmall H ([d0] ++ []) = true) : tbl E0 5 xs [] = some ([.bool true], []) := by
  obtain ⟨x, ys, rfl, h1, h2⟩ := fitAll_one (t := 22) hf
  obtain ⟨ds, sp, l, hd, rfl, hq⟩ := fit_acts h1
  have := elem_one (by kernel_rfl) h2
  injection this with this
  subst this
  have hb := acts_small hk hd
  obtain ⟨g1, g2, g3⟩ := bulk_acts hq
  exact c_PenBack l g1 (by omega) (by omega)
theorem fitAll_two {t u : Nat} {d e : DataW H} {m : Nat} {xs : List AV} (h : FitAll T0 m [t, u] [d, e] xs) : ∃ x ys y zs, xs = [x, y] ∧ Fit T0 m t d ys ∧ ElemOf (T0.ty t) x ys ∧ Fit T0 m u e zs ∧ ElemOf (T0.ty u) y zs := by
  obtain ⟨d', ds, x, xs', e1, rfl, ⟨ys, h0, h1⟩, h⟩ := each3_cons h
  cases e1
  obtain ⟨d', ds, y, xs', e1, rfl, ⟨zs, h2, h3⟩, h⟩ := each3_cons h
  obtain ⟨rfl, rfl⟩ := each3_nil h
  cases e1
  exact ⟨x, ys, y, zs, rfl, h0, h1, h2, h3⟩
theorem slice_len {P : Program} {t e : Nat} {ds sp d : _} (hu : P.underlying t = some (.slice e)) (hb : Nat.blt 0 (P.bytesOf e) = true) (hd : d = DataW.slice ds sp ∨ (d = .nil ∧ ds = ([] : List (DataW H)))) (hk : (d.weights P t).all (· ≤ reachBytes) = true) : ds.length ≤ reachBytes := by
  rcases hd with rfl | ⟨rfl, rfl⟩
  · simp only [DataW.weights, hu, List.all_cons, Bool.and_eq_true, decide_eq_true_eq] at hk
    rw [Nat.blt_eq] at hb
    have h1 : (ds.length + sp.length) * 1 ≤ (ds.length + sp.length) * P.bytesOf e := Nat.mul_le_mul_left _ hb
    omega
  · simp
theorem l_PenReads (d0 d1 : DataW H) (xs : List AV) (hf : FitAll T0 9 Try.f4.params.toList [d0, d1] xs) (hk : (DataW.weightsEach Try.prog (Try.f4.params.toList ++ Rows.penReadsSpec.plain.varTypes Try.prog) ([d0, d1] ++ [])).all (· ≤ reachBytes) = true) :
    tbl E0 4 xs [] = some ([.bool true], []) := by
  obtain ⟨x, ys, y, zs, rfl, h1, h2, h3, h4⟩ := fitAll_two (t := 25) (u := 22) hf
  obtain ⟨ds, sp, b, hd, rfl, hlb⟩ := fit_bytes h1
  obtain ⟨ds2, sp2, l, hd2, rfl, hq⟩ := fit_acts h3
  have e1 := elem_one (by kernel_rfl) h2
  injection e1 with e1
  subst e1
  have e2 := elem_one (by kernel_rfl) h4
  injection e2 with e2
  subst e2
  have hw : (DataW.weightsEach Try.prog ([25, 22] ++ []) ([d0, d1] ++ [])).all (· ≤ reachBytes) = true := hk
  simp only [List.cons_append, List.nil_append, DataW.weightsEach, List.all_append, List.append_nil, Bool.and_eq_true] at hw
  have g1 := slice_len Try.underlying25 (by kernel_rfl) hd hw.1
  have g2 := slice_len Try.underlying22 (by kernel_rfl) hd2 hw.2
  have hr : reachBytes ≤ 140737488355328 := by decide
  refine c_PenReads b l ?_ ?_
  · rw [← hq.length]; omega
  · rw [← hlb]; omega
end Go.Proofs.Ythehhlaomiifnaa.V
