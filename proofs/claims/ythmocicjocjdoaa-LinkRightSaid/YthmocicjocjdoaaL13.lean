/- The laws of the pen, over what a row reads. -/
import Derived.Test.YthmocicjocjdoaaC6
import Derived.Test.YthmocicjocjdoaaBh
import Derived.Test.YthmocicjocjdoaaRows
import Derived.Test.YthmocicjocjdoaaC11
set_option linter.unusedVariables false
set_option linter.unusedSimpArgs false
namespace Go.Proofs.Ythmocicjocjdoaa.V
open Go
variable {H : Type}
theorem fitAll_one {t : Nat} {d : DataW H} {m : Nat} {xs : List AV} (h : FitAll T0 m [t] [d] xs) : ∃ x ys, xs = [x] ∧ Fit T0 m t d ys ∧ ElemOf (T0.ty t) x ys := by
  obtain ⟨d', ds, x, xs', e1, rfl, ⟨ys, h0, h1⟩, h⟩ := each3_cons h
  obtain ⟨rfl, rfl⟩ := each3_nil h
  cases e1
  exact ⟨x, ys, rfl, h0, h1⟩
def actD (a : Int × Int × List UInt8) : DataW H := .agg [.lit (.int .i64 a.1), .lit (.int .i64 a.2.1), .lit (.string a.2.2)]
theorem bulk_acts : ∀ {ds : List (DataW H)} {l : List (Int × Int × List UInt8)}, Each (fun d a => d = actD a ∧ actOK a) ds l → (∀ a, a ∈ l → actOK a) ∧ actSz l ≤ 10 * Rows.uptoBulkAll ds ∧ l.length ≤ Rows.uptoBulkAll ds
  | [], [], _ => ⟨fun a h => (by cases h), by simp [actSz], by simp⟩
  | d :: ds, a :: l, h => by
    obtain ⟨h1, h2, h3⟩ := bulk_acts h.2
    obtain ⟨rfl, h4⟩ := h.1
    refine ⟨fun x hx => ?_, ?_, ?_⟩
    · rcases List.mem_cons.1 hx with rfl | hx
      · exact h4
      · exact h1 x hx
    · have e : actSz (a :: l) = 10 + a.2.2.length + actSz l := by simp [actSz]
      rw [e]
      simp only [Rows.uptoBulkAll, actD, Rows.uptoBulk]
      omega
    · simp only [Rows.uptoBulkAll, actD, Rows.uptoBulk, List.length_cons]
      omega
  | [], _ :: _, h => h.elim
  | _ :: _, [], h => h.elim
theorem fit_bytes {n : Nat} {d : DataW H} {xs : List AV} (hf : Fit T0 (n + 2) 39 d xs) : ∃ (ds sp : List (DataW H)) (b : List UInt8), (d = .slice ds sp ∨ (d = .nil ∧ ds = [])) ∧ xs = [.lst .ro 1 (encB b)] ∧ ds.length = b.length := by
  obtain ⟨ds, sp, l, hd, rfl, h⟩ := fit_slice (e := 5) (by kernel_rfl) hf
  obtain ⟨cs, rfl, hq⟩ := each_map (f := fun c : UInt8 => AV.int .u8 (c.toNat : Int)) (Q := fun d c => d = .lit (.int .u8 (c.toNat : Int))) (fun d x ⟨ys, h1, h2⟩ => by
    obtain ⟨c, rfl, rfl⟩ := fit_u8 (by kernel_rfl) h1
    have := elem_one (by kernel_rfl) h2
    injection this with this
    exact ⟨c, this.symm, rfl⟩) h
  exact ⟨ds, sp, cs, hd, rfl, hq.length⟩
theorem upto_bound {ds : List (DataW H)} (hk : Rows.uptoSmall H ds = true) : Rows.uptoBulkAll ds ≤ 1048576 := of_decide_eq_true hk
theorem acts_small {d0 : DataW H} {ds sp : List (DataW H)} (hk : Rows.uptoSmall H ([d0] ++ []) = true) (hd : d0 = .slice ds sp ∨ (d0 = .nil ∧ ds = [])) : Rows.uptoBulkAll ds ≤ 1048576 := by
  have hb := upto_bound hk
  rcases hd with rfl | ⟨rfl, rfl⟩
  · simp only [List.append_nil, Rows.uptoBulkAll, Rows.uptoBulk] at hb; omega
  · simp [Rows.uptoBulkAll]
theorem fitAll_two {t u : Nat} {d e : DataW H} {m : Nat} {xs : List AV} (h : FitAll T0 m [t, u] [d, e] xs) : ∃ x ys y zs, xs = [x, y] ∧ Fit T0 m t d ys ∧ ElemOf (T0.ty t) x ys ∧ Fit T0 m u e zs ∧ ElemOf (T0.ty u) y zs := by
  obtain ⟨d', ds, x, xs', e1, rfl, ⟨ys, h0, h1⟩, h⟩ := each3_cons h
  cases e1
  obtain ⟨d', ds, y, xs', e1, rfl, ⟨zs, h2, h3⟩, h⟩ := each3_cons h
  obtain ⟨rfl, rfl⟩ := each3_nil h
  cases e1
  exact ⟨x, ys, y, zs, rfl, h0, h1, h2, h3⟩
theorem slice_len {P : Program} {t e : Nat} {ds sp d : _} (hu : P.underlying t = some (.slice e)) (hb : Nat.blt 0 (P.bytesOf e) = true) (hd : d = DataW.slice ds sp ∨ (d = .nil ∧ ds = ([] : List (DataW H)))) (hk : (d.weights P t).all (· ≤ reachBytes) = true) : ds.length ≤ reachBytes := by
  rcases hd with rfl | ⟨rfl, rfl⟩
  · simp only [DataW.weights, hu, List.all_cons, Bool.and_eq_true, decide_eq_true_eq] at hk
    rw [Nat.blt_eq] at hb
    have h1 : (ds.length + sp.length) * 1 ≤ (ds.length + sp.length) * P.bytesOf e := Nat.mul_le_mul_left _ hb
    omega
  · simp
end Go.Proofs.Ythmocicjocjdoaa.V
namespace Go.Proofs.Ythmocicjocjdoaa.V
open Go
variable {H : Type}
theorem each_all {α β : Type} {q : β → Prop} : ∀ {l : List α} {r : List β}, Each (fun _ b => q b) l r → ∀ {b : β}, b ∈ r → q b := by
  intro l r h b hb
  obtain ⟨i, hi, e⟩ := List.mem_iff_getElem.1 hb
  obtain ⟨a, _, h2⟩ := h.get i b (by rw [← e]; exact List.getElem?_eq_getElem hi)
  exact h2
theorem fit_fld {n : Nat} {d : DataW H} {xs : List AV} (hf : Fit T0 (n + 2) 51 d xs) : ∃ f : Fld, f.ok ∧ xs = fldC f := by
  obtain ⟨ds, yss, rfl, rfl, h⟩ := fit_struct (fs := [(0, 3), (1, 3), (2, 3), (3, 3), (4, 3)]) (by kernel_rfl) hf
  obtain ⟨d0, ds, y0, yss, rfl, rfl, h0, h⟩ := each3_cons h
  obtain ⟨d1, ds, y1, yss, rfl, rfl, h1, h⟩ := each3_cons h
  obtain ⟨d2, ds, y2, yss, rfl, rfl, h2, h⟩ := each3_cons h
  obtain ⟨d3, ds, y3, yss, rfl, rfl, h3, h⟩ := each3_cons h
  obtain ⟨d4, ds, y4, yss, rfl, rfl, h4, h⟩ := each3_cons h
  obtain ⟨rfl, rfl⟩ := each3_nil h
  obtain ⟨a, ha, rfl, rfl⟩ := fit_i64 (by kernel_rfl) h0
  obtain ⟨b, hb, rfl, rfl⟩ := fit_i64 (by kernel_rfl) h1
  obtain ⟨c, hc, rfl, rfl⟩ := fit_i64 (by kernel_rfl) h2
  obtain ⟨e, he, rfl, rfl⟩ := fit_i64 (by kernel_rfl) h3
  obtain ⟨g, hg, rfl, rfl⟩ := fit_i64 (by kernel_rfl) h4
  exact ⟨⟨a, b, c, e, g⟩, ⟨ha, hb, hc, he, hg⟩, rfl⟩
theorem fit_flds {n : Nat} {d : DataW H} {xs : List AV} (hf : Fit T0 (n + 3) 55 d xs) : ∃ l : List Fld, (∀ f ∈ l, f.ok) ∧ xs = [fldsV l] := by
  obtain ⟨ds, sp, l, hd, rfl, h⟩ := fit_slice (e := 51) (by kernel_rfl) hf
  obtain ⟨cs, rfl, hq⟩ := each_map (f := fldV) (Q := fun d f => f.ok) (fun d x ⟨ys, h1, h2⟩ => by
    obtain ⟨f, hf, rfl⟩ := fit_fld h1
    exact ⟨f, elem_agg (by kernel_rfl) h2, hf⟩) h
  exact ⟨cs, fun f hf => each_all hq hf, rfl⟩
theorem fit_frm {n : Nat} {d : DataW H} {xs : List AV} (hf : Fit T0 (n + 4) 68 d xs) : ∃ f : Frm, f.ok ∧ xs = [.int .i64 f.id, fldsV f.fields] := by
  obtain ⟨ds, yss, rfl, rfl, h⟩ := fit_struct (fs := [(0, 3), (1, 55)]) (by kernel_rfl) hf
  obtain ⟨d0, ds, y0, yss, rfl, rfl, h0, h⟩ := each3_cons h
  obtain ⟨d1, ds, y1, yss, rfl, rfl, h1, h⟩ := each3_cons h
  obtain ⟨rfl, rfl⟩ := each3_nil h
  obtain ⟨a, ha, rfl, rfl⟩ := fit_i64 (by kernel_rfl) h0
  obtain ⟨l, hl, rfl⟩ := fit_flds h1
  exact ⟨⟨a, l⟩, ⟨ha, hl⟩, rfl⟩
theorem fit_frms {n : Nat} {d : DataW H} {xs : List AV} (hf : Fit T0 (n + 5) 22 d xs) : ∃ l : List Frm, (∀ f ∈ l, f.ok) ∧ xs = [frmsV l] := by
  obtain ⟨ds, sp, l, hd, rfl, h⟩ := fit_slice (e := 68) (by kernel_rfl) hf
  obtain ⟨cs, rfl, hq⟩ := each_map (f := frmV) (Q := fun d f => f.ok) (fun d x ⟨ys, h1, h2⟩ => by
    obtain ⟨f, hf, rfl⟩ := fit_frm h1
    exact ⟨f, elem_agg (by kernel_rfl) h2, hf⟩) h
  exact ⟨cs, fun f hf => each_all hq hf, rfl⟩
theorem fit_sch {n : Nat} {d : DataW H} {xs : List AV} (hf : Fit T0 (n + 6) 24 d xs) : ∃ s : Sch, s.ok ∧ xs = [.int .i64 s.ver, frmsV s.forms] := by
  obtain ⟨ds, yss, rfl, rfl, h⟩ := fit_struct (fs := [(0, 3), (1, 22)]) (by kernel_rfl) hf
  obtain ⟨d0, ds, y0, yss, rfl, rfl, h0, h⟩ := each3_cons h
  obtain ⟨d1, ds, y1, yss, rfl, rfl, h1, h⟩ := each3_cons h
  obtain ⟨rfl, rfl⟩ := each3_nil h
  obtain ⟨a, ha, rfl, rfl⟩ := fit_i64 (by kernel_rfl) h0
  obtain ⟨l, hl, rfl⟩ := fit_frms h1
  exact ⟨⟨a, l⟩, ⟨ha, hl⟩, rfl⟩
end Go.Proofs.Ythmocicjocjdoaa.V
