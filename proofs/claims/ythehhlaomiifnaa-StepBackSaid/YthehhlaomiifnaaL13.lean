/- The laws of schemas, over what a row reads. -/
import Derived.Test.YthehhlaomiifnaaC11
import Derived.Test.YthehhlaomiifnaaBh
import Derived.Test.YthehhlaomiifnaaRows
set_option linter.unusedVariables false
set_option linter.unusedSimpArgs false
namespace Go.Proofs.Ythehhlaomiifnaa.V
open Go
variable {H : Type}
theorem each_all {α β : Type} {q : β → Prop} : ∀ {l : List α} {r : List β}, Each (fun _ b => q b) l r → ∀ {b : β}, b ∈ r → q b := by
  intro l r h b hb
  obtain ⟨i, hi, e⟩ := List.mem_iff_getElem.1 hb
  obtain ⟨a, _, h2⟩ := h.get i b (by rw [← e]; exact List.getElem?_eq_getElem hi)
  exact h2
theorem fit_fld {n : Nat} {d : DataW H} {xs : List AV} (hf : Fit T0 (n + 2) 73 d xs) : ∃ f : Fld, f.ok ∧ xs = fldC f := by
  obtain ⟨ds, yss, rfl, rfl, h⟩ := fit_struct (fs := [(0, 3), (1, 3), (2, 3), (3, 3), (4, 3)]) (by kernel_rfl) hf
  obtain ⟨d0, ds, y0, yss, rfl, rfl, h0, h⟩ := each3_cons h
  obtain ⟨d1, ds, y1, yss, rfl, rfl, h1, h⟩ := each3_cons h
  obtain ⟨d2, ds, y2, yss, rfl, rfl, h2, h⟩ := each3_cons h
  obtain ⟨d3, ds, y3, yss, rfl, rfl, h3, h⟩ := each3_cons h
  obtain ⟨d4, ds, y4, yss, rfl, rfl, h4, h⟩ := each3_cons h
  obtain ⟨rfl, rfl⟩ := each3_nil h
  obtain ⟨a, ha, rfl, rfl⟩ := fit_i64 (by kernel_rfl) h0
  obtain ⟨b, hb, rfl, rfl⟩ := fit_i64 (by kernel_rfl) h1
  obtain ⟨c, hc, rfl, rfl⟩ := fit_i64 (by kernel_rfl) h2
  obtain ⟨e, he, rfl, rfl⟩ := fit_i64 (by kernel_rfl) h3
  obtain ⟨g, hg, rfl, rfl⟩ := fit_i64 (by kernel_rfl) h4
  exact ⟨⟨a, b, c, e, g⟩, ⟨ha, hb, hc, he, hg⟩, rfl⟩
theorem fit_flds {n : Nat} {d : DataW H} {xs : List AV} (hf : Fit T0 (n + 3) 53 d xs) : ∃ l : List Fld, (∀ f ∈ l, f.ok) ∧ xs = [fldsV l] := by
  obtain ⟨ds, sp, l, hd, rfl, h⟩ := fit_slice (e := 73) (by kernel_rfl) hf
  obtain ⟨cs, rfl, hq⟩ := each_map (f := fldV) (Q := fun d f => f.ok) (fun d x ⟨ys, h1, h2⟩ => by
    obtain ⟨f, hf, rfl⟩ := fit_fld h1
    exact ⟨f, elem_agg (by kernel_rfl) h2, hf⟩) h
  exact ⟨cs, fun f hf => each_all hq hf, rfl⟩
theorem fit_frm {n : Nat} {d : DataW H} {xs : List AV} (hf : Fit T0 (n + 4) 55 d xs) : ∃ f : Frm, f.ok ∧ xs = [.int .i64 f.id, fldsV f.fields] := by
  obtain ⟨ds, yss, rfl, rfl, h⟩ := fit_struct (fs := [(0, 3), (1, 53)]) (by kernel_rfl) hf
  obtain ⟨d0, ds, y0, yss, rfl, rfl, h0, h⟩ := each3_cons h
  obtain ⟨d1, ds, y1, yss, rfl, rfl, h1, h⟩ := each3_cons h
  obtain ⟨rfl, rfl⟩ := each3_nil h
  obtain ⟨a, ha, rfl, rfl⟩ := fit_i64 (by kernel_rfl) h0
  obtain ⟨l, hl, rfl⟩ := fit_flds h1
  exact ⟨⟨a, l⟩, ⟨ha, hl⟩, rfl⟩
theorem fit_frms {n : Nat} {d : DataW H} {xs : List AV} (hf : Fit T0 (n + 5) 49 d xs) : ∃ l : List Frm, (∀ f ∈ l, f.ok) ∧ xs = [frmsV l] := by
  obtain ⟨ds, sp, l, hd, rfl, h⟩ := fit_slice (e := 55) (by kernel_rfl) hf
  obtain ⟨cs, rfl, hq⟩ := each_map (f := frmV) (Q := fun d f => f.ok) (fun d x ⟨ys, h1, h2⟩ => by
    obtain ⟨f, hf, rfl⟩ := fit_frm h1
    exact ⟨f, elem_agg (by kernel_rfl) h2, hf⟩) h
  exact ⟨cs, fun f hf => each_all hq hf, rfl⟩
theorem fit_sch {n : Nat} {d : DataW H} {xs : List AV} (hf : Fit T0 (n + 6) 51 d xs) : ∃ s : Sch, s.ok ∧ xs = [.int .i64 s.ver, frmsV s.forms] := by
  obtain ⟨ds, yss, rfl, rfl, h⟩ := fit_struct (fs := [(0, 3), (1, 49)]) (by kernel_rfl) hf
  obtain ⟨d0, ds, y0, yss, rfl, rfl, h0, h⟩ := each3_cons h
  obtain ⟨d1, ds, y1, yss, rfl, rfl, h1, h⟩ := each3_cons h
  obtain ⟨rfl, rfl⟩ := each3_nil h
  obtain ⟨a, ha, rfl, rfl⟩ := fit_i64 (by kernel_rfl) h0
  obtain ⟨l, hl, rfl⟩ := fit_frms h1
  exact ⟨⟨a, l⟩, ⟨ha, hl⟩, rfl⟩
theorem l_SchemaRight (d0 d1 d2 : DataW H) (xs : List AV) (hf : FitAll T0 9 Try.f7.params.toList [d0, d1, d2] xs) (hk : (DataW.weightsEach Try.prog (Try.f7.params.toList ++ Rows.schemaRightSpec.plain.varTypes Try.prog) ([d0, d1, d2] ++ [])).all (· ≤ reachBytes) = true) :
    tbl E0 7 xs [] = some ([.bool true], []) := by
  have hf' : FitAll T0 9 [51, 51, 3] [d0, d1, d2] xs := hf
  obtain ⟨d', ds, x, xs', e1, rfl, ⟨ys, h0, h1⟩, h⟩ := each3_cons hf'
  injection e1 with e1 e2; subst e1; subst e2
  obtain ⟨d', ds, y, xs', e1, rfl, ⟨zs, h2, h3⟩, h⟩ := each3_cons h
  injection e1 with e1 e2; subst e1; subst e2
  obtain ⟨d', ds, z, xs', e1, rfl, ⟨us, h4, h5⟩, h⟩ := each3_cons h
  injection e1 with e1 e2; subst e1; subst e2
  obtain ⟨-, rfl⟩ := each3_nil h
  obtain ⟨s, hs, rfl⟩ := fit_sch h0
  obtain ⟨t, ht, rfl⟩ := fit_sch h2
  obtain ⟨i, hi, rfl, rfl⟩ := fit_i64 (by kernel_rfl) h4
  have q1 := elem_agg (by kernel_rfl) h1
  have q2 := elem_agg (by kernel_rfl) h3
  have q3 := elem_one (by kernel_rfl) h5
  injection q3 with q3
  subst q1; subst q2; subst q3
  exact c_SchemaRight s t i
end Go.Proofs.Ythehhlaomiifnaa.V
