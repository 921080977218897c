/- Part 2 of the proof that: What goes on is of its form in what comes of the schema, and goes back, with what was lost, as it was; what is gone is regained. -/
import Derived.Lib.ConvBytes
import Derived.OrdersHeld
import Derived.LoopN
import Derived.Test.YtgkiakemfcbgiaaGreatVa
set_option linter.unusedVariables false
set_option linter.unusedSimpArgs false
namespace Go.Proofs.YtgkiakemfcbgiaaGreat
open Go
namespace V
variable {P : Program} {T : Tab} {M : Meaning} {F : Fr} {E : E3} {objs : Os} {cl : Cl} {w : World}
def Does (P : Program) (F : Fr) (E : E3) (ρ : Operand → Value) (o : Oper) (w : World) (k : AV → Os → Cl → Prop) : Prop :=
  ∃ E' x v objs' cl' w', k x objs' cl' ∧ E.le E' ∧ Rep E' x v ∧ WI F E' objs' cl' w' ∧
    ((execOp ρ o).run P w = .ok (.value v) w' ∨ ((execOp ρ o).run P w = .ok .skip w' ∧ v = undef))
theorem zb8 (hT : TabOK P T) {t : Nat} (hk : (T.ty t).known = true) (hz : (T.ty t).zero.isEmpty = false) :
    ∃ i z, P.info? t = some i ∧ i.size = (T.ty t).size ∧ i.bytes = (T.ty t).bytes ∧ i.zero = some z ∧ z.cells.size = i.size ∧ (∀ E, RepL E (T.ty t).zero z.cells.toList) ∧ ((T.ty t).isAgg = true → ∃ cs, z = .agg cs) ∧ ((T.ty t).isAgg = false → (T.ty t).size = 1 ∧ z.oneCell' = true) := by
  obtain ⟨i, h1, h2, h3, h4⟩ := (hT t).info hk; obtain ⟨z, h5, h6, h7, h8, h9⟩ := h4 hz
  exact ⟨i, z, h1, h2, h3, h5, by rw [h6, h2], h9, h7, h8⟩
theorem zs2 {us : List Value} (h : RepT E [] us) : us = [] := by simpa [RepT] using h
theorem z9e {β : Type} {f : Nat → Option β} {d : Nat} {x : Prop} : fresh (PA M) f d x ↔ f d = none ∧ x := by
  unfold fresh; cases f d <;> simp
theorem z23 {f : Cl} {d : Nm} {x : Prop} : freshN (PA M) f d x ↔ f d = none ∧ x := by
  unfold freshN; cases f d <;> simp
theorem zl1 (hT : TabOK P T) (hI : WI F E objs cl w) {ρ : Operand → Value} {dst : Option Tmp} {t ty : TypeId} {pos : String} {after : Array Edge} {gd : Option (Nat × Bool)} {d : Nat} {k : AV → Os → Cl → Prop}
    (hk : (T.ty t).known = true) (hz : (T.ty t).zero.isEmpty = false) (hd : objs (ob d) = none) (h : k (.ref (ob d) 0) (upd objs (ob d) (.live (T.ty t).zero)) cl) :
    Does P F E ρ ⟨dst, .alloc t, ty, pos, after, gd⟩ w k := by
  obtain ⟨i, z, h1, h2, h3, h4, h5, h6, _, _⟩ := zb8 hT hk hz
  obtain ⟨hle, hW⟩ := hI.new_obj (t := t) (by unfold ob; omega) hd (h6 E)
  refine ⟨_, _, .pointer (some ⟨w.heap.size, 0, none⟩), _, _, _, h, hle, ?_, hW, .inl ?_⟩
  · simp only [Rep]; exact ⟨w.heap.size, zk _ _ _, rfl⟩
  · simp [execOp, Instr.alloc, zeroValue, typeInfo, h1, h4, newVar, newRow, Value.cells]
theorem zp3 (hI : WI F E objs cl w) {ρ : Operand → Value} {dst : Option Tmp} {t ty : TypeId} {pos : String} {after : Array Edge} {gd : Option (Nat × Bool)} {d : Nat} {k : AV → Os → Cl → Prop} {a : Operand} {x : AV}
    (hx : Rep E x (ρ a)) (h : cellsAs (PA M) (T.ty t) x fun cs => fresh (PA M) objs (ob d) (k (.ref (ob d) 0) (upd objs (ob d) (.live cs)) cl)) :
    Does P F E ρ ⟨dst, .box t a, ty, pos, after, gd⟩ w k := by
  obtain ⟨cs, h, hk, hr, hs, _⟩ := z37 hx h; obtain ⟨hd, h⟩ := z9e.1 h
  obtain ⟨hle, hW⟩ := hI.new_obj (t := t) (by unfold ob; omega) hd hr
  refine ⟨_, _, .pointer (some ⟨w.heap.size, 0, none⟩), _, _, _, h, hle, ?_, hW, .inl ?_⟩
  · simp only [Rep]; exact ⟨w.heap.size, zk _ _ _, rfl⟩
  · simp [execOp, Instr.box, newVar, newRow]
theorem zl2 (hT : TabOK P T) (hI : WI F E objs cl w) {ρ : Operand → Value} {dst : Option Tmp} {t ty : TypeId} {pos : String} {after : Array Edge} {gd : Option (Nat × Bool)} {k : AV → Os → Cl → Prop} {a b : Operand} {ob i : Nat} {x : AV} {l : List AV}
    (ha : Rep E (.ref ob i) (ρ a)) (hx : Rep E x (ρ b)) (ho : objs ob = some (.live l))
    (h : cellsAs (PA M) (T.ty t) x fun cs => (PA M).chk (Nat.ble (i + cs.length) l.length) (k (.tup []) (upd objs ob (.live (setAt l i cs))) cl)) :
    Does P F E ρ ⟨dst, .store t a b, ty, pos, after, gd⟩ w k := by
  obtain ⟨cs, h, hk, hr, hs, hln, _⟩ := z37 hx h; simp only [z1f, Nat.ble_eq] at h; obtain ⟨hfit, h⟩ := h; simp only [Rep] at ha; obtain ⟨g, hg, ha⟩ := ha; obtain ⟨g', t', vs, h1, h2, h3, h4, h5⟩ := hI.live ob l ho
  rw [hg] at h1; cases h1
  have hvl := h3.length; have hcl := hr.length; have hW := hI.store (cs' := setAt l i cs) (vs := setAt vs i (ρ b).cells.toList) ho hg ⟨_, h2⟩ (z88 h3 hr hfit)
  refine ⟨E, _, undef, _, _, _, h, E3.le.refl E, by simp only [Rep]; exact ⟨[], rfl, by simp [RepT]⟩, hW, .inr ⟨?_, rfl⟩⟩
  have hst := run_storeCells_at P g i t' (ρ b).cells.toList 0 vs.toArray w h2 (by simp at hcl ⊢; omega) (hr.all_one)
  simp only [Nat.add_zero] at hst
  have hse : (storeCells ⟨g, i, none⟩ (ρ b).cells.toList).run P w = .ok () (w.setRow g (setAt vs i (ρ b).cells.toList).toArray) := by
    rw [hst, zi3 _ _ _ (by simp at hcl ⊢; omega)]
  simp [execOp, Instr.storeAt, ha, Instr.sureAddr, storeVar, hT.sizeAt hk, hs, hse]
theorem z5c {k : List AV → Os → Prop} : ∀ (vs : List AV) (us : List Value) (E : E3) (objs : Os), WI F E objs cl w → RepT E vs us → capsV (PA M) vs objs k →
    ∃ E' cs objs', k cs objs' ∧ E.le E' ∧ WI F E' objs' cl w ∧ RepL E' cs us ∧ cs.all AV.flat1 = true
  | [], us, E, objs, hI, hv, h => by
    have := zs2 hv; subst this
    exact ⟨E, [], objs, h, E3.le.refl E, hI, by simp [RepL], rfl⟩
  | v :: vs, us, E, objs, hI, hv, h => by
    simp only [RepT] at hv; obtain ⟨u, r, rfl, h1, h2⟩ := hv; unfold capsV at h
    split at h
    · rename_i o
      split at h
      · rename_i cs ho
        simp only [zb] at h; obtain ⟨hf, h⟩ := h; obtain ⟨b, vs', g1, g2, g3, g4, g5⟩ := hI.freeze ho hf; obtain ⟨E', cs', objs', k1, k2, k3, k4, k5⟩ := z5c vs r _ _ g5 (h2.mono g4) h
        refine ⟨E', _, objs', k1, g4.trans k2, k3, ?_, by rw [List.all_cons, k5]; rfl⟩
        simp only [Rep] at h1; obtain ⟨b', hb', rfl⟩ := h1
        rw [g1] at hb'; cases hb'
        simp only [RepL]; refine ⟨_, _, rfl, rfl, rfl, ?_, k4⟩; simp only [Rep]
        exact ⟨b, 0, rfl, hf, vs', g2.mono k2, fun j hj => by rw [Nat.zero_add]; exact z4i k2.S (z2c hj) (g3 j hj)⟩
      · rename_i cs ho
        obtain ⟨E', cs', objs', k1, k2, k3, k4, k5⟩ := z5c vs r E objs hI h2 h
        refine ⟨E', _, objs', k1, k2, k3, ?_, by rw [List.all_cons, k5]; rfl⟩
        simp only [Rep] at h1; obtain ⟨b', hb', rfl⟩ := h1; obtain ⟨b, vs', g1, g2, g3, g4⟩ := hI.frz o cs ho
        obtain rfl : b = b' := by rw [g1] at hb'; exact Option.some.inj hb'
        simp only [RepL]; refine ⟨_, _, rfl, rfl, rfl, ?_, k4⟩; simp only [Rep]
        exact ⟨b, 0, rfl, g2, vs', g3.mono k2, fun j hj => by rw [Nat.zero_add]; exact z4i k2.S (z2c hj) (g4 j hj)⟩
      · cases h
    · rename_i cs
      obtain ⟨E', cs', objs', k1, k2, k3, k4, k5⟩ := z5c vs r E objs hI h2 h
      refine ⟨E', _, objs', k1, k2, k3, ?_, by rw [List.all_cons, k5]; rfl⟩
      have h3 := h1.mono k2; simp only [RepL]; refine ⟨u, r, rfl, rfl, ?_, h3, k4⟩; exact (z2n h3 rfl).1
    · cases h
theorem z89 {w w' : Nat} {l : List AV} {v : Value} (h : Rep E (.lst .nil w l) v) : Rep E (.lst .ro w' l) v := by
  simp only [Rep] at h ⊢; obtain ⟨a, len, cap, h1, h2, h3, h4, _, h6, _⟩ := h; obtain ⟨_, _, rfl⟩ := h6 trivial
  exact ⟨a, len, cap, h1, h2, h3, h4, fun h => absurd rfl h, by simp, by simp⟩
theorem zg8 {sh : Sh} {x : AV} {v : Value} (h : Rep E x v) : Rep E (demS1 sh x) v := by
  unfold demS1
  split
  · exact z89 h
  · exact z89 h
  · exact zi4 h
theorem zp4 {sh : Sh} {x : AV} (h : x.one = true) : (demS1 sh x).one = true := by
  unfold demS1
  split <;> first | rfl | exact zi5 h
theorem zdi : ∀ {shs : List Sh} {l : List AV} {vs : List Value}, RepL E l vs → RepL E (demSL shs l) vs
  | [], l, vs, h => by simpa [demSL] using z5n h
  | sh :: shs, [], vs, h => by simpa [demSL] using h
  | sh :: shs, x :: l, vs, h => by
    simp only [RepL, demSL] at h ⊢; obtain ⟨v, r, rfl, h1, h2, h3, h4⟩ := h; exact ⟨v, r, rfl, zp4 h1, h2, zg8 h3, zdi h4⟩
theorem z3z {sh : Sh} {x : AV} {v : Value} (h : Rep E x v) : Rep E (demS sh x) v := by
  unfold demS
  split
  · rename_i l
    simp only [Rep] at h; obtain ⟨vs, rfl, h⟩ := h
    split
    · simp only [Rep]; exact ⟨vs, rfl, zdi h⟩
    · simp only [Rep]; exact ⟨vs, rfl, z5n h⟩
  · exact zg8 h
theorem SrcE.set {sz : Nat} {r : List AV} {ns : List Value} (h : SrcE E sz r ns) {i : Nat} (hi : i < r.length) {x : AV} {u : Value} (hx : x.flat = true) (hr : Rep E x u) (hs : u.cells.size = sz) :
    SrcE E sz (r.set i x) (setAt ns (i * sz) u.cells.toList) := by
  have hfit : i * sz + u.cells.toList.length ≤ ns.length := by
    rw [h.size]; have : (i + 1) * sz ≤ r.length * sz := Nat.mul_le_mul_right _ hi; rw [Nat.add_mul] at this; simp [hs]; omega
  refine ⟨by simp [z27, h.size], fun k y hy => ?_⟩
  rw [List.getElem?_set] at hy
  split at hy
  · rename_i e
    subst e; injection hy with hy; subst hy; refine ⟨hx, u, hr, hs, fun j hj => ?_⟩
    rw [z1u _ _ _ _ hfit, if_pos ⟨by omega, by simp [hs]; omega⟩]
    simp
  · rename_i hne
    obtain ⟨h1, v, h2, h3, h4⟩ := h.get k y hy; refine ⟨h1, v, h2, h3, fun j hj => ?_⟩; rw [z1u _ _ _ _ hfit, if_neg, h4 j hj]; simp only [Array.length_toList, hs]; rintro ⟨h5, h6⟩
    rcases Nat.lt_or_gt_of_ne hne with h7 | h7
    · have : (i + 1) * sz ≤ k * sz := Nat.mul_le_mul_right _ h7
      rw [Nat.add_mul] at this; omega
    · have : (k + 1) * sz ≤ i * sz := Nat.mul_le_mul_right _ h7
      rw [Nat.add_mul] at this; omega
theorem SrcR.set {sz : Nat} {r : List AV} {ns : List Value} (h : SrcR E sz r ns) {i : Nat} (hi : i < r.length) {x : AV} {u : Value} (hx : x.flat = true ∨ holdsRef x = true) (hr : Rep E x u) (hs : u.cells.size = sz) :
    SrcR E sz (r.set i x) (setAt ns (i * sz) u.cells.toList) := by
  have hfit : i * sz + u.cells.toList.length ≤ ns.length := by
    rw [h.size]; have : (i + 1) * sz ≤ r.length * sz := Nat.mul_le_mul_right _ hi; rw [Nat.add_mul] at this; simp [hs]; omega
  refine ⟨by simp [z27, h.size], fun k y hy => ?_⟩
  rw [List.getElem?_set] at hy
  split at hy
  · rename_i e
    subst e; injection hy with hy; subst hy; refine ⟨hx, u, hr, hs, fun j hj => ?_⟩
    rw [z1u _ _ _ _ hfit, if_pos ⟨by omega, by simp [hs]; omega⟩]
    simp
  · rename_i hne
    obtain ⟨h1, v, h2, h3, h4⟩ := h.get k y hy; refine ⟨h1, v, h2, h3, fun j hj => ?_⟩; rw [z1u _ _ _ _ hfit, if_neg, h4 j hj]; simp only [Array.length_toList, hs]; rintro ⟨h5, h6⟩
    rcases Nat.lt_or_gt_of_ne hne with h7 | h7
    · have : (i + 1) * sz ≤ k * sz := Nat.mul_le_mul_right _ h7
      rw [Nat.add_mul] at this; omega
    · have : (k + 1) * sz ≤ i * sz := Nat.mul_le_mul_right _ h7
      rw [Nat.add_mul] at this; omega
theorem zho {sh : Sh} {v : AV} (h : holdsRef v = true) : holdsRef (demS sh v) = true := by
  cases v <;> first | (cases h; done) | skip
  cases sh <;> rfl
theorem zs3 {td : TD} {isz : Nat} {z : Value} (z2 : isz = td.size) (z5 : z.cells.size = isz) (z6 : ∀ E, RepL E td.zero z.cells.toList) (z7 : td.isAgg = true → ∃ cs, z = .agg cs) (z8 : td.isAgg = false → td.size = 1 ∧ z.oneCell' = true) : Rep E (zeroOf td) z := by
  unfold zeroOf
  cases ha : td.isAgg with
  | true =>
    obtain ⟨cs, rfl⟩ := z7 ha; simp only [cond_true, Rep]
    exact ⟨cs.toList, by simp, by simpa [Value.cells] using z6 E⟩
  | false =>
    obtain ⟨hs1, hzo⟩ := z8 ha; have hl := (z6 E).length
    have hone : td.zero.length = 1 := by rw [hl]; simp [z5, z2, hs1]
    obtain ⟨x0, hx0⟩ := List.length_eq_one_iff.1 hone; have hr := z6 E; rw [hx0] at hr ⊢; simp only [RepL] at hr; obtain ⟨v, r, hv0, o1, o2, o3, rfl⟩ := hr; simp only [cond_false, List.headD_cons]
    have hzc : z.cells = #[z] := by cases z <;> simp_all [Value.cells, Value.oneCell']
    rw [hzc] at hv0; injection hv0 with hv0 _; rw [hv0]; exact o3
theorem z9f {uq : Bool} {td : TD} {ρ : Operand → Value} {k : List AV → Prop} : ∀ (ps : List (Nat × Operand)) (vs z : List AV) (zc : Array Value), SrcR E td.size z zc.toList → RepT E vs (ps.map fun p => ρ p.2) → elemsV (PA M) uq td z ps vs k →
    ∃ z' zc', k z' ∧ SrcR E td.size z' zc'.toList ∧ (uq = false → z.all AV.flat = true → z'.all AV.flat = true) ∧ z'.length = z.length ∧ Instr.fill (fun i => some (i * td.size, td.size)) zc (ps.map fun p => (p.1, ρ p.2)) = some zc'
  | [], vs, z, zc, hz, hv, h => by
    cases vs with
    | nil => exact ⟨z, zc, h, hz, fun _ h => h, rfl, rfl⟩
    | cons v vs => simp [RepT] at hv
  | (i, x) :: ps, vs, z, zc, hz, hv, h => by
    cases vs with
    | nil => simp [RepT] at hv
    | cons v vs =>
      simp only [List.map_cons, RepT] at hv; obtain ⟨u, r, he, hv1, hv2⟩ := hv; injection he with he1 he2
      subst he1; subst he2; simp only [elemsV, zb, Bool.and_eq_true, Bool.or_eq_true, Nat.blt_eq] at h; obtain ⟨⟨hf, hi⟩, h⟩ := h; obtain ⟨cs, h, hk, hcs, hsz, hln, _⟩ := z37 (z3z (sh := td.sh) hv1) h; have hset := hz.set hi (hf.imp id fun h => zho h.2) (z3z (sh := td.sh) hv1) hsz
      obtain ⟨z', zc', h1, h2, hff, h3, h4⟩ := z9f ps vs _ ((setAt zc.toList (i * td.size) (ρ x).cells.toList).toArray) (by simpa using hset) hv2 h
      refine ⟨z', zc', h1, h2, fun hu hzf => hff hu ?_, by simpa using h3, ?_⟩
      · rw [List.all_eq_true] at hzf ⊢
        intro y hy
        rcases List.mem_or_eq_of_mem_set hy with hy | rfl
        · exact hzf y hy
        · rcases hf with hf | hf
          · exact hf
          · rw [hu] at hf; cases hf.1
      simp only [List.map_cons, Instr.fill]
      have hfit : i * td.size + (ρ x).cells.size ≤ zc.size := by
        have h5 := hz.size; have : (i + 1) * td.size ≤ z.length * td.size := Nat.mul_le_mul_right _ hi; rw [Nat.add_mul] at this; simp at h5; omega
      have hb' : ¬ (((ρ x).cells.size ≠ td.size || decide (i * td.size + (ρ x).cells.size > zc.size)) = true) := by
        simp [hsz]; omega
      have hf := z7a (ρ x).cells.toList (i * td.size) 0 zc; simp only [Nat.add_zero] at hf
      have hf' : (Array.foldl (fun cs (y : Value × Nat) => cs.setIfInBounds (i * td.size + y.2) y.1) zc (ρ x).cells.zipIdx) = (setAt zc.toList (i * td.size) (ρ x).cells.toList).toArray := by
        rw [← hf, ← Array.foldl_toList]; simp
      rw [if_neg hb', hf']; exact h4
theorem zc1 (hT : TabOK P T) (hI : WI F E objs cl w) {ρ : Operand → Value} {dst : Option Tmp} {t e ty len : Nat} {pos : String} {after : Array Edge} {gd : Option (Nat × Bool)} {d : Nat} {k : AV → Os → Cl → Prop} {parts : Array (Nat × Operand)} {vs : List AV}
    (ht : (T.ty t).k = .slice e) (hv : RepT E vs (parts.toList.map fun p => ρ p.2)) (hlen0 : 0 < len) (h1 : len * (T.ty e).size ≤ 16777216) (h2 : 0 < (T.ty e).size) (hk : (T.ty e).known = true) (hz : (T.ty e).zero.isEmpty = false) (hzf : (demS (T.ty e).sh (zeroOf (T.ty e))).flat = true)
    (h : elemsV (PA M) (T.uq d) (T.ty e) (List.replicate len (demS (T.ty e).sh (zeroOf (T.ty e)))) parts.toList vs fun es => freshN (PA M) cl (.T d) (bif T.uq d then k (.sq (.T d) (T.ty e).size) objs (updN cl (.T d) (.row es)) else k (.lst (.own (.T d)) (T.ty e).size es) objs (updN cl (.T d) .own))) :
    Does P F E ρ ⟨dst, .buildSlice t len parts, ty, pos, after, gd⟩ w k := by
  obtain ⟨i, z, z1, z2, z3, z4, z5, z6, z7, z8⟩ := zb8 hT hk hz
  have hzr : Rep E (zeroOf (T.ty e)) z := by
    unfold zeroOf
    cases ha : (T.ty e).isAgg with
    | true =>
      obtain ⟨cs, rfl⟩ := z7 ha; simp only [cond_true, Rep]
      exact ⟨cs.toList, by simp, by simpa [Value.cells] using z6 E⟩
    | false =>
      obtain ⟨hs1, hzo⟩ := z8 ha; have hl := (z6 E).length
      have hone : (T.ty e).zero.length = 1 := by rw [hl]; simp [z5, z2, hs1]
      obtain ⟨x0, hx0⟩ := List.length_eq_one_iff.1 hone; have hr := z6 E; rw [hx0] at hr ⊢; simp only [RepL] at hr; obtain ⟨v, r, hv0, o1, o2, o3, rfl⟩ := hr; simp only [cond_false, List.headD_cons]
      have hzc : z.cells = #[z] := by cases z <;> simp_all [Value.cells, Value.oneCell']
      rw [hzc] at hv0; injection hv0 with hv0 _; rw [hv0]; exact o3
  have hz0 : SrcE E (T.ty e).size (List.replicate len (demS (T.ty e).sh (zeroOf (T.ty e)))) ((Array.range (len * (T.ty e).size)).map (fun j => z.cells[j % z.cells.size]!)).toList := by
    refine ⟨by simp, fun j x hx => ?_⟩
    rw [List.getElem?_replicate] at hx
    split at hx
    · rename_i hj
      injection hx with hx; subst hx
      refine ⟨hzf, z, z3z hzr, by rw [z5, z2], fun q hq => ?_⟩
      have hlt : j * (T.ty e).size + q < len * (T.ty e).size := by
        have : (j + 1) * (T.ty e).size ≤ len * (T.ty e).size := Nat.mul_le_mul_right _ hj; rw [Nat.add_mul] at this; omega
      have hm : (j * (T.ty e).size + q) % z.cells.size = q := by
        rw [z5, z2, Nat.add_comm, Nat.add_mul_mod_self_right, Nat.mod_eq_of_lt hq]
      have hql : q < z.cells.size := by rw [z5, z2]; exact hq
      simp [hlt, hm, hql]
    · cases hx
  obtain ⟨es, ec, g1, g2, gf, g3, g4⟩ := z9f parts.toList vs _ _ hz0.toR hv h; obtain ⟨hd, g1⟩ := z23.1 g1
  have hel : es.length = len := by simpa using g3
  have hec : ec.size = len * (T.ty e).size := by have := g2.size; rw [hel] at this; simpa using this
  have hmax : len ≤ maxLen := by
    have : len ≤ len * (T.ty e).size := Nat.le_mul_of_pos_right _ h2
    simp only [maxLen]; omega
  obtain ⟨E', x', cl', g1', q1, q2, q3⟩ : ∃ E' x' cl', k x' objs cl' ∧ E.le E' ∧ Rep E' x' (.slice (some ⟨w.heap.size, 0, none⟩) len len) ∧ WI F E' objs cl' (w.alloc (.cells ec e)) := by
    cases hb : T.uq d with
    | true =>
      rw [hb] at g1
      obtain ⟨E', q1, q2, q3⟩ := hI.new_rowR (q := .T d) (e := e) (N := len) (cap := len) hd h2 (Nat.le_refl _) hmax hec hel (by
        rw [List.take_of_length_le (by simp [hec])]
        exact g2)
      exact ⟨E', _, _, g1, q1, q2, q3⟩
    | false =>
      rw [hb] at g1
      obtain ⟨E', q1, q2, q3⟩ := hI.new_row (q := .T d) (e := e) (N := len) (cap := len) hd h2 (Nat.le_refl _) hmax hec hel (by
        rw [List.take_of_length_le (by simp [hec])]
        exact g2.toE (gf hb (by rw [List.all_eq_true]; intro y hy; rw [(List.mem_replicate.1 hy).2]; exact hzf)))
      exact ⟨E', _, _, g1, q1, q2, q3⟩
  refine ⟨E', _, _, _, _, _, g1', q1, q2, q3, .inl ?_⟩; have hu := hT.slice ht; have hsz := hT.sizeAt hk w
  have hn : ¬ (16777216 < len * (T.ty e).size) := by omega
  have hfill : Instr.fill (fun i => some (i * (T.ty e).size, (T.ty e).size)) ((Array.range (len * (T.ty e).size)).map (fun j => z.cells[j % z.cells.size]!)) (parts.map fun (i, x) => (i, ρ x)).toList = some ec := by
    rw [← g4]; simp
  have h0 : ¬ len * (T.ty e).size = 0 := Nat.ne_of_gt (Nat.mul_pos hlen0 h2); simp only [execOp, Instr.buildSlice, Sem.run_bind, run_underlying hu, Result.andThen_ok, hsz]; simp [hn, h0, zeroValue, typeInfo, z1, z4, newRow] at hfill ⊢; simp [hfill]
theorem zbh (hT : TabOK P T) (hI : WI F E objs cl w) {ρ : Operand → Value} {dst : Option Tmp} {t e ty : Nat} {pos : String} {after : Array Edge} {gd : Option (Nat × Bool)} {d : Nat} {k : AV → Os → Cl → Prop}
    (ht : (T.ty t).k = .slice e) (h2 : 0 < (T.ty e).size) (hk : (T.ty e).known = true) (h : freshN (PA M) cl (.T d) (bif T.uq d then k (.sq (.T d) (T.ty e).size) objs (updN cl (.T d) (.row [])) else k (.lst (.own (.T d)) (T.ty e).size []) objs (updN cl (.T d) .own))) :
    Does P F E ρ ⟨dst, .buildSlice t 0 #[], ty, pos, after, gd⟩ w k := by
  obtain ⟨hd, g1⟩ := z23.1 h
  obtain ⟨E', x', cl', g1', q1, q2, q3⟩ : ∃ E' x' cl', k x' objs cl' ∧ E.le E' ∧ Rep E' x' (.slice (some ⟨w.heap.size, 0, none⟩) 0 0) ∧ WI F E' objs cl' (w.alloc (.cells #[] e)) := by
    cases hb : T.uq d with
    | true =>
      rw [hb] at g1
      obtain ⟨E', q1, q2, q3⟩ := hI.new_rowR (q := .T d) (arr := #[]) (e := e) (N := 0) (cap := 0) (r := []) hd h2 (Nat.le_refl _) (Nat.zero_le _) (by simp) rfl (by simpa using SrcR.nil E (T.ty e).size)
      exact ⟨E', _, _, g1, q1, q2, q3⟩
    | false =>
      rw [hb] at g1
      obtain ⟨E', q1, q2, q3⟩ := hI.new_row (q := .T d) (arr := #[]) (e := e) (N := 0) (cap := 0) (r := []) hd h2 (Nat.le_refl _) (Nat.zero_le _) (by simp) rfl (by simpa using SrcE.nil E (T.ty e).size)
      exact ⟨E', _, _, g1, q1, q2, q3⟩
  refine ⟨E', _, _, _, _, _, g1', q1, q2, q3, .inl ?_⟩; have hu := hT.slice ht; have hsz := hT.sizeAt hk w; simp only [execOp, Instr.buildSlice, Sem.run_bind, run_underlying hu, Result.andThen_ok, hsz]; simp [newRow, Instr.fill]
  congr 2
  exact Array.eq_empty_of_size_eq_zero (by simp)
theorem zl3 (hT : TabOK P T) (hI : WI F E objs cl w) {ρ : Operand → Value} {dst : Option Tmp} {s t ty : Nat} {pos : String} {after : Array Edge} {gd : Option (Nat × Bool)} {a : Operand} {k : AV → Os → Cl → Prop} {b : List UInt8}
    (hx : Rep E (.str b) (ρ a)) (hu : isU8 T t = true) (hk : (T.ty s).known = true) (h : k (.lst .ro 1 (encB b)) objs cl) : Does P F E ρ ⟨dst, .convert s t a, ty, pos, after, gd⟩ w k := by
  obtain ⟨e, _, h1, h2, _⟩ := zg4 hT hu; obtain ⟨ds, hs⟩ := z85 hT hk; simp only [Rep] at hx; obtain ⟨hx, hlen⟩ := hx
  have hsz : (ByteArray.mk b.toArray).size = b.length := by simp [ByteArray.size]
  have hrun := Lib.run_convert_string_bytes w s t e ⟨b.toArray⟩ hs h1 h2; have hge := grownCap_ge w (ByteArray.mk b.toArray).size 0 e
  have hcm : grownCap w (ByteArray.mk b.toArray).size 0 e ≤ maxLen := grownCap_le_maxLen w _ 0 e (by rw [hsz]; exact hlen)
  generalize hW : Lib.bytesWorld w e ⟨b.toArray⟩ = W at hrun
  have hold : ∀ j, j < w.heap.size → W.heap[j]? = w.heap[j]? := fun j hj => by rw [← hW]; exact Lib.bytesWorld_at_old w e _ j hj
  have hstep : Step F W := by
    refine ⟨?_, ?_, ?_, ?_, fun i hi ho => ?_⟩
    · rw [← hW]; exact hI.step.os
    · rw [← hW]; exact hI.step.tape
    · rw [← hW]; exact hI.step.output
    · rw [← hW, Lib.bytesWorld_size]; have := hI.step.size; omega
    · rw [hold i (by have := hI.step.size; omega)]; exact hI.step.block i hi ho
  have hW1 := hI.world hstep (fun b' i v hv => by
      have hc := hI.agree b' i v hv
      rw [z44 (hold b' (by have := World.block_lt_of_cell? w _ hc; simpa using this))]
      exact hc)
    (fun o cs b' ho hm => hold b' (hI.lt_of_live ho hm)) (fun q v s' g hq hk' hg => hold g (hI.lt_of_claim hq hk' hg))
  have hcell : ∀ (j : Nat) (v : Value), (b.map fun c => Value.int .u8 (c.toNat : Int))[j]? = some v → W.cell? ⟨w.heap.size, 0 + j, none⟩ = some v := by
    intro j v hj
    have hjl : j < b.length := by have := (List.getElem?_eq_some_iff.1 hj).1; simpa using this
    rw [Nat.zero_add, ← hW, Lib.bytesWorld_cell w e _ j (by rw [hsz]; exact hjl)]
    rw [← hj]; simp [hjl, List.getD]
  have hA := hW1.addS (b := w.heap.size) (lo := 0) (vs := b.map fun c => Value.int .u8 (c.toNat : Int)) (hI.own_new (Nat.le_refl _)) hcell
    (fun o cs ho hm => by have := hI.lt_of_live ho hm; omega) (fun q' v s' t n xs hq' hk' hg _ _ => by have := hI.lt_of_claim hq' hk' hg; omega) (fun q' l v s' hq' hk' hg => by have := hI.lt_of_claim (z16 hq') hk' hg; omega)
  refine ⟨_, _, .slice (some ⟨w.heap.size, 0, none⟩) (ByteArray.mk b.toArray).size (grownCap w (ByteArray.mk b.toArray).size 0 e), _, _, W, h, z64 E _ _ _, ?_, hA, .inl ?_⟩
  · simp only [Rep]
    refine ⟨_, _, _, rfl, by rw [hsz]; simp [encB], hge, hcm, fun _ => ⟨w.heap.size, 0, rfl, ?_⟩, by simp, by simp⟩
    refine SrcE.repE (zi6 b) fun j hj => ?_; exact z7u (fun i v hv => hW1.agree _ i v hv) hcell j hj
  · simp [execOp, hx, hrun]
theorem zl4 (hI : WI F E objs cl w) {m : Md} {sz : Nat} {r : List AV} {y : Value} (hy : Rep E (.lst m sz r) y) (hsz : 0 < sz) : ∃ news, Src P w sz r.length y news ∧ SrcE E sz r news := by
  simp only [Rep] at hy; obtain ⟨a, len, cap, rfl, hl, hlc, hcm, he1, _, _⟩ := hy; subst hl
  cases hr : r with
  | nil =>
    subst hr
    refine ⟨[], ⟨fun W _ => by simp [Builtin.lenOf], fun W _ => ?_, by simp, by simp⟩, SrcE.nil E sz⟩
    cases a <;> simp [Builtin.firstCells, loadCells, loadCellsFrom]
  | cons x r0 =>
    rw [← hr]
    obtain ⟨b, off, rfl, hE⟩ := he1 (by rw [hr]; simp)
    obtain ⟨ns, n1, n2⟩ := z3f hE
    refine ⟨ns, ⟨fun W _ => by simp [Builtin.lenOf], fun W hW => ?_, n1.size, n1.one hsz⟩, n1⟩
    refine run_firstCells_some W sz r.length _ _ _ ns n1.size fun j v hj => ?_; rw [z1x]; have hc := hI.agree b (off + j) v ((n2 j (List.getElem?_eq_some_iff.1 hj).1).trans hj)
    simpa [World.cell?, hW] using hc
theorem znb {wd : Nat} {r : List AV} {y : Value} (sz : Nat) (hy : Rep E (.lst .nil wd r) y) : Src P w sz r.length y [] ∧ SrcE E sz r [] := by
  simp only [Rep] at hy; obtain ⟨a, len, cap, rfl, hl, _, _, _, hn, _⟩ := hy; obtain ⟨rfl, rfl, rfl⟩ := hn trivial; simp only [List.length_nil] at hl; subst hl
  exact ⟨⟨fun W _ => by simp [Builtin.lenOf], fun W _ => by simp [Builtin.firstCells], by simp, by simp⟩, SrcE.nil E sz⟩
theorem znc {s : List UInt8} {y : Value} (hy : Rep E (.str s) y) : Src P w 1 (encB s).length y (s.map fun b => .int .u8 (b.toNat : Int)) ∧ SrcE E 1 (encB s) (s.map fun b => .int .u8 (b.toNat : Int)) := by
  simp only [Rep] at hy; obtain ⟨rfl, _⟩ := hy
  have hsz : (ByteArray.mk s.toArray).size = s.length := by simp [ByteArray.size]
  refine ⟨⟨fun W _ => by simp [Builtin.lenOf, hsz, encB], fun W _ => ?_, by simp [encB], ?_⟩, zi6 s⟩
  · simp only [Builtin.firstCells]
    have : (ByteArray.mk s.toArray).extract 0 (encB s).length = ⟨s.toArray⟩ := by
      apply ByteArray.ext; rw [ByteArray.data_extract]; simp [encB]
    rw [this]; simp
  · intro u hu
    simp only [List.mem_map] at hu; obtain ⟨b, _, rfl⟩ := hu; rfl
theorem zb9 {wd : Nat} {l : List AV} {s : Value} (hs : Rep E (.lst .nil wd l) s) : s = .slice none 0 0 ∧ l = [] := by
  simp only [Rep] at hs; obtain ⟨a, len, cap, rfl, hl, _, _, _, hn, _⟩ := hs; obtain ⟨rfl, rfl, rfl⟩ := hn trivial; simp only [List.length_nil] at hl; subst hl; exact ⟨rfl, rfl⟩
theorem zdj (hI : WI F E objs cl w) {q : Nm} {sz : Nat} {l : List AV} {v : Value} (hv : Rep E (.sq q sz) v) (hq : cl q = some (.row l)) : ∃ news, Src P w sz l.length v news ∧ SrcR E sz l news := by
  simp only [Rep] at hv; obtain ⟨hk, _⟩ := hv; obtain ⟨t, xs, k1, k2, k3, k4⟩ := z1j hI hq hk; refine ⟨xs, ⟨fun W _ => ?_, fun W hW => ?_, k2.size, fun u hu => ?_⟩, k2⟩
  · rcases k1.2 with ⟨rfl, h0⟩ | ⟨g, cap, cur, rfl, _⟩
    · simp [Builtin.lenOf, h0]
    · simp [Builtin.lenOf]
  · rcases k1.2 with ⟨rfl, h0⟩ | ⟨g, cap, cur, rfl, _⟩
    · have : xs = [] := List.eq_nil_of_length_eq_zero (by rw [k1.1, h0]; simp)
      subst this; simp [Builtin.firstCells]
    · refine run_firstCells_some W sz l.length _ _ _ xs k1.1 fun j v hj => ?_
      have := k1.cells (g := g) rfl j v hj
      simpa [World.cell?, hW] using this
  · obtain ⟨j, hj⟩ := List.getElem?_of_mem hu
    have hjl : j < l.length * sz := by rw [← k1.1]; exact (List.getElem?_eq_some_iff.1 hj).1
    have hi : j / sz < l.length := Nat.div_lt_of_lt_mul (by rw [Nat.mul_comm]; exact hjl)
    obtain ⟨h1, u', h2, h3, h4⟩ := k2.get (j / sz) l[j / sz] (by simp [hi])
    have hm : j % sz < sz := Nat.mod_lt _ k3; have e := h4 (j % sz) hm; rw [Nat.mul_comm, Nat.div_add_mod, hj] at e
    rcases h1 with h1 | h1
    · exact (z3o h1 h2).1.all_one u (List.mem_of_getElem? (i := j % sz) (by simpa using e.symm))
    · have ho : (l[j / sz]).one = true := by
        generalize l[j / sz] = x at h1
        cases x <;> first | rfl | cases h1
      obtain ⟨g1, g2⟩ := z2n h2 ho; rw [g2] at e
      have : u = u' := by
        cases hjm : j % sz with
        | zero => rw [hjm] at e; simpa using e
        | succ n => rw [hjm] at e; simp at e
      rw [this]; exact g1
theorem zdk (hI : WI F E objs cl w) {sz : Nat} {y : AV} {v : Value} {k : List AV → Prop} (hv : Rep E y v) (hsz : 0 < sz) (h : srcV (PA M) sz y cl k) :
    ∃ r news, k r ∧ Src P w sz r.length v news ∧ SrcE E sz r news := by
  unfold srcV at h
  split at h
  · rename_i m' w' r
    simp only [zb, Bool.or_eq_true, Nat.beq_eq] at h; obtain ⟨hw, h⟩ := h
    rcases hw with rfl | hm
    · obtain ⟨news, h1, h2⟩ := zl4 hI hv hsz
      exact ⟨r, news, h, h1, h2⟩
    · have : m' = .nil := by cases m' <;> simp_all [isNil]
      subst this; have h0 := znb (P := P) (w := w) sz hv; exact ⟨r, [], h, h0.1, h0.2⟩
  · rename_i q w'
    simp only [zb, zv, Nat.beq_eq] at h; obtain ⟨rfl, r, hq, hf, h⟩ := h; obtain ⟨news, h1, h2⟩ := zdj hI hv hq; exact ⟨r, news, h, h1, h2.toE hf⟩
  · exact h.elim
theorem zdl (hT : TabOK P T) (hI : WI F E objs cl w) {ρ : Operand → Value} {dst : Option Tmp} {ty : TypeId} {pos : String} {after : Array Edge} {gd : Option (Nat × Bool)} {k : AV → Os → Cl → Prop} {args : Array Operand} {ats : Array TypeId} {x y : AV} {t u : Nat} {ts : List Nat} {d : Nat} {uq : Bool}
    (hv : RepT E [x, y] (args.toList.map ρ)) (hts : ats.toList = t :: u :: ts) {e : Nat} (ht : (T.ty t).k = .slice e) {n : Nat} {r : List AV} (hr : r.length = n)
    (hu : (∃ d, P.underlying u = some d ∧ ((∃ e2, d = .slice e2) ∨ d = .string))) (hk : (T.ty e).known = true) (hz : (T.ty e).zero.isEmpty = false) (hsz : 0 < (T.ty e).size) (hby : 0 < (T.ty e).bytes) (hbm : (T.ty e).bytes ≤ 1048576)
    (hsrc : ∀ v, Rep E y v → ∃ news, Src P w (T.ty e).size r.length v news ∧ SrcE E (T.ty e).size r news)
    (h : appV (PA M) uq d (T.ty e).size x r objs cl (fun m y => (PA M).chk (decide ((m + n) * (T.ty e).bytes ≤ 211106232532992)) y) k) :
    Does P F E ρ ⟨dst, .call { callee := .builtin .append, args := args, argTypes := ats }, ty, pos, after, gd⟩ w k := by
  obtain ⟨sv, yv, he, hxr, hyr⟩ := z1y hv; obtain ⟨d', hd, hdd⟩ := hu; obtain ⟨i, z, z1, z2, z3, z4, z5, _, _, _⟩ := zb8 hT hk hz; obtain ⟨news, s1, s2⟩ := hsrc yv hyr; rw [← z2] at s1 s2 hsz h; rw [← z3] at hby hbm h; subst hr
  have hargs : args.map ρ = #[sv, yv] := by
    apply Array.ext'
    simpa using he
  have h0 : ∀ {v w'}, (Builtin.append_ #[t, u] ty #[sv, yv]).run P w = .ok v w' → (execOp ρ ⟨dst, .call { callee := .builtin .append, args := args, argTypes := ats }, ty, pos, after, gd⟩).run P w = .ok (.value v) w' := by
    intro v w' hrun
    have e1 : Builtin.append_ ats ty #[sv, yv] = Builtin.append_ #[t, u] ty #[sv, yv] := by
      have g0 : ats[0]? = some t := by rw [← Array.getElem?_toList, hts]; rfl
      have g1 : ats[1]? = some u := by rw [← Array.getElem?_toList, hts]; rfl
      unfold Builtin.append_; simp only [g0, g1]; rfl
    simp [execOp, resolve, invoke, builtin, hargs, e1, hrun]
  unfold appV at h
  split at h
  · obtain ⟨rfl, rfl⟩ := zb9 hxr
    simp only [z1f, decide_eq_true_eq, Nat.zero_add] at h; obtain ⟨hb, h⟩ := h
    cases huq : uq with
    | true =>
      rw [huq] at h; obtain ⟨hd', h⟩ := z23.1 h; obtain ⟨E', v, w', g1, g2, g3, g4⟩ := zg7 hI (hT.slice ht) hd hdd z1 z4 z5 hsz hby hbm hd' s1 s2.toR hb; exact ⟨E', _, v, objs, _, w', h, g2, g3, g4, .inl (h0 g1)⟩
    | false =>
      rw [huq] at h; obtain ⟨hd', h⟩ := z23.1 h; obtain ⟨E', v, w', g1, g2, g3, g4⟩ := zi7 hI (hT.slice ht) hd hdd z1 z4 z5 hsz hby hbm hd' s1 s2 hb; exact ⟨E', _, v, objs, _, w', h, g2, g3, g4, .inl (h0 g1)⟩
  · rename_i q wd l
    simp only [z1f, zb, decide_eq_true_eq, Bool.and_eq_true, Nat.beq_eq] at h; obtain ⟨hb, ⟨rfl, hq⟩, h⟩ := h; obtain ⟨hd', h⟩ := z23.1 h
    have hq : cl q = some .own := by unfold isOwn at hq; split at hq <;> simp_all
    obtain ⟨E', v, w', g1, g2, g3, g4⟩ := zv4 hI (hT.slice ht) hd hdd z1 z4 z5 hsz hby hbm hq hd' hxr s1 s2 hb; exact ⟨E', _, v, objs, _, w', h, g2, g3, g4, .inl (h0 g1)⟩
  · rename_i q wd
    simp only [zv, z1f, zb, decide_eq_true_eq, Nat.beq_eq] at h; obtain ⟨l, hq, hb, rfl, h⟩ := h; obtain ⟨hd', h⟩ := z23.1 h; obtain ⟨E', v, w', g1, g2, g3, g4⟩ := zv5 hI (hT.slice ht) hd hdd z1 z4 z5 hsz hby hbm hq hd' hxr s1 s2.toR hb; exact ⟨E', _, v, objs, _, w', h, g2, g3, g4, .inl (h0 g1)⟩
  · exact h.elim
theorem zi8 (hI : WI F E objs cl w) {q : Nm} {sz : Nat} {l : List AV} {v : Value} (hv : Rep E (.sq q sz) v) (hq : cl q = some (.row l)) :
    (v = .slice none 0 0 ∧ l = []) ∨ ∃ g cap, v = .slice (some ⟨g, 0, none⟩) l.length cap := by
  simp only [Rep] at hv; obtain ⟨hk, _⟩ := hv; obtain ⟨t, xs, k1, k2, k3, k4⟩ := z1j hI hq hk
  rcases k1.2 with ⟨rfl, h0⟩ | ⟨g, cap, cur, rfl, _⟩
  · exact .inl ⟨rfl, List.eq_nil_of_length_eq_zero h0⟩
  · exact .inr ⟨g, cap, rfl⟩
theorem z9g (hT : TabOK P T) (hI : WI F E objs cl w) {ρ : Operand → Value} {dst : Option Tmp} {t e ty : TypeId} {pos : String} {after : Array Edge} {gd : Option (Nat × Bool)} {a b : Operand} {q : Nm} {wd : Nat} {ik : IntKind} {n : Int} {l : List AV}
    (ha : Rep E (.sq q wd) (ρ a)) (hx : Rep E (.int ik n) (ρ b)) (ht : (T.ty t).k = .slice e) (hw : wd = (T.ty e).size) (hk : (T.ty e).known = true) (hq : cl q = some (.row l)) (h0 : 0 ≤ n) (h1 : n < (l.length : Int))
    : ∃ v, Rep E (.ua q wd n.toNat 0) v ∧ (execOp ρ ⟨dst, .indexAddr t a b, ty, pos, after, gd⟩).run P w = .ok (.value v) w := by
  have hu := hT.slice ht; have hsz := hT.sizeAt hk w
  rcases zi8 hI ha hq with ⟨e1, rfl⟩ | ⟨g, cap, e1⟩
  · simp at h1; omega
  · simp only [Rep] at ha hx
    refine ⟨.pointer (some ⟨g, n.toNat * wd + 0, none⟩), ?_, ?_⟩
    · simp only [Rep]
      exact ⟨g, l.length, cap, by rw [← e1]; exact ha.1, by omega, rfl⟩
    · have : n < (l.length : Int) := h1
      simp [execOp, e1, hx, Instr.indexAt, asIntOf, run_underlying hu, h0, this, hsz, z1x, hw]
theorem z90 (hT : TabOK P T) {ρ : Operand → Value} {dst : Option Tmp} {t e ty : TypeId} {pos : String} {after : Array Edge} {gd : Option (Nat × Bool)} {a b : Operand} {q : Nm} {wd m : Nat} {ik : IntKind} {n : Int}
    (ha : Rep E (.sv q wd m) (ρ a)) (hx : Rep E (.int ik n) (ρ b)) (ht : (T.ty t).k = .slice e) (hw : wd = (T.ty e).size) (hk : (T.ty e).known = true) (h0 : 0 ≤ n) (h1 : n < (m : Int))
    : ∃ v, Rep E (.ua q wd n.toNat 0) v ∧ (execOp ρ ⟨dst, .indexAddr t a b, ty, pos, after, gd⟩).run P w = .ok (.value v) w := by
  have hu := hT.slice ht; have hsz := hT.sizeAt hk w; simp only [Rep] at ha hx; obtain ⟨g, n', cap, hka, hmn, e1⟩ := ha; refine ⟨.pointer (some ⟨g, n.toNat * wd + 0, none⟩), ?_, ?_⟩
  · simp only [Rep]
    exact ⟨g, n', cap, hka, by omega, rfl⟩
  · simp [execOp, e1, hx, Instr.indexAt, asIntOf, run_underlying hu, h0, h1, hsz, z1x, hw]
theorem zdm (hT : TabOK P T) (hI : WI F E objs cl w) {ρ : Operand → Value} {dst : Option Tmp} {t e ty : TypeId} {pos : String} {after : Array Edge} {gd : Option (Nat × Bool)} {k : AV → Os → Cl → Prop} {a b : Operand} {q : Nm} {wd m : Nat} {ik : IntKind} {n : Int}
    (ha : Rep E (.sv q wd m) (ρ a)) (hx : Rep E (.int ik n) (ρ b)) (ht : (T.ty t).k = .slice e) (hw : wd = (T.ty e).size) (hk : (T.ty e).known = true) (h0 : 0 ≤ n) (h1 : n < (m : Int))
    (h : k (.ua q wd n.toNat 0) objs cl) : Does P F E ρ ⟨dst, .indexAddr t a b, ty, pos, after, gd⟩ w k := by
  obtain ⟨v, g1, g2⟩ := z90 (dst := dst) (ty := ty) (pos := pos) (after := after) (gd := gd) hT ha hx ht hw hk h0 h1; exact ⟨E, _, v, objs, cl, w, h, E3.le.refl E, g1, hI, .inl g2⟩
theorem zf5 (hT : TabOK P T) (hI : WI F E objs cl w) {ρ : Operand → Value} {dst : Option Tmp} {t e ty : TypeId} {pos : String} {after : Array Edge} {gd : Option (Nat × Bool)} {k : AV → Os → Cl → Prop} {a b : Operand} {q : Nm} {wd : Nat} {ik : IntKind} {n : Int} {l : List AV}
    (ha : Rep E (.sq q wd) (ρ a)) (hx : Rep E (.int ik n) (ρ b)) (ht : (T.ty t).k = .slice e) (hw : wd = (T.ty e).size) (hk : (T.ty e).known = true) (hq : cl q = some (.row l)) (h0 : 0 ≤ n) (h1 : n < (l.length : Int))
    (h : k (.ua q wd n.toNat 0) objs cl) : Does P F E ρ ⟨dst, .indexAddr t a b, ty, pos, after, gd⟩ w k := by
  obtain ⟨v, g1, g2⟩ := z9g (dst := dst) (ty := ty) (pos := pos) (after := after) (gd := gd) hT hI ha hx ht hw hk hq h0 h1; exact ⟨E, _, v, objs, cl, w, h, E3.le.refl E, g1, hI, .inl g2⟩
theorem zdn (hT : TabOK P T) (hI : WI F E objs cl w) {ρ : Operand → Value} {dst : Option Tmp} {t e ty : TypeId} {pos : String} {after : Array Edge} {gd : Option (Nat × Bool)} {args : Array Operand} {ats : Array TypeId} {q : Nm} {wd : Nat} {l : List AV}
    (hv : RepT E [.sq q wd] (args.toList.map ρ)) (hts : ats.toList = [t]) (ht : (T.ty t).k = .slice e) (hq : cl q = some (.row l)) :
    l.length ≤ maxL ∧ (execOp ρ ⟨dst, .call { callee := .builtin .len, args := args, argTypes := ats }, ty, pos, after, gd⟩).run P w = .ok (.value (.int .i64 l.length)) w := by
  obtain ⟨u, e, hx⟩ := z15 hv
  have hc : l.length ≤ maxL := by
    simp only [Rep] at hx; obtain ⟨_, xs, k1, _⟩ := z1j hI hq hx.1
    rcases k1.2 with ⟨_, h0⟩ | ⟨g, cap, cur, _, _, _, hnc, hcm, _⟩
    · rw [h0]; exact Nat.zero_le _
    · exact Nat.le_trans hnc hcm
  have h1 : (args.map ρ)[0]? = some u := by
    rw [← Array.getElem?_toList, Array.toList_map, e]; rfl
  have h2 : ats[0]? = some t := by
    rw [← Array.getElem?_toList, hts]; rfl
  refine ⟨hc, ?_⟩
  have hr : (Builtin.len_ ats ty (args.map ρ)).run P w = .ok (.int .i64 l.length) w := by
    simp only [Builtin.len_, h1, h2, Sem.run_bind, run_underlying (hT.slice ht), Result.andThen_ok]
    rcases zi8 hI hx hq with ⟨rfl, rfl⟩ | ⟨g, cap, rfl⟩ <;> rfl
  simp [execOp, resolve, invoke, builtin, hr]
theorem zi9 (hT : TabOK P T) (hI : WI F E objs cl w) {ρ : Operand → Value} {dst : Option Tmp} {t e ty : TypeId} {pos : String} {after : Array Edge} {gd : Option (Nat × Bool)} {k : AV → Os → Cl → Prop} {args : Array Operand} {ats : Array TypeId} {q : Nm} {wd : Nat} {l : List AV}
    (hv : RepT E [.sq q wd] (args.toList.map ρ)) (hts : ats.toList = [t]) (ht : (T.ty t).k = .slice e) (hq : cl q = some (.row l)) (h : l.length ≤ maxL → k (.int .i64 l.length) objs cl) :
    Does P F E ρ ⟨dst, .call { callee := .builtin .len, args := args, argTypes := ats }, ty, pos, after, gd⟩ w k := by
  obtain ⟨g1, g2⟩ := zdn (dst := dst) (ty := ty) (pos := pos) (after := after) (gd := gd) hT hI hv hts ht hq; exact ⟨E, _, .int .i64 l.length, objs, cl, w, h g1, E3.le.refl E, z1p, hI, .inl g2⟩
theorem zdo (hT : TabOK P T) (hI : WI F E objs cl w) {ρ : Operand → Value} {dst : Option Tmp} {t e ty : TypeId} {pos : String} {after : Array Edge} {gd : Option (Nat × Bool)} {d : Nat} {k : AV → Os → Cl → Prop} {a b : Operand} {n c : Int}
    (ha : Rep E (.int .i64 n) (ρ a)) (hb : Rep E (.int .i64 c) (ρ b)) (ht : (T.ty t).k = .slice e) (h2 : 0 < (T.ty e).size) (hby : 0 < (T.ty e).bytes) (hk : (T.ty e).known = true) (hz : (T.ty e).zero.isEmpty = false) (hzf : (demS (T.ty e).sh (zeroOf (T.ty e))).flat = true)
    (h0 : 0 ≤ n) (hnc : n ≤ c) (hc : c * (T.ty e).bytes ≤ 140737488355328) (hd : cl (.T d) = none) (h : k (.sq (.T d) (T.ty e).size) objs (updN cl (.T d) (.row (List.replicate n.toNat (demS (T.ty e).sh (zeroOf (T.ty e))))))) :
    Does P F E ρ ⟨dst, .makeSlice t a b, ty, pos, after, gd⟩ w k := by
  obtain ⟨i, z, z1, z2, z3, z4, z5, z6, z7, z8⟩ := zb8 hT hk hz; have hzr := zs3 (E := E) z2 z5 z6 z7 z8
  have hc63 : c ≤ 140737488355328 := by
    have h1 : (1 : Int) ≤ ((T.ty e).bytes : Int) := by omega
    have h2 : c * 1 ≤ c * ((T.ty e).bytes : Int) := Int.mul_le_mul_of_nonneg_left h1 (by omega)
    omega
  have hrun := run_make (P := P) w t e i z (hT.slice ht) z1 z4 .i64 .i64 n c h0 hnc (by rw [z3, Int.mul_comm]; omega) (by omega)
  have hsz2 : (madeCells z.cells (c.toNat * i.size)).size = c.toNat * (T.ty e).size := by rw [size_madeCells, z2]
  obtain ⟨E', q1, q2, q3⟩ := hI.new_rowR (q := .T d) (e := e) (N := n.toNat) (cap := c.toNat) (r := List.replicate n.toNat (demS (T.ty e).sh (zeroOf (T.ty e)))) hd h2 (by omega) (by simp only [maxLen]; omega) hsz2 (by simp) (SrcE.toR (by
    have hmul : n.toNat * (T.ty e).size ≤ c.toNat * (T.ty e).size := Nat.mul_le_mul_right _ (by omega)
    refine ⟨by rw [List.length_take, Array.length_toList, size_madeCells, z2, List.length_replicate]; omega, fun j x hx => ?_⟩
    rw [List.getElem?_replicate] at hx
    split at hx
    · rename_i hj
      injection hx with hx; subst hx
      refine ⟨hzf, z, z3z hzr, by rw [z5, z2], fun q hq => ?_⟩
      have hlt : j * (T.ty e).size + q < n.toNat * (T.ty e).size := by
        have : (j + 1) * (T.ty e).size ≤ n.toNat * (T.ty e).size := Nat.mul_le_mul_right _ hj; rw [Nat.add_mul] at this; omega
      have hm : (j * (T.ty e).size + q) % z.cells.size = q := by
        rw [z5, z2, Nat.add_comm, Nat.add_mul_mod_self_right, Nat.mod_eq_of_lt hq]
      have hql : q < z.cells.size := by rw [z5, z2]; exact hq
      have hlt2 : j * (T.ty e).size + q < c.toNat * (T.ty e).size := by omega
      rw [List.getElem?_take, if_pos hlt]; simp [madeCells, z2, hlt2, hm, hql]
    · cases hx))
  simp only [Rep] at ha hb; refine ⟨E', _, _, objs, _, _, h, q1, q2, q3, .inl ?_⟩; simp [execOp, ha, hb, hrun]
theorem zia (hT : TabOK P T) (hI : WI F E objs cl w) {ρ : Operand → Value} {dst : Option Tmp} {s t ty : TypeId} {pos : String} {after : Array Edge} {gd : Option (Nat × Bool)} {k : AV → Os → Cl → Prop} {a : Operand} {q : Nm} {l : List AV} {b : List UInt8}
    (ha : Rep E (.sq q 1) (ρ a)) (ht : (T.ty t).k = .str) (hu : isU8 T s = true) (hq : cl q = some (.row l)) (hb : bytesOf l = some b) (h : k (.str b) objs cl) : Does P F E ρ ⟨dst, .convert s t a, ty, pos, after, gd⟩ w k := by
  have hf : l.all AV.flat = true := by
    obtain ⟨ns, rfl, _⟩ := zbl _ hb; rw [List.all_eq_true]; intro x hx; obtain ⟨n, _, rfl⟩ := List.mem_map.1 hx; rfl
  obtain ⟨E', h1, h2, h3, h4, h5⟩ := hI.row_still hq hf; have hr := h5 1 _ ha
  have hcv : conv (PA ⟨fun _ _ _ _ => False, fun _ _ _ _ => False⟩) T s t (.lst .ro 1 l) fun v => v = .str b := by
    unfold conv; simp only [ht, zb, zi, hu, hb]
    exact ⟨by simp, b, rfl, rfl⟩
  obtain ⟨x', v', g1, g2, g3⟩ := z86 (P := P) (W := (· = w)) hT (by rintro w' rfl; exact h4.known) hr hcv
  subst g1; refine ⟨E, _, v', objs, cl, w, h, E3.le.refl E, ?_, hI, .inl ?_⟩
  · simpa only [Rep] using g2
  · simp [execOp, g3 w rfl]
theorem zdp (hI : WI F E objs cl w) {q : Nm} {sz : Nat} {l : List AV} {v : Value} (hk : E.ka q = some (v, sz)) (hq : cl q = some (.row l)) {i : Nat} {e : AV} (he : l[i]? = some e) :
    ∃ g cap t cur u, v = .slice (some ⟨g, 0, none⟩) l.length cap ∧ w.heap[g]? = some (.cells cur t (0, 0)) ∧ l.length * sz ≤ cur.size ∧ (e.flat = true ∨ holdsRef e = true) ∧ Rep E e u ∧ u.cells.size = sz ∧ RepL E e.cells u.cells.toList ∧ (∀ j, j < sz → cur[i * sz + j]? = u.cells[j]?) ∧ SrcR E sz l (cur.toList.take (l.length * sz)) := by
  obtain ⟨t, xs, k1, k2, k3, k4⟩ := z1j hI hq hk; have hi : i < l.length := (List.getElem?_eq_some_iff.1 he).1
  rcases k1.2 with ⟨rfl, h0⟩ | ⟨g, cap, cur, rfl, _, hg, hnc, hcm, hcs, htake⟩
  · omega
  · obtain ⟨h1, u, h2, h3, h4⟩ := k2.get i e he
    have hle : l.length * sz ≤ cur.size := by rw [hcs]; exact Nat.mul_le_mul_right _ hnc
    refine ⟨g, cap, t, cur, u, rfl, hg, hle, h1, h2, h3, ?_, fun j hj => ?_, by rw [htake]; exact k2⟩
    · rcases h1 with h1 | h1
      · exact (z3o h1 h2).1
      · have ho : e.one = true := by cases e <;> first | rfl | cases h1
        have hc : e.cells = [e] := by cases e <;> first | rfl | cases h1
        obtain ⟨g1, g2⟩ := z2n h2 ho; rw [hc, g2]; simp only [RepL]; exact ⟨u, [], rfl, ho, g1, h2, rfl⟩
    · rw [← h4 j hj, ← htake, List.getElem?_take, if_pos]
      · simp
      · have : (i + 1) * sz ≤ l.length * sz := Nat.mul_le_mul_right _ hi
        rw [Nat.add_mul] at this; omega
theorem z7c (hT : TabOK P T) (hI : WI F E objs cl w) {ρ : Operand → Value} {dst : Option Tmp} {t ty : TypeId} {pos : String} {after : Array Edge} {gd : Option (Nat × Bool)} {k : AV → Os → Cl → Prop} {a : Operand} {q : Nm} {wd i j : Nat} {l : List AV} {e : AV}
    (ha : Rep E (.ua q wd i j) (ρ a)) (hq : cl q = some (.row l)) (he : l[i]? = some e) (h : part (PA M) (T.ty t) e.cells j fun v => k v objs cl) : ∃ x v, k x objs cl ∧ Rep E x v ∧ (execOp ρ ⟨dst, .load t a, ty, pos, after, gd⟩).run P w = .ok (.value v) w := by
  simp only [Rep] at ha; obtain ⟨b, n, cap, h1, h2, h3⟩ := ha; obtain ⟨g, cap', tt, cur, u, e1, e2, e3, e4, e5, e6, e7, e8, e9⟩ := zdp hI h1 hq he
  cases e1
  obtain ⟨x', v', g1, g2, g3⟩ := z5t (W := (· = w)) (off := i * wd) (b := b) hT e7 (fun w' hw' j v hj => by
    subst hw'
    rw [cell_of_row _ b (i * wd + j) cur tt (0, 0) e2, e8 j (by have := (List.getElem?_eq_some_iff.1 hj).1; simpa [e6] using this)]
    simpa using hj) h
  refine ⟨x', v', g1, g2, ?_⟩; simp [execOp, h3, Instr.loadAt, Instr.sureAddr, g3 w rfl]
theorem znd {x : AV} {cs : List AV} {k : AV → Prop} {u : Value} {us : List Value} (h : putC (PA M) x cs k) (hx : Rep E x u) (hc : RepL E cs us) (hone : (∃ l, x = .agg l) ∨ x.one = true) : ∃ x' u', k x' ∧ Rep E x' u' ∧ u'.cells.toList = us := by
  unfold putC at h
  split at h
  · rename_i l
    refine ⟨_, .agg us.toArray, h, ?_, by simp [Value.cells]⟩
    simp only [Rep]; exact ⟨us, rfl, hc⟩
  · simp only [z20, z26] at h
    obtain ⟨c, r, rfl, rfl, h⟩ := h; simp only [RepL] at hc; obtain ⟨v, r, rfl, h1, h2, h3, rfl⟩ := hc
    exact ⟨c, v, h, h3, by rw [(z2n h3 h1).2]⟩
theorem zf6 (hT : TabOK P T) (hI : WI F E objs cl w) {ρ : Operand → Value} {dst : Option Tmp} {t ty : TypeId} {pos : String} {after : Array Edge} {gd : Option (Nat × Bool)} {k : AV → Os → Cl → Prop} {a b : Operand} {q : Nm} {wd i j : Nat} {l : List AV} {e x : AV}
    (ha : Rep E (.ua q wd i j) (ρ a)) (hx : Rep E x (ρ b)) (hq : cl q = some (.row l)) (he : l[i]? = some e)
    (h : cellsAs (PA M) (T.ty t) x fun cs => (PA M).chk (Nat.ble (j + cs.length) e.cells.length) (putC (PA M) e (setAt e.cells j cs) fun e' => (PA M).chk e'.flat (k (.tup []) objs (updN cl q (.row (l.set i e')))))) :
    Does P F E ρ ⟨dst, .store t a b, ty, pos, after, gd⟩ w k := by
  obtain ⟨cs, h, hk, hr, hs, hln, _⟩ := z37 hx h; simp only [z1f, Nat.ble_eq] at h; obtain ⟨hfit, h⟩ := h; simp only [Rep] at ha; obtain ⟨g, n, cap, h1, h2, h3⟩ := ha; obtain ⟨g', cap', tt, cur, u, e1, e2, e3, e4, e5, e6, e7, e8, e9⟩ := zdp hI h1 hq he
  cases e1
  have hil : i < l.length := (List.getElem?_eq_some_iff.1 he).1; have hcl := hr.length; have hel := e7.length
  obtain ⟨e', u', hp, hu', huc⟩ := znd h e5 (z88 e7 hr hfit) (by
    rcases e4 with e4 | e4
    · cases e <;> first | exact .inl ⟨_, rfl⟩ | exact .inr rfl | (simp [AV.flat, AV.flat1] at e4; done)
    · exact .inr (by cases e <;> first | rfl | cases e4))
  obtain ⟨hfl, hp⟩ : e'.flat = true ∧ k (.tup []) objs (updN cl q (.row (l.set i e'))) := hp; have hmul : (i + 1) * wd ≤ l.length * wd := Nat.mul_le_mul_right _ hil; rw [Nat.add_mul, Nat.one_mul] at hmul
  have husz : u'.cells.size = wd := by
    have : u'.cells.toList.length = (setAt u.cells.toList j (ρ b).cells.toList).length := by rw [huc]
    rw [z27] at this
    simpa [e6] using this
  have hset := e9.set hil (.inl hfl) hu' husz
  have hjfit : j + (ρ b).cells.toList.length ≤ wd := by
    rw [← hcl]
    have : e.cells.length = wd := by rw [hel]; simpa using e6
    omega
  have hcur : (setAt cur.toList (i * wd + j) (ρ b).cells.toList).take (l.length * wd) = setAt (cur.toList.take (l.length * wd)) (i * wd) u'.cells.toList := by
    have f1 : i * wd + j + (ρ b).cells.toList.length ≤ cur.toList.length := by simp only [Array.length_toList]; omega
    have f2 : i * wd + u'.cells.toList.length ≤ (cur.toList.take (l.length * wd)).length := by simp only [Array.length_toList, List.length_take, husz]; omega
    have f3 : j + (ρ b).cells.toList.length ≤ u.cells.toList.length := by simp only [Array.length_toList] at hjfit ⊢; omega
    apply List.ext_getElem?; intro m; rw [List.getElem?_take, z1u _ _ _ _ f1, z1u _ _ _ _ f2, huc, z1u _ _ _ _ f3, List.getElem?_take]; simp only [z27, Array.length_toList]; simp only [Array.length_toList] at hjfit
    by_cases c1 : m < l.length * wd
    · rw [if_pos c1, if_pos c1]
      by_cases c2 : i * wd ≤ m ∧ m < i * wd + u.cells.size
      · rw [if_pos c2]
        by_cases c3 : i * wd + j ≤ m ∧ m < i * wd + j + (ρ b).cells.size
        · rw [if_pos c3, if_pos (by omega)]
          congr 1
          omega
        · rw [if_neg c3, if_neg (by omega)]
          have := e8 (m - i * wd) (by omega)
          rw [show i * wd + (m - i * wd) = m from by omega] at this
          simpa using this
      · rw [if_neg c2, if_neg (by omega)]
    · rw [if_neg c1, if_neg c1, if_neg (by omega)]
  have hW := hI.row_set (l' := l.set i e') hq h1 (cur' := (setAt cur.toList (i * wd + j) (ρ b).cells.toList).toArray) e2 (by simp [z27]) (by simp) (by rw [List.toList_toArray, hcur]; exact hset)
  refine ⟨E, _, undef, _, _, _, hp, E3.le.refl E, by simp only [Rep]; exact ⟨[], rfl, by simp [RepT]⟩, hW, .inr ⟨?_, rfl⟩⟩
  have hst := run_storeCells_at P g (i * wd + j) tt (ρ b).cells.toList 0 cur w e2 (by simp only [Array.length_toList] at hjfit ⊢; omega) (hr.all_one)
  simp only [Nat.add_zero] at hst
  have hse : (storeCells ⟨g, i * wd + j, none⟩ (ρ b).cells.toList).run P w = .ok () (w.setRow g (setAt cur.toList (i * wd + j) (ρ b).cells.toList).toArray) := by
    rw [hst, zi3 _ _ _ (by simp only [Array.length_toList] at hjfit ⊢; omega)]
  simp [execOp, Instr.storeAt, h3, Instr.sureAddr, storeVar, hT.sizeAt hk, hs, hse]
structure SrcM (P : Program) (w : World) (size n : Nat) (y : Value) (news : List Value) : Prop where
  len : (Builtin.lenOf y).run P w = .ok n w
  cells : ∀ m, m ≤ n → (Builtin.firstCells size m y).run P w = .ok (news.take (m * size)).toArray w
  one : ∀ u ∈ news, u.oneCell' = true
theorem z4l {sz n cap : Nat} {a : Option Addr} {news : List Value} (hs : news.length = n * sz) (h1 : ∀ u ∈ news, u.oneCell' = true) (hc : n ≠ 0 → ∃ b off, a = some ⟨b, off, none⟩ ∧ ∀ j v, news[j]? = some v → w.cell? ⟨b, off + j, none⟩ = some v) :
    SrcM P w sz n (.slice a n cap) news := by
  refine ⟨by simp [Builtin.lenOf], fun m hm => ?_, h1⟩
  by_cases hn : n = 0
  · subst hn
    obtain rfl : m = 0 := by omega
    cases a <;> simp [Builtin.firstCells, loadCells, loadCellsFrom]
  · obtain ⟨b, off, rfl, hc2⟩ := hc hn
    have hmul : m * sz ≤ n * sz := Nat.mul_le_mul_right _ hm
    refine run_firstCells_some w sz m _ _ _ _ (by rw [List.length_take, hs]; omega) fun j v hj => ?_
    rw [List.getElem?_take] at hj
    split at hj
    · rw [z1x]; exact hc2 j v hj
    · cases hj
theorem zv6 (hI : WI F E objs cl w) {sz : Nat} {y : AV} {v : Value} {k : List AV → Prop} (hv : Rep E y v) (hsz : 0 < sz) (h : srcV (PA M) sz y cl k) :
    ∃ r news, k r ∧ SrcM P w sz r.length v news ∧ SrcE E sz r news := by
  unfold srcV at h
  split at h
  · rename_i m' w' r
    simp only [zb, Bool.or_eq_true, Nat.beq_eq] at h; obtain ⟨hw, h⟩ := h
    have hv' : Rep E (.lst .ro sz r) v := by
      rcases hw with rfl | hm
      · exact z7v hv
      · have : m' = .nil := by cases m' <;> simp_all [isNil]
        subst this; exact z89 hv
    simp only [Rep] at hv'; obtain ⟨a, len, cap, rfl, hl, hlc, hcm, he1, _, _⟩ := hv'; subst hl
    by_cases hr : r = []
    · subst hr
      exact ⟨[], [], h, z4l (by simp) (by simp) (fun h => absurd rfl h), SrcE.nil E sz⟩
    · obtain ⟨b, off, rfl, hE⟩ := he1 hr
      obtain ⟨ns, n1, n2⟩ := z3f hE; exact ⟨r, ns, h, z4l n1.size (n1.one hsz) (fun _ => ⟨b, off, rfl, fun j v hj => hI.agree _ _ _ ((n2 j (List.getElem?_eq_some_iff.1 hj).1).trans hj)⟩), n1⟩
  · rename_i q w'
    simp only [zb, zv, Nat.beq_eq] at h; obtain ⟨rfl, r, hq, hf, h⟩ := h; obtain ⟨news, h1, h2⟩ := zdj (P := P) hI hv hq; simp only [Rep] at hv; obtain ⟨t, xs, k1, k2, k3, k4⟩ := z1j hI hq hv.1
    rcases k1.2 with ⟨rfl, h0⟩ | ⟨g, cap, cur, rfl, _, hg, hnc, hcm, hcs, htake⟩
    · have hr : r = [] := List.eq_nil_of_length_eq_zero h0
      subst hr
      exact ⟨[], [], h, z4l (by simp) (by simp) (fun h => absurd rfl h), SrcE.nil E _⟩
    · exact ⟨r, xs, h, z4l k1.1 ((k2.toE hf).one k3) (fun _ => ⟨g, 0, rfl, fun j v hj => by
        have := k1.cells (g := g) rfl j v hj; rw [z1x] at this
        simpa using this⟩), k2.toE hf⟩
  · exact h.elim
theorem SrcR.take {sz : Nat} {r : List AV} {ns : List Value} (h : SrcR E sz r ns) (m : Nat) : SrcR E sz (r.take m) (ns.take (m * sz)) := by
  refine ⟨by rw [List.length_take, List.length_take, h.size]; rcases Nat.le_total m r.length with hm | hm
             · rw [Nat.min_eq_left hm, Nat.min_eq_left (Nat.mul_le_mul_right _ hm)]
             · rw [Nat.min_eq_right hm, Nat.min_eq_right (Nat.mul_le_mul_right _ hm)], fun i x hx => ?_⟩
  rw [List.getElem?_take] at hx
  split at hx
  · rename_i hi
    obtain ⟨h1, u, h2, h3, h4⟩ := h.get i x hx; refine ⟨h1, u, h2, h3, fun j hj => ?_⟩; rw [List.getElem?_take, if_pos, h4 j hj]; have : (i + 1) * sz ≤ m * sz := Nat.mul_le_mul_right _ hi; rw [Nat.add_mul] at this; omega
  · cases hx
theorem SrcR.drop {sz : Nat} {r : List AV} {ns : List Value} (h : SrcR E sz r ns) (m : Nat) : SrcR E sz (r.drop m) (ns.drop (m * sz)) := by
  refine ⟨by rw [List.length_drop, List.length_drop, h.size, Nat.sub_mul], fun i x hx => ?_⟩
  rw [List.getElem?_drop] at hx; obtain ⟨h1, u, h2, h3, h4⟩ := h.get _ x hx; refine ⟨h1, u, h2, h3, fun j hj => ?_⟩; rw [List.getElem?_drop, ← h4 j hj]
  congr 1
  rw [Nat.add_mul]; omega
theorem zhp (hT : TabOK P T) (hI : WI F E objs cl w) {ρ : Operand → Value} {dst : Option Tmp} {t e ty : TypeId} {pos : String} {after : Array Edge} {gd : Option (Nat × Bool)} {k : AV → Os → Cl → Prop} {args : Array Operand} {ats : Array TypeId} {ts : List Nat} {u : Nat} {q : Nm} {wd : Nat} {y : AV} {l : List AV}
    (hv : RepT E [.sq q wd, y] (args.toList.map ρ)) (hts : ats.toList = t :: u :: ts) (ht : (T.ty t).k = .slice e) (hw : wd = (T.ty e).size) (h2 : 0 < (T.ty e).size) (hk : (T.ty e).known = true) (hq : cl q = some (.row l))
    (h : srcV (PA M) wd y cl fun r => r.all AV.flat = true ∧ k (.int .i64 (min r.length l.length)) objs (updN cl q (.row (r.take l.length ++ l.drop r.length)))) :
    Does P F E ρ ⟨dst, .call { callee := .builtin .copy, args := args, argTypes := ats }, ty, pos, after, gd⟩ w k := by
  obtain ⟨sv, yv, he, hxr, hyr⟩ := z1y hv; subst hw; obtain ⟨r, news, ⟨hrf, h⟩, s1, s2⟩ := zv6 (P := P) hI hyr h2 h
  have hargs : args.map ρ = #[sv, yv] := by
    apply Array.ext'
    simpa using he
  have g0 : ats[0]? = some t := by rw [← Array.getElem?_toList, hts]; rfl
  have hres : (goInt (Nat.min r.length l.length) : Value) = .int .i64 (min (r.length : Int) l.length) := by
    simp only [goInt]
    congr 1
    rw [show Nat.min r.length l.length = min r.length l.length from rfl]
    omega
  have hx := hxr; simp only [Rep] at hx; obtain ⟨tt, xs, k1, k2, k3, k4⟩ := z1j hI hq hx.1
  rcases k1.2 with ⟨rfl, h0⟩ | ⟨g, cap, cur, rfl, _, hg, hnc, hcm, hcs, htake⟩
  · have hl0 : l = [] := List.eq_nil_of_length_eq_zero h0
    subst hl0
    have hsame : updN cl q (.row (r.take ([] : List AV).length ++ ([] : List AV).drop r.length)) = cl := by
      funext p
      by_cases hqp : q = p
      · subst hqp; rw [zp]; simpa using hq.symm
      · rw [zm _ _ hqp]
    rw [hsame] at h; refine ⟨E, _, .int .i64 (min (r.length : Int) ([] : List AV).length), objs, cl, w, h, E3.le.refl E, z1p, hI, .inl ?_⟩; have hc := s1.cells 0 (Nat.zero_le _); simp only [Nat.zero_mul, List.take_zero] at hc
    have hr : (Builtin.copy_ ats ty #[.slice none 0 0, yv]).run P w = .ok (goInt (Nat.min r.length 0)) w := by
      have hm : Nat.min r.length 0 = 0 := Nat.min_eq_right (Nat.zero_le _); simp [Builtin.copy_, g0, run_underlying (hT.slice ht), s1.len, hm, hT.sizeAt hk w, hc]
    rw [← hres]; simp [execOp, resolve, invoke, builtin, hargs, hr]
  · obtain ⟨m, hm⟩ : ∃ m, m = Nat.min r.length l.length := ⟨_, rfl⟩
    have hm' : m = min r.length l.length := hm
    have hmul : m * (T.ty e).size ≤ l.length * (T.ty e).size := Nat.mul_le_mul_right _ (by omega)
    have hmul2 : m * (T.ty e).size ≤ r.length * (T.ty e).size := Nat.mul_le_mul_right _ (by omega)
    have hns := s2.size
    have hlen : (news.take (m * (T.ty e).size)).length = m * (T.ty e).size := by rw [List.length_take]; omega
    have hle : l.length * (T.ty e).size ≤ cur.size := by rw [hcs]; exact Nat.mul_le_mul_right _ hnc
    have hl' : r.take l.length ++ l.drop r.length = r.take m ++ l.drop m := by
      rcases Nat.le_total r.length l.length with hrl | hrl
      · have : m = r.length := by omega
        subst this; rw [List.take_of_length_le hrl, List.take_of_length_le (Nat.le_refl _)]
      · have : m = l.length := by omega
        subst this; rw [List.drop_of_length_le hrl, List.drop_of_length_le (Nat.le_refl _)]
    have hst := run_storeCells_at P g 0 tt (news.take (m * (T.ty e).size)) 0 cur w hg (by rw [hlen]; omega) (fun u hu => s1.one u (List.mem_of_mem_take hu))
    simp only [Nat.add_zero, Nat.zero_add, List.take_zero, List.nil_append, hlen] at hst
    have hW := hI.row_set (l' := r.take l.length ++ l.drop r.length) hq hx.1 (cur' := (news.take (m * (T.ty e).size) ++ cur.toList.drop (m * (T.ty e).size)).toArray) hg (by
        simp only [List.size_toArray, List.length_append, hlen, List.length_drop, Array.length_toList]; omega)
      (by rw [hl']; simp only [List.length_append, List.length_take, List.length_drop]; omega) (by
        rw [hl', List.toList_toArray]
        have : (news.take (m * (T.ty e).size) ++ cur.toList.drop (m * (T.ty e).size)).take (l.length * (T.ty e).size) = news.take (m * (T.ty e).size) ++ xs.drop (m * (T.ty e).size) := by
          rw [List.take_append, hlen, List.take_of_length_le (by rw [hlen]; exact hmul), ← htake, List.drop_take]
        rw [this]; exact (s2.toR.take m).append (k2.drop m))
    refine ⟨E, _, .int .i64 (min (r.length : Int) l.length), objs, _, _, h, E3.le.refl E, z1p, hW, .inl ?_⟩
    have hc := s1.cells m (by omega)
    have hr : (Builtin.copy_ ats ty #[.slice (some ⟨g, 0, none⟩) l.length cap, yv]).run P w = .ok (goInt (Nat.min r.length l.length)) (w.setRow g (news.take (m * (T.ty e).size) ++ cur.toList.drop (m * (T.ty e).size)).toArray) := by
      simp only [Builtin.copy_, g0, List.getElem?_toArray, List.getElem?_cons_zero, List.getElem?_cons_succ, Sem.run_bind, run_underlying (hT.slice ht), Result.andThen_ok, s1.len, hT.sizeAt hk w, ← hm, hc]; simp [hst]
    rw [← hres]; simp [execOp, resolve, invoke, builtin, hargs, hr]
theorem zf7 {E' : E3} (hle : E.le E') {q : Nm} {l : List AV} (hs : ∀ sz v, Rep E (.sq q sz) v → Rep E' (.lst .ro sz l) v) {x : AV} {v : Value} (h : Rep E x v) : Rep E' (fzV q l x) v := by
  unfold fzV
  split
  · rename_i q' wd
    cases hb : Nm.beq q q' with
    | true => rw [← Nm.beq_iff.1 hb] at h; exact hs _ _ h
    | false => exact h.mono hle
  · exact h.mono hle
theorem zv7 {q : Nm} {l : List AV} {x : AV} (h : x.one = true) : (fzV q l x).one = true := by
  unfold fzV
  split
  · rename_i q' wd
    cases Nm.beq q q' <;> rfl
  · exact h
theorem z8a {E' : E3} (hle : E.le E') {q : Nm} {l : List AV} (hs : ∀ sz v, Rep E (.sq q sz) v → Rep E' (.lst .ro sz l) v) : ∀ {cs : List AV} {vs : List Value}, RepL E cs vs → RepL E' (cs.map (fzV q l)) vs
  | [], vs, h => by simpa [RepL] using h
  | x :: cs, vs, h => by
    simp only [RepL, List.map_cons] at h ⊢; obtain ⟨v, r, rfl, h1, h2, h3, h4⟩ := h; exact ⟨v, r, rfl, zv7 h1, h2, zf7 hle hs h3, z8a hle hs h4⟩
theorem zlo {E' : E3} (hle : E.le E') {q : Nm} {l : List AV} (hs : ∀ sz v, Rep E (.sq q sz) v → Rep E' (.lst .ro sz l) v) {x : AV} {v : Value} (h : Rep E x v) : Rep E' (fzW q l x) v := by
  unfold fzW
  split
  · simp only [Rep] at h ⊢
    obtain ⟨vs, rfl, h⟩ := h; exact ⟨vs, rfl, z8a hle hs h⟩
  · rename_i ts
    simp only [Rep] at h ⊢; obtain ⟨vs, rfl, h⟩ := h; refine ⟨vs, rfl, ?_⟩
    induction ts generalizing vs with
    | nil => simpa [RepT] using h
    | cons x ts ih =>
      simp only [RepT, List.map_cons] at h ⊢; obtain ⟨v, r, rfl, h1, h2⟩ := h; refine ⟨v, r, rfl, ?_, ih _ h2⟩
      split
      · simp only [Rep] at h1 ⊢
        obtain ⟨us, rfl, h1⟩ := h1; exact ⟨us, rfl, z8a hle hs h1⟩
      · exact zf7 hle hs h1
  · exact zf7 hle hs h
theorem WI.fz_objs (h : WI F E objs cl w) {q : Nm} {l : List AV} (hs : ∀ sz v, Rep E (.sq q sz) v → Rep E (.lst .ro sz l) v) : WI F E (fun o => fzO q l (objs o)) cl w := by
  have oldo : ∀ {o : Nat} {cs : List AV}, fzO q l (objs o) = some (.live cs) → ∃ cs0, objs o = some (.live cs0) ∧ cs = cs0.map (fzV q l) := by
    intro o cs ho; unfold fzO at ho
    split at ho
    · rename_i cs0 h0
      injection ho with ho; injection ho with ho; exact ⟨cs0, h0, ho.symm⟩
    · rename_i x hx
      exact absurd ho (hx cs)
  refine { h with live := ?_, frz := ?_, oo := ?_, oc := ?_, mdom := ?_, pm := ?_ }
  · intro o cs ho
    obtain ⟨cs0, h0, rfl⟩ := oldo ho; obtain ⟨b, t, vs, h1, h2, h3, h4⟩ := h.live o cs0 h0; exact ⟨b, t, vs, h1, h2, z8a (E3.le.refl E) hs h3, h4⟩
  · intro o cs ho
    unfold fzO at ho
    split at ho
    · cases ho
    · exact h.frz o cs ho
  · intro o o' cs cs' b ho ho'
    obtain ⟨c0, h0, _⟩ := oldo ho; obtain ⟨c1, h1, _⟩ := oldo ho'; exact h.oo o o' c0 c1 b h0 h1
  · intro o cs b q v s ho
    obtain ⟨c0, h0, _⟩ := oldo ho; exact h.oc o c0 b q v s h0
  · intro o b hm hn
    unfold fzO at hn
    split at hn
    · cases hn
    · exact h.mdom o b hm hn
  · intro j b cs hj ho
    obtain ⟨c0, h0, _⟩ := oldo ho; exact h.pm j b c0 hj h0
end V
namespace V
def Named0 (cl : Cl) (nm : Nm) (v : AV) : Prop :=
  match v with
  | .lst (.own q) _ _ => q = nm ∧ cl q = some .own
  | .lst .uq _ l => cl nm = some (.row l) ∧ l.all AV.flat = true
  | _ => True
def NamedC (cl : Cl) (nm : Nat → Nm) (cs : List AV) : Prop := ∀ i v, cs[i]? = some v → Named0 cl (nm i) v
def Named1 (cl : Cl) (nm : Nm) (v : AV) : Prop :=
  match v with
  | .agg cs => NamedC cl (subN nm) cs
  | v => Named0 cl nm v
def objsOf (ins : List (Nat × List AV)) : Os := ofL (ins.map fun p => (p.1, Ob.live (frC (Nm.E p.1) 0 p.2)))
def NamedO (outs : List (Nat × List AV)) (cl : Cl) : Prop := ∀ j cs, (j, cs) ∈ outs → NamedC cl (Nm.E j) cs
def frR : Nat → List AV → List AV
  | _, [] => []
  | r, v :: l => fr1 (.R r) v :: frR (r + 1) l
def NamedR (res : List AV) (cl : Cl) : Prop := ∀ (r : Nat) v, res[r]? = some v → Named1 cl (.R r) v
def NamedA (args : List AV) (cl : Cl) : Prop := ∀ (j : Nat) v, args[j]? = some v → Named1 cl (.Y 3 j 0 0) v
def Sem (P : Program) (f : Nat) (args : List AV) (ins : List (Nat × List AV)) (Q : List AV → List (Nat × List AV) → Prop) : Prop :=
  ∀ (F : Fr) (E : E3) (cl : Cl) (w : World) (vals : Array Value), F.w0 = w → F.S0 = E.S → F.mu0 = E.mu → RepT E (frA 0 args) vals.toList → WI F E (objsOf ins) cl w → NamedO ins cl → NamedA args cl →
    Calls P f vals w fun e w' => ∃ v res outs E' cl', e = .returned v ∧ Q res outs ∧ Rep E' (one1 (frR 0 res)) v ∧ WI F E' (objsOf outs) cl' w' ∧ NamedO outs cl' ∧ NamedR res cl' ∧ (outs.map (·.1)).Nodup
theorem Sem.mono {P : Program} {f : Nat} {args : List AV} {ins : List (Nat × List AV)} {Q Q' : List AV → List (Nat × List AV) → Prop} (h : Sem P f args ins Q) (hq : ∀ r o, Q r o → Q' r o) : Sem P f args ins Q' :=
  fun F E cl w vals h1 h2 h3 h4 h5 h6 h7 => (h F E cl w vals h1 h2 h3 h4 h5 h6 h7).mono fun e w' ⟨v, res, outs, E', cl', g1, g2, g3⟩ => ⟨v, res, outs, E', cl', g1, hq _ _ g2, g3⟩
def SM (P : Program) (L : LoopM) : Meaning := ⟨Sem P, L⟩
variable {P : Program} {T : Tab} {F : Fr} {E : E3} {objs : Os} {cl : Cl} {w : World}
theorem WI.add_obj (h : WI F E objs cl w) {o b : Nat} {t : TypeId} {cs : List AV} {vs : List Value} (hm : E.mu o = some b) (hb : w.heap[b]? = some (.cells vs.toArray t (0, 0))) (hr : RepL E cs vs) (hS : ∀ i, E.S b i = none) (hown : F.own b)
    (h1 : ∀ o' cs', o' ≠ o → objs o' = some (.live cs') → E.mu o' ≠ some b) (h2 : ∀ q v s, isAl (cl q) = true → E.ka q = some (v, s) → v.ownBlock ≠ some b) (hpm : ∀ b', F.mu0 o = some b' → b' = b) : WI F E (upd objs o (.live cs)) cl w := by
  have oldo : ∀ {p : Nat} {x : Ob}, (upd objs o (.live cs)) p = some x → (p = o ∧ x = .live cs) ∨ (p ≠ o ∧ objs p = some x) := by
    intro p x hp
    by_cases hod : o = p
    · subst hod; rw [zk] at hp; cases hp; exact .inl ⟨rfl, rfl⟩
    · rw [zf _ _ hod] at hp; exact .inr ⟨fun e => hod e.symm, hp⟩
  refine { h with live := ?_, frz := ?_, oo := ?_, oc := ?_, mdom := ?_, pm := ?_ }
  · intro p c hp
    rcases oldo hp with ⟨e1, e2⟩ | ⟨_, hp⟩
    · cases e2; subst e1; exact ⟨b, t, vs, hm, hb, hr, hS, hown⟩
    · exact h.live p c hp
  · intro p c hp
    rcases oldo hp with ⟨_, e2⟩ | ⟨_, hp⟩
    · cases e2
    · exact h.frz p c hp
  · intro p p' c c' b' hp hp' hm1 hm2
    rcases oldo hp with ⟨e1, _⟩ | ⟨n1, hp1⟩ <;> rcases oldo hp' with ⟨e2, _⟩ | ⟨n2, hp2⟩
    · rw [e1, e2]
    · subst e1; rw [hm] at hm1; cases hm1; exact absurd hm2 (h1 p' c' n2 hp2)
    · subst e2; rw [hm] at hm2; cases hm2; exact absurd hm1 (h1 p c n1 hp1)
    · exact h.oo p p' c c' b' hp1 hp2 hm1 hm2
  · intro p c b' q v s hp hm1 hq hk
    rcases oldo hp with ⟨e1, _⟩ | ⟨_, hp⟩
    · subst e1; rw [hm] at hm1; cases hm1; exact h2 q v s hq hk
    · exact h.oc p c b' q v s hp hm1 hq hk
  · intro p b' hp
    by_cases hop : o = p
    · subst hop; rw [zk]; simp
    · rw [zf _ _ hop]; exact h.mdom p b' hp
  · intro j b' c hj hp
    rcases oldo hp with ⟨e1, _⟩ | ⟨_, hp⟩
    · subst e1
      rw [hpm b' hj]; exact hm
    · exact h.pm j b' c hj hp
structure Two (F1 : Fr) (E1 : E3) (o1 : Os) (c1 : Cl) (F2 : Fr) (E2 : E3) (o2 : Os) (c2 : Cl) (w : World) : Prop where
  a : WI F1 E1 o1 c1 w
  b : WI F2 E2 o2 c2 w
  S : E2.S = E1.S
  own : ∀ g, F1.own g → F2.own g
  oo : ∀ o o' cs cs' g, o1 o = some (.live cs) → o2 o' = some (.live cs') → E1.mu o = some g → E2.mu o' = some g → False
  oc : ∀ o cs g q v s, o1 o = some (.live cs) → E1.mu o = some g → isAl (c2 q) = true → E2.ka q = some (v, s) → v.ownBlock ≠ some g
  co : ∀ o cs g q v s, o2 o = some (.live cs) → E2.mu o = some g → isAl (c1 q) = true → E1.ka q = some (v, s) → v.ownBlock ≠ some g
  cc : ∀ q q' v v' s s' g, isAl (c1 q) = true → isAl (c2 q') = true → E1.ka q = some (v, s) → E2.ka q' = some (v', s') → v.ownBlock = some g → v'.ownBlock ≠ some g
variable {F1 F2 : Fr} {E1 E2 : E3} {o1 o2 : Os} {c1 c2 : Cl}
theorem z45 {c : Cl} {q p : Nm} {x : Cs} (h : isAl (updN c q x p) = true) : p = q ∨ (p ≠ q ∧ isAl (c p) = true) := by
  by_cases hqp : q = p
  · exact .inl hqp.symm
  · rw [zm _ _ hqp] at h; exact .inr ⟨fun e => hqp e.symm, h⟩
theorem z5u {c : Cl} {q p : Nm} (h : isAl (updN c q .dead p) = true) : p ≠ q ∧ isAl (c p) = true := by
  by_cases hqp : q = p
  · subst hqp; rw [zp] at h; cases h
  · rw [zm _ _ hqp] at h; exact ⟨fun e => hqp e.symm, h⟩
theorem z1m {f : Nm → Option (Value × Nat)} {q p : Nm} {x y : Value × Nat} (h : updK f q x p = some y) : (p = q ∧ y = x) ∨ (p ≠ q ∧ f p = some y) := by
  simp only [updK] at h
  split at h
  · rename_i e; injection h with h; exact .inl ⟨e.symm, h.symm⟩
  · rename_i e; exact .inr ⟨fun e' => e e'.symm, h⟩
theorem z3g {f : Nm → Option (Value × Nat)} {q : Nm} {x : Value × Nat} : updK f q x q = some x := by simp [updK]
theorem Two.move_claim (h : Two F1 E1 o1 c1 F2 E2 o2 c2 w) {q nm : Nm} {x : Cs} (hq0 : c1 q = some x) (hal : isAl (some x) = true) (hfl : ∀ l, x = .row l → l.all AV.flat = true) (hnm : c2 nm = none) {v : Value} {s : Nat} (hk : E1.ka q = some (v, s)) :
    E2.le { E2 with ka := updK E2.ka nm (v, s) } ∧ Two F1 E1 o1 (updN c1 q .dead) F2 { E2 with ka := updK E2.ka nm (v, s) } o2 (updN c2 nm x) w := by
  have hq : isAl (c1 q) = true := by rw [hq0]; exact hal
  obtain ⟨v', s', t, n, xs, k1, k2, k3, k4⟩ := h.a.claim q hq
  rw [hk] at k1; cases k1
  obtain ⟨t, n, xs, k3, k4, k5⟩ : ∃ t n xs, w.ownsRow 0 t s v n xs ∧ (∀ g, v.ownBlock = some g → F1.own g ∧ ∀ i, n * s ≤ i → E1.S g i = none) ∧ (∀ l, x = .row l → SrcR E2 s l xs ∧ l.length = n ∧ ∀ g, v.ownBlock = some g → ∀ i, E2.S g i = none) := by
    cases x with
    | row l =>
      obtain ⟨v', s', t', n', xs', m1, m2, m3, m4, m5⟩ := h.a.rows q l hq0
      rw [hk] at m1; cases m1
      refine ⟨t', n', xs', m2, fun g hg => ⟨(k4 g hg).1, fun i _ => m5 g hg i⟩, fun l' e => ?_⟩
      cases e
      refine ⟨(SrcE.mono (E' := E2) (fun b i v hv => by rw [h.S]; exact hv) (m3.toE (hfl l rfl))).toR, m4, fun g hg i => by rw [h.S]; exact m5 g hg i⟩
    | _ => exact ⟨t, n, xs, k3, k4, fun l e => by cases e⟩
  obtain ⟨g1, g2⟩ := h.b.new_claimC (c := x) hnm hal k2 k3 (fun g hg => ⟨h.own g (k4 g hg).1, fun i hi => by rw [h.S]; exact (k4 g hg).2 i hi, fun o cs ho hm => h.co o cs g q v s ho hm hq hk hg, fun q' v' s' hq' hk' hg' => h.cc q q' v v' s s' g hq hq' hk hk' hg hg'⟩) k5
  refine ⟨g1, h.a.kill_claim q, g2, h.S, h.own, h.oo, ?_, ?_, ?_⟩
  · intro o cs g p v1 s1 ho hm hp hk1 hg
    rcases z45 hp with rfl | ⟨hne, hp⟩
    · rcases z1m hk1 with ⟨_, e⟩ | ⟨hne, _⟩
      · cases e; exact h.a.oc o cs g q v s ho hm hq hk hg
      · exact hne rfl
    · rcases z1m hk1 with ⟨e, _⟩ | ⟨_, hk1⟩
      · exact hne e
      · exact h.oc o cs g p v1 s1 ho hm hp hk1 hg
  · intro o cs g p v1 s1 ho hm hp hk1
    exact h.co o cs g p v1 s1 ho hm (z5u hp).2 hk1
  · intro p p' v1 v2 s1 s2 g hp hp' hk1 hk2 hg1 hg2
    obtain ⟨hne, hp⟩ := z5u hp
    rcases z45 hp' with rfl | ⟨hne', hp'⟩
    · rcases z1m hk2 with ⟨_, e⟩ | ⟨hne2, _⟩
      · cases e; exact hne (h.a.cc p q v1 v s1 s g hp hq hk1 hk hg1 hg2)
      · exact hne2 rfl
    · rcases z1m hk2 with ⟨e, _⟩ | ⟨_, hk2⟩
      · exact hne' e
      · exact h.cc p p' v1 v2 s1 s2 g hp hp' hk1 hk2 hg1 hg2
theorem zc2 {p : AV → Bool} {l : List AV} {m : Nat} (h : l.all p = true) : (l.take m).all p = true := List.all_eq_true.2 fun x hx => List.all_eq_true.1 h x (List.mem_of_mem_take hx)
theorem Two.move_sub (h : Two F1 E1 o1 c1 F2 E2 o2 c2 w) {q nm : Nm} {l : List AV} (hq0 : c1 q = some (.row l)) (hf : l.all AV.flat = true) (hnm : c2 nm = none) {g0 n cap m s : Nat} (hk : E1.ka q = some (.slice (some ⟨g0, 0, none⟩) n cap, s)) (hm : m ≤ n) :
    E2.le { E2 with ka := updK E2.ka nm (.slice (some ⟨g0, 0, none⟩) m cap, s) } ∧ Two F1 E1 o1 (updN c1 q .dead) F2 { E2 with ka := updK E2.ka nm (.slice (some ⟨g0, 0, none⟩) m cap, s) } o2 (updN c2 nm (.row (l.take m))) w := by
  have hq : isAl (c1 q) = true := by rw [hq0]; rfl
  obtain ⟨v', s', t', n', xs', m1, k2, _, k4⟩ := h.a.claim q hq
  rw [hk] at m1; cases m1
  obtain ⟨v', s', t, nn, xs, m1, m2, m3, m4, m5⟩ := h.a.rows q l hq0
  rw [hk] at m1; cases m1
  have hk0 : (Value.slice (some ⟨g0, 0, none⟩) n cap).ownBlock = some g0 := rfl
  have hown : w.ownsRow 0 t s (.slice (some ⟨g0, 0, none⟩) m cap) m (xs.take (m * s)) ∧ nn = n := by
    obtain ⟨e1, e2⟩ := m2
    rcases e2 with ⟨e2, _⟩ | ⟨g', cap', cur, e2, f1, f2, f3, f4, f5, f6⟩
    · cases e2
    · cases e2
      have hms : m * s ≤ n * s := Nat.mul_le_mul_right _ hm; refine ⟨⟨?_, .inr ⟨g0, cap, cur, rfl, f1, f2, Nat.le_trans hm f3, f4, f5, ?_⟩⟩, rfl⟩
      · rw [List.length_take, e1]; omega
      · rw [← f6, List.take_take, Nat.min_eq_left hms]
  obtain ⟨hown, rfl⟩ := hown
  have hsr : SrcR E2 s (l.take m) (xs.take (m * s)) := (SrcE.mono (E' := E2) (fun b i v hv => by rw [h.S]; exact hv) ((m3.take m).toE (zc2 hf))).toR
  have hlen : (l.take m).length = m := by rw [List.length_take, m4]; exact Nat.min_eq_left hm
  obtain ⟨g1, g2⟩ := h.b.new_claimC (c := .row (l.take m)) hnm rfl k2 hown (fun g hg => by
      have hg' : (Value.slice (some ⟨g0, 0, none⟩) nn cap).ownBlock = some g := hg
      exact ⟨h.own g (k4 g hg').1, fun i hi => by rw [h.S]; exact m5 g hg' i, fun o cs ho hmu => h.co o cs g q _ s ho hmu hq hk hg', fun q' v' s' hq' hk' hg2 => h.cc q q' _ v' s s' g hq hq' hk hk' hg' hg2⟩)
    (fun l' e => by cases e; exact ⟨hsr, hlen, fun g hg i => by rw [h.S]; exact m5 g hg i⟩)
  refine ⟨g1, h.a.kill_claim q, g2, h.S, h.own, h.oo, ?_, ?_, ?_⟩
  · intro o cs g p v1 s1 ho hmu hp hk1 hg
    rcases z45 hp with rfl | ⟨hne, hp⟩
    · rcases z1m hk1 with ⟨_, e⟩ | ⟨hne, _⟩
      · cases e; exact h.a.oc o cs g q _ s ho hmu hq hk hg
      · exact hne rfl
    · rcases z1m hk1 with ⟨e, _⟩ | ⟨_, hk1⟩
      · exact hne e
      · exact h.oc o cs g p v1 s1 ho hmu hp hk1 hg
  · intro o cs g p v1 s1 ho hmu hp hk1
    exact h.co o cs g p v1 s1 ho hmu (z5u hp).2 hk1
  · intro p p' v1 v2 s1 s2 g hp hp' hk1 hk2 hg1 hg2
    obtain ⟨hne, hp⟩ := z5u hp
    rcases z45 hp' with rfl | ⟨hne', hp'⟩
    · rcases z1m hk2 with ⟨_, e⟩ | ⟨hne2, _⟩
      · cases e; exact hne (h.a.cc p q v1 _ s1 s g hp hq hk1 hk hg1 hg2)
      · exact hne2 rfl
    · rcases z1m hk2 with ⟨e, _⟩ | ⟨_, hk2⟩
      · exact hne' e
      · exact h.cc p p' v1 v2 s1 s2 g hp hp' hk1 hk2 hg1 hg2
theorem Two.nil_claim (h : Two F1 E1 o1 c1 F2 E2 o2 c2 w) {nm : Nm} {x : Cs} (hal : isAl (some x) = true) (hx : ∀ l, x = .row l → l = []) (hnm : c2 nm = none) {s : Nat} (hs : 0 < s) :
    E2.le { E2 with ka := updK E2.ka nm (.slice none 0 0, s) } ∧ Two F1 E1 o1 c1 F2 { E2 with ka := updK E2.ka nm (.slice none 0 0, s) } o2 (updN c2 nm x) w := by
  obtain ⟨g1, g2⟩ := h.b.new_claimC (q := nm) (c := x) hnm hal (v := .slice none 0 0) (t := 0) (n := 0) (xs := []) hs (World.ownsRow_nil w 0 0 s) (fun g hg => by simp [Value.ownBlock] at hg) (fun l e => by
    have := hx l e; subst this
    exact ⟨SrcR.nil E2 s, rfl, fun g hg => by simp [Value.ownBlock] at hg⟩)
  refine ⟨g1, h.a, g2, h.S, h.own, h.oo, ?_, h.co, ?_⟩
  · intro o cs g p v1 s1 ho hm hp hk1 hg
    rcases z45 hp with rfl | ⟨hne, hp⟩
    · rcases z1m hk1 with ⟨_, e⟩ | ⟨hne, _⟩
      · cases e; simp [Value.ownBlock] at hg
      · exact hne rfl
    · rcases z1m hk1 with ⟨e, _⟩ | ⟨_, hk1⟩
      · exact hne e
      · exact h.oc o cs g p v1 s1 ho hm hp hk1 hg
  · intro p p' v1 v2 s1 s2 g hp hp' hk1 hk2 hg1 hg2
    rcases z45 hp' with rfl | ⟨hne', hp'⟩
    · rcases z1m hk2 with ⟨_, e⟩ | ⟨hne2, _⟩
      · cases e; simp [Value.ownBlock] at hg2
      · exact hne2 rfl
    · rcases z1m hk2 with ⟨e, _⟩ | ⟨_, hk2⟩
      · exact hne' e
      · exact h.cc p p' v1 v2 s1 s2 g hp hp' hk1 hk2 hg1 hg2
theorem z51 {f : Os} {o p : Nat} {x : Ob} {cs : List AV} (h : upd f o x p = some (.live cs)) : (p = o ∧ x = .live cs) ∨ (p ≠ o ∧ f p = some (.live cs)) := by
  by_cases hod : o = p
  · subst hod; rw [zk] at h; cases h; exact .inl ⟨rfl, rfl⟩
  · rw [zf _ _ hod] at h; exact .inr ⟨fun e => hod e.symm, h⟩
theorem Two.move_obj (h : Two F1 E1 o1 c1 F2 E2 o2 c2 w) {o j b : Nat} {cs cs' : List AV} (ho : o1 o = some (.live cs)) (hm : E1.mu o = some b) (hj : E2.mu j = some b) {t : TypeId} {vs : List Value} (k2 : w.heap[b]? = some (.cells vs.toArray t (0, 0)))
    (hr : RepL E2 cs' vs) (hpm : ∀ b', F2.mu0 j = some b' → b' = b) : Two F1 E1 (upd o1 o .dead) c1 F2 E2 (upd o2 j (.live cs')) c2 w := by
  obtain ⟨b', t', vs', k1, _, _, k4, k5⟩ := h.a.live o cs ho
  rw [hm] at k1; cases k1
  have hB := h.b.add_obj (o := j) (b := b) (t := t) (cs := cs') (vs := vs) hj k2 hr (by rw [h.S]; exact k4) (h.own b k5)
    (fun o' c' _ ho' hm' => h.oo o o' cs c' b ho ho' hm hm') (fun q v s hq hk hg => h.oc o cs b q v s ho hm hq hk hg) hpm
  refine ⟨h.a.kill_obj o, hB, h.S, h.own, ?_, ?_, ?_, h.cc⟩
  · intro p p' c c' g hp hp' hm1 hm2
    rcases z51 hp with ⟨_, e⟩ | ⟨hne, hp⟩
    · cases e
    · rcases z51 hp' with ⟨rfl, _⟩ | ⟨_, hp'⟩
      · rw [hj] at hm2; cases hm2; exact hne (h.a.oo p o c cs b hp ho hm1 hm)
      · exact h.oo p p' c c' g hp hp' hm1 hm2
  · intro p c g q v s hp hm1 hq hk
    rcases z51 hp with ⟨_, e⟩ | ⟨_, hp⟩
    · cases e
    · exact h.oc p c g q v s hp hm1 hq hk
  · intro p c g q v s hp hm1 hq hk
    rcases z51 hp with ⟨rfl, _⟩ | ⟨_, hp⟩
    · rw [hj] at hm1; cases hm1; exact h.a.oc o cs b q v s ho hm hq hk
    · exact h.co p c g q v s hp hm1 hq hk
theorem Two.name (h : Two F1 E1 o1 c1 F2 E2 o2 c2 w) {j b : Nat} (hj : o2 j = none) : E2.le { E2 with mu := upd E2.mu j b } ∧ Two F1 E1 o1 c1 F2 { E2 with mu := upd E2.mu j b } (upd o2 j .dead) c2 w := by
  have hmd : E2.mu j = none := by
    cases hm : E2.mu j with
    | none => rfl
    | some b => exact absurd hj (h.b.mdom j b hm)
  have hle := le_mu (b := b) hmd
  have hold : ∀ {p : Nat} {c : List AV}, upd o2 j .dead p = some (.live c) → p ≠ j ∧ o2 p = some (.live c) := by
    intro p c hp
    rcases z51 hp with ⟨_, e⟩ | h
    · cases e
    · exact h
  have hmu : ∀ {p : Nat}, p ≠ j → upd E2.mu j b p = E2.mu p := fun hp => zf _ _ (Ne.symm hp); refine ⟨hle, h.a, ?_, h.S, h.own, ?_, h.oc, ?_, h.cc⟩
  · refine { h.b with live := ?_, frz := ?_, oo := ?_, oc := ?_, mdom := ?_, pm := ?_, claim := h.b.claim, rows := fun q l hq => (by
      obtain ⟨v, sz, t, n, xs, g1, g2, g3, g4⟩ := h.b.rows q l hq; exact ⟨v, sz, t, n, xs, g1, g2, g3.mono hle, g4⟩) }
    · intro p c hp
      obtain ⟨hne, hp⟩ := hold hp; obtain ⟨b', t, vs, g1, g2, g3, g4⟩ := h.b.live p c hp; exact ⟨b', t, vs, (hmu hne).trans g1, g2, g3.mono hle, g4⟩
    · intro p c hp
      have hne : p ≠ j := by rintro rfl; rw [zk] at hp; cases hp
      rw [zf _ _ (Ne.symm hne)] at hp; obtain ⟨b', vs, g1, g2, g3, g4⟩ := h.b.frz p c hp; exact ⟨b', vs, (hmu hne).trans g1, g2, g3.mono hle, g4⟩
    · intro p p' c c' g hp hp' hm1 hm2
      obtain ⟨n1, hp⟩ := hold hp; obtain ⟨n2, hp'⟩ := hold hp'; exact h.b.oo p p' c c' g hp hp' ((hmu n1).symm.trans hm1) ((hmu n2).symm.trans hm2)
    · intro p c g q v s hp hm1 hq hk
      obtain ⟨n1, hp⟩ := hold hp; exact h.b.oc p c g q v s hp ((hmu n1).symm.trans hm1) hq hk
    · intro p b' hp
      by_cases hne : p = j
      · subst hne; rw [zk]; simp
      · rw [zf _ _ (Ne.symm hne)]; exact h.b.mdom p b' ((hmu hne).symm.trans hp)
    · intro p b' c hj' hp
      obtain ⟨n1, hp⟩ := hold hp; exact (hmu n1).trans (h.b.pm p b' c hj' hp)
  · intro p p' c c' g hp hp' hm1 hm2
    obtain ⟨n2, hp'⟩ := hold hp'; exact h.oo p p' c c' g hp hp' hm1 ((hmu n2).symm.trans hm2)
  · intro p c g q v s hp hm1 hq hk
    obtain ⟨n1, hp⟩ := hold hp; exact h.co p c g q v s hp ((hmu n1).symm.trans hm1) hq hk
theorem eS {E1 E2 : E3} (h : E2.S = E1.S) : ∀ b i v, E1.S b i = some v → E2.S b i = some v := fun b i v hv => by rw [h]; exact hv
variable {M : Meaning}
theorem z52 {nm : Nm} {c : AV} (h : c.flat = true) : fr0 nm c = c := by
  unfold fr0
  split
  · simp [AV.flat, AV.flat1] at h
  · rfl
theorem zp5 {nm : Nm} {c : AV} (h : c.flat1 = true) : fr0 nm c = c := by
  unfold fr0
  split
  · simp [AV.flat1] at h
  · rfl
theorem z5d {cl : Cl} {nm : Nm} {c : AV} (h : c.flat = true) : Named0 cl nm c := by
  unfold Named0
  split
  · simp [AV.flat, AV.flat1] at h
  · simp [AV.flat, AV.flat1] at h
  · trivial
theorem z1z {c : AV} (h : c.flat1 = true) : c.flat = true := by
  cases c <;> first | exact h | (simp [AV.flat1] at h; done)
theorem z6d {nm : Nat → Nm} : ∀ {cs : List AV} {i : Nat}, cs.all AV.flat1 = true → frC nm i cs = cs
  | [], i, _ => rfl
  | c :: cs, i, h => by
    simp only [List.all_cons, Bool.and_eq_true] at h; simp only [frC, zp5 h.1, z6d h.2]
theorem z1a {c c' : Cl} {nm : Nm} {v : AV} (h : c' nm = c nm) (k : Named0 c nm v) : Named0 c' nm v := by
  unfold Named0 at k ⊢
  split at k
  · obtain ⟨rfl, k⟩ := k; exact ⟨rfl, by rw [h]; exact k⟩
  · rw [h]; exact k
  · trivial
theorem zib (nm : Nm) : ∀ i j, subN nm i = subN nm j → i = j := by
  intro i j h
  cases nm with
  | Y k a b c =>
    unfold subN at h
    split at h <;> simp_all
  | _ => simp_all [subN]
theorem zic {sh : Sh} {nm : Nm} {c : AV} {k : AV → Cl → Prop} (h : Two F1 E1 o1 c1 F2 E2 o2 c2 w) (hnm : c2 nm = none) {v : Value} (hc : Rep E1 c v) (hx : exp0 (PA M) sh nm c c1 k) :
    ∃ c' c1' E2' c2', k c' c1' ∧ Two F1 E1 o1 c1' F2 E2' o2 c2' w ∧ E2.le E2' ∧ E2'.mu = E2.mu ∧ Rep E2' (fr0 nm c') v ∧ Named0 c2' nm c' ∧ (∀ q, q ≠ nm → c2' q = c2 q) ∧ (c.one = true → (fr0 nm c').one = true) ∧ (∀ q, c1 q = none → c1' q = none) := by
  have flat : ∀ {c : AV}, Rep E1 c v → c.flat = true → k c c1 → ∃ c' c1' E2' c2', k c' c1' ∧ Two F1 E1 o1 c1' F2 E2' o2 c2' w ∧ E2.le E2' ∧ E2'.mu = E2.mu ∧ Rep E2' (fr0 nm c') v ∧ Named0 c2' nm c' ∧ (∀ q, q ≠ nm → c2' q = c2 q) ∧ (c.one = true → (fr0 nm c').one = true) ∧ (∀ q, c1 q = none → c1' q = none) := by
    intro c hc hf hk
    exact ⟨c, c1, E2, c2, hk, h, E3.le.refl E2, rfl, by rw [z52 hf]; exact hc.flat_mono (eS h.S) hf, z5d hf, fun _ _ => rfl, fun ho => by rw [z52 hf]; exact ho, fun _ h => h⟩
  unfold exp0 at hx
  split at hx
  · rename_i wd q wd' l
    simp only [zb, Bool.and_eq_true, Nat.beq_eq] at hx; obtain ⟨⟨rfl, hq⟩, hk⟩ := hx
    have hq : c1 q = some .own := by unfold isOwn at hq; split at hq <;> simp_all
    have hc' := hc; simp only [Rep] at hc; obtain ⟨a, len, cap, rfl, hl, hlc, hcm, he1, _, hka⟩ := hc; have hkq := hka q rfl
    obtain ⟨g1, g2⟩ := h.move_claim hq rfl (fun l e => by cases e) hnm hkq
    have hne : ∀ p, c1 p = none → updN c1 q .dead p = none := fun p hp => by
      rw [zm _ _ (by rintro rfl; rw [hq] at hp; cases hp)]; exact hp
    refine ⟨_, _, _, _, hk, g2, g1, rfl, ?_, ⟨rfl, zp _ _ _⟩, fun p hp => zm _ _ (Ne.symm hp), fun _ => rfl, hne⟩; have hro : Rep E2 (.lst .ro wd' l) (.slice a len cap) := (z7v hc').flat_mono (eS h.S) rfl; simp only [fr0, Rep] at hro ⊢; obtain ⟨a', len', cap', e, r1, r2, r3, r4, _, _⟩ := hro
    refine ⟨a', len', cap', e, r1, r2, r3, ?_, by simp, fun p hp => by injection hp with hp; subst hp; rw [z3g]⟩
    intro hne; obtain ⟨b, off, e2, r5⟩ := r4 hne; refine ⟨b, off, e2, RepE.of_get fun i x hx => ?_⟩; obtain ⟨s1, u, s2, s3⟩ := r5.get i x hx; exact ⟨s1, u, s2.mono g1, s3⟩
  · rename_i wd wd' l
    simp only [zb, Nat.blt_eq] at hx; obtain ⟨hw, hk⟩ := hx; obtain ⟨rfl, rfl⟩ := zb9 hc
    obtain ⟨g1, g2⟩ := h.nil_claim (x := .own) rfl (fun l e => by cases e) hnm hw
    refine ⟨_, _, _, _, hk, g2, g1, rfl, ?_, ⟨rfl, zp _ _ _⟩, fun p hp => zm _ _ (Ne.symm hp), fun _ => rfl, fun _ h => h⟩; simp only [fr0, Rep]
    exact ⟨none, 0, 0, rfl, rfl, Nat.le_refl _, Nat.zero_le _, fun h => absurd rfl h, by simp, fun p hp => by injection hp with hp; subst hp; rw [z3g]⟩
  · cases hx
  · rename_i wd q wd'
    simp only [zb, zv, Nat.beq_eq] at hx; obtain ⟨rfl, l, hq, hf, hk⟩ := hx; simp only [Rep] at hc; obtain ⟨hkq, hsl⟩ := hc
    obtain ⟨g1, g2⟩ := h.move_claim hq rfl (fun l e => by cases e; exact hf) hnm hkq
    have hne : ∀ p, c1 p = none → updN c1 q .dead p = none := fun p hp => by
      rw [zm _ _ (by rintro rfl; rw [hq] at hp; cases hp)]; exact hp
    refine ⟨_, _, _, _, hk, g2, g1, rfl, ?_, ⟨zp _ _ _, hf⟩, fun p hp => zm _ _ (Ne.symm hp), fun _ => rfl, hne⟩; simp only [fr0, Rep]
    exact ⟨by rw [z3g], hsl⟩
  · rename_i wd wd' l
    simp only [zb, Nat.blt_eq] at hx; obtain ⟨hw, hk⟩ := hx; obtain ⟨rfl, rfl⟩ := zb9 hc
    obtain ⟨g1, g2⟩ := h.nil_claim (x := .row []) rfl (fun l e => by cases e; rfl) hnm hw
    refine ⟨_, _, _, _, hk, g2, g1, rfl, ?_, ⟨zp _ _ _, rfl⟩, fun p hp => zm _ _ (Ne.symm hp), fun _ => rfl, fun _ h => h⟩; simp only [fr0, Rep]
    exact ⟨by rw [z3g], _, _, _, rfl⟩
  · rename_i wd q wd' m
    simp only [zb, zv, Nat.beq_eq] at hx; obtain ⟨rfl, l, hq, hf, hk⟩ := hx; simp only [Rep] at hc; obtain ⟨b, n, cap, hkq, hmn, rfl⟩ := hc; obtain ⟨g1, g2⟩ := h.move_sub hq hf hnm hkq hmn
    have hne : ∀ p, c1 p = none → updN c1 q .dead p = none := fun p hp => by
      rw [zm _ _ (by rintro rfl; rw [hq] at hp; cases hp)]; exact hp
    refine ⟨_, _, _, _, hk, g2, g1, rfl, ?_, ⟨zp _ _ _, zc2 hf⟩, fun p hp => zm _ _ (Ne.symm hp), fun _ => rfl, hne⟩; simp only [fr0, Rep]
    exact ⟨by rw [z3g], _, _, _, rfl⟩
  · cases hx
  · rename_i wd wd' l
    obtain ⟨rfl, rfl⟩ := zb9 hc; refine ⟨_, _, E2, c2, hx, h, E3.le.refl E2, rfl, ?_, trivial, fun _ _ => rfl, fun _ => rfl, fun _ h => h⟩; exact (z89 hc).flat_mono (eS h.S) rfl
  · rename_i wd m wd' l hnn
    simp only [zb, Nat.beq_eq] at hx; obtain ⟨rfl, hk⟩ := hx; exact ⟨_, _, E2, c2, hk, h, E3.le.refl E2, rfl, (z7v hc).flat_mono (eS h.S) rfl, trivial, fun _ _ => rfl, fun _ => rfl, fun _ h => h⟩
  · cases hx
  · rename_i shs l
    simp only [zb] at hx; have hr : Rep E1 (.agg (demSL shs l)) v := z3z (sh := .agg shs) hc; obtain ⟨c', c1', E2', c2', q1, q2, q3, q4, q5, q6, q7, q8, q9⟩ := flat hr hx.1 hx.2
    exact ⟨c', c1', E2', c2', q1, q2, q3, q4, q5, q6, q7, (fun h => by cases h), q9⟩
  · simp only [zb] at hx
    exact flat hc hx.1 hx.2
def CellsTo (F1 : Fr) (E1 : E3) (o1 : Os) (F2 : Fr) (E2 : E3) (o2 : Os) (c1 c2 : Cl) (w : World) (nm : Nat → Nm) (i : Nat) (vs : List Value) (k : List AV → Cl → Prop) : Prop :=
  ∃ cs' c1' E2' c2', k cs' c1' ∧ Two F1 E1 o1 c1' F2 E2' o2 c2' w ∧ E2.le E2' ∧ E2'.mu = E2.mu ∧ RepL E2' (frC nm i cs') vs ∧
      (∀ (p : Nat) c, cs'[p]? = some c → Named0 c2' (nm (i + p)) c) ∧ (∀ q, (∀ j, i ≤ j → q ≠ nm j) → c2' q = c2 q) ∧ (∀ q, c1 q = none → c1' q = none)
theorem z6e {nm : Nat → Nm} {i : Nat} {cs : List AV} {vs : List Value} {k : List AV → Cl → Prop} (h : Two F1 E1 o1 c1 F2 E2 o2 c2 w) (hr : RepL E1 cs vs) (hf : cs.all AV.flat1 = true) (hk : k cs c1) :
    CellsTo F1 E1 o1 F2 E2 o2 c1 c2 w nm i vs k :=
  ⟨cs, c1, E2, c2, hk, h, E3.le.refl E2, rfl, by rw [z6d hf]; exact hr.flat_mono (eS h.S) hf, fun p c e => z5d (z1z (List.all_eq_true.1 hf _ (List.mem_of_getElem? e))), fun _ _ => rfl, fun _ h => h⟩
theorem z9h {nm : Nat → Nm} (hinj : ∀ i j, nm i = nm j → i = j) {i : Nat} {vs : List Value} {sh : Sh} {cs : List AV} {k : List AV → Cl → Prop} (h : Two F1 E1 o1 c1 F2 E2 o2 c2 w) (hn : ∀ j, i ≤ j → c2 (nm j) = none) (hr : RepL E1 cs vs) {rest : List AV → Cl → (List AV → Cl → Prop) → Prop}
    (ih : ∀ (cs : List AV) (c1 : Cl) (vs : List Value) (E2 : E3) (c2 : Cl) (k : List AV → Cl → Prop), Two F1 E1 o1 c1 F2 E2 o2 c2 w → (∀ j, i + 1 ≤ j → c2 (nm j) = none) → RepL E1 cs vs → rest cs c1 k → CellsTo F1 E1 o1 F2 E2 o2 c1 c2 w nm (i + 1) vs k)
    (hx : asC (PA M) cs (fun c cs => lit (PA M) c.one (exp0 (PA M) sh (nm i) c c1 fun c cl => rest cs cl fun r cl => k (c :: r) cl))) : CellsTo F1 E1 o1 F2 E2 o2 c1 c2 w nm i vs k := by
  simp only [z20, zb] at hx; obtain ⟨c, cr, rfl, ho, hx⟩ := hx; simp only [RepL] at hr; obtain ⟨v, r, rfl, r1, r2, r3, r4⟩ := hr; obtain ⟨c', c1', E2', c2', g1, g2, g3, g3m, g4, g5, g6, g7, g8⟩ := zic h (hn i (Nat.le_refl _)) r3 hx
  obtain ⟨cs', c1'', E2'', c2'', q1, q2, q3, q3m, q4, q5, q6, q7⟩ := ih cr c1' r E2' c2' _ g2 (fun j hj => by rw [g6 _ (fun e => by have := hinj _ _ e; omega)]; exact hn j (by omega)) r4 g1
  refine ⟨c' :: cs', c1'', E2'', c2'', q1, q2, g3.trans q3, q3m.trans g3m, ?_, fun p c e => ?_, fun q hq => ?_, fun q hq => q7 q (g8 q hq)⟩
  · simp only [RepL, frC]
    exact ⟨v, r, rfl, g7 r1, r2, g4.mono q3, q4⟩
  · cases p with
    | zero =>
      simp at e; subst e
      exact z1a (q6 _ (fun j hj e3 => by have := hinj _ _ e3; omega)) g5
    | succ p =>
      simp at e; have := q5 p c e
      rwa [show i + 1 + p = i + (p + 1) from by omega] at this
  · rw [q6 q (fun j hj => hq j (by omega)), g6 q (hq i (Nat.le_refl _))]
theorem zid {nm : Nat → Nm} (hinj : ∀ i j, nm i = nm j → i = j) : ∀ (shs : List Sh) (i : Nat) (cs : List AV) (c1 : Cl) (vs : List Value) (E2 : E3) (c2 : Cl) (k : List AV → Cl → Prop), Two F1 E1 o1 c1 F2 E2 o2 c2 w → (∀ j, i ≤ j → c2 (nm j) = none) → RepL E1 cs vs →
    expA (PA M) nm shs i cs c1 k → CellsTo F1 E1 o1 F2 E2 o2 c1 c2 w nm i vs k
  | [], i, cs, c1, vs, E2, c2, k, h, _, hr, hx => by
    simp only [expA, z26] at hx; obtain ⟨rfl, hx⟩ := hx; exact z6e h hr rfl hx
  | sh :: shs, i, cs, c1, vs, E2, c2, k, h, hn, hr, hx =>
    z9h (rest := fun cs cl k => expA (PA M) nm shs (i + 1) cs cl k) hinj h hn hr (fun cs c1 vs E2 c2 k h hn hr hx => zid hinj shs (i + 1) cs c1 vs E2 c2 k h hn hr hx) hx
theorem z8b {nm : Nat → Nm} (hinj : ∀ i j, nm i = nm j → i = j) : ∀ (shs : List Sh) (i : Nat) (cs : List AV) (c1 : Cl) (vs : List Value) (E2 : E3) (c2 : Cl) (k : List AV → Cl → Prop), Two F1 E1 o1 c1 F2 E2 o2 c2 w → (∀ j, i ≤ j → c2 (nm j) = none) → RepL E1 cs vs →
    expC (PA M) nm shs i cs c1 k → CellsTo F1 E1 o1 F2 E2 o2 c1 c2 w nm i vs k := by
  intro shs
  induction shs with
  | nil =>
    intro i cs c1 vs E2 c2 k h _ hr hx; simp only [expC, z26] at hx; obtain ⟨rfl, hx⟩ := hx; exact z6e h hr rfl hx
  | cons sh shs ih =>
    intro i cs c1 vs E2 c2 k h hn hr hx
    have step : asC (PA M) cs (fun c cs => lit (PA M) c.one (exp0 (PA M) sh (nm i) c c1 fun c cl => expC (PA M) nm shs (i + 1) cs cl fun r cl => k (c :: r) cl)) → CellsTo F1 E1 o1 F2 E2 o2 c1 c2 w nm i vs k := fun hx =>
      z9h (rest := fun cs cl k => expC (PA M) nm shs (i + 1) cs cl k) hinj h hn hr (fun cs c1 vs E2 c2 k h hn hr hx => ih (i + 1) cs c1 vs E2 c2 k h hn hr hx) hx
    cases sh <;> cases shs <;> first
      | exact step hx
      | (simp only [expC, z1f] at hx; exact z6e h hr hx.1 hx.2)
def inP (nm q : Nm) : Prop := q = nm ∨ ∃ i, q = subN nm i
theorem zf8 {nm : Nm} {c : AV} (h : ∀ l, c ≠ .agg l) : fr1 nm c = fr0 nm c := by
  unfold fr1
  split
  · exact absurd rfl (h _)
  · rfl
theorem z4m {cl : Cl} {nm : Nm} {c : AV} (h : ∀ l, c ≠ .agg l) : Named1 cl nm c ↔ Named0 cl nm c := by
  unfold Named1
  split
  · exact absurd rfl (h _)
  · exact Iff.rfl
theorem z6f {nm : Nm} {c : AV} (h : c.flat = true) : fr1 nm c = c := by
  unfold fr1
  split
  · rename_i l
    rw [z6d h]
  · exact z52 h
theorem z38 {cl : Cl} {nm : Nm} {c : AV} (h : c.flat = true) : Named1 cl nm c := by
  unfold Named1
  split
  · rename_i l
    exact fun i v hv => z5d (z1z (List.all_eq_true.1 h _ (List.mem_of_getElem? hv)))
  · exact z5d h
theorem z3h {c c' : Cl} {nm : Nm} {v : AV} (h : ∀ q, inP nm q → c' q = c q) (k : Named1 c nm v) : Named1 c' nm v := by
  unfold Named1 at k ⊢
  split at k
  · exact fun i v hv => z1a (h _ (.inr ⟨i, rfl⟩)) (k i v hv)
  · exact z1a (h _ (.inl rfl)) k
theorem zc3 {nm : Nat → Nm} : ∀ {cs : List AV} {i : Nat}, cs.all AV.flat1 = true → nmC nm i cs = []
  | [], i, _ => rfl
  | c :: cs, i, h => by
    simp only [List.all_cons, Bool.and_eq_true] at h
    have : nm0 (nm i) c = [] := by
      unfold nm0
      split
      · simp [AV.flat1] at h
      · simp [AV.flat1] at h
      · rfl
    simp only [nmC, this, zc3 h.2, List.nil_append]
theorem zie {sh : Sh} {nm : Nm} {c : AV} {k : AV → Cl → Prop} (h : exp0 (PA M) sh nm c c1 k) : exp0 (PA M) sh nm c c1 (fun c' cl => (∀ l, c' = .agg l → c'.flat = true) ∧ k c' cl) := by
  unfold exp0 at h ⊢
  split at h <;> try simp only [zb, z4z, zv] at h ⊢
  · exact ⟨h.1, fun l e => (by cases e), h.2⟩
  · exact ⟨h.1, fun l e => (by cases e), h.2⟩
  · obtain ⟨h1, l, h2, h3, h4⟩ := h
    exact ⟨h1, l, h2, h3, fun l e => (by cases e), h4⟩
  · exact ⟨h.1, fun l e => (by cases e), h.2⟩
  · obtain ⟨h1, l, h2, h3, h4⟩ := h
    exact ⟨h1, l, h2, h3, fun l e => (by cases e), h4⟩
  · exact ⟨fun l e => (by cases e), h⟩
  · exact ⟨h.1, fun l e => (by cases e), h.2⟩
  · exact ⟨h.1, fun _ _ => h.1, h.2⟩
  · exact ⟨h.1, fun _ _ => h.1, h.2⟩
theorem zc4 {sh : Sh} {nm : Nm} {c : AV} {k : AV → Cl → Prop} (h : Two F1 E1 o1 c1 F2 E2 o2 c2 w) (hnm : ∀ q, inP nm q → c2 q = none) {v : Value} (hc : Rep E1 c v) (hx : exp1 (PA M) sh nm c c1 k) :
    ∃ c' c1' E2' c2', k c' c1' ∧ Two F1 E1 o1 c1' F2 E2' o2 c2' w ∧ E2.le E2' ∧ E2'.mu = E2.mu ∧ Rep E2' (fr1 nm c') v ∧ Named1 c2' nm c' ∧ (∀ q, ¬ inP nm q → c2' q = c2 q) ∧ (∀ q, c1 q = none → c1' q = none) ∧ frS sh nm c' = fr1 nm c' ∧ nmS sh nm c' = nm1 nm c' := by
  unfold exp1 at hx
  cases hu : isUqs sh with
  | true =>
    rw [hu] at hx; simp only [cond_true, z6b] at hx; obtain ⟨l, rfl, hx⟩ := hx; simp only [Rep] at hc; obtain ⟨vs, rfl, hc⟩ := hc; obtain ⟨cs', c1', E2', c2', q1, q2, q3, q4, q5, q6, q7, q8⟩ := zid (zib nm) _ 0 l c1 vs E2 c2 _ h (fun j _ => hnm _ (.inr ⟨j, rfl⟩)) hc hx
    refine ⟨.agg cs', c1', E2', c2', q1, q2, q3, q4, ?_, fun i x hx => by have := q6 i x hx; rwa [Nat.zero_add] at this, fun q hq => q7 q (fun j _ e => hq (.inr ⟨j, e⟩)), q8, by simp [frS, hu], by simp [nmS, hu]⟩
    simp only [fr1, Rep]; exact ⟨vs, rfl, q5⟩
  | false =>
    rw [hu] at hx; obtain ⟨c', c1', E2', c2', ⟨q0, q1⟩, q2, q3, q4, q5, q6, q7, q8, q9⟩ := zic h (hnm _ (.inl rfl)) hc (zie hx)
    have hfr : fr1 nm c' = fr0 nm c' := by
      by_cases ha : ∃ l, c' = .agg l
      · obtain ⟨l, e⟩ := ha
        rw [z6f (q0 l e), z52 (q0 l e)]
      · exact zf8 fun l e => ha ⟨l, e⟩
    refine ⟨c', c1', E2', c2', q1, q2, q3, q4, by rw [hfr]; exact q5, ?_, fun q hq => q7 q (fun e => hq (.inl e)), q9, by simp [frS, hu, hfr], ?_⟩
    by_cases ha : ∃ l, c' = .agg l
    · obtain ⟨l, e⟩ := ha
      exact z38 (q0 l e)
    · exact (z4m fun l e => ha ⟨l, e⟩).2 q6
    · simp only [nmS, hu, cond_false]
      cases c' with
      | agg l => rw [nm1, zc3 (q0 l rfl)]; rfl
      | _ => rfl
end V
namespace V
variable {P : Program} {T : Tab} {M : Meaning} {w : World} {F F1 F2 : Fr} {E E1 E2 : E3} {objs o1 o2 : Os} {cl c1 c2 : Cl}
theorem zif {p nm : Nm} {c : AV} {k : AV → Cl → Prop} (h : Two F1 E1 o1 c1 F2 E2 o2 c2 w) {v : Value} (hc : Rep E1 (fr0 p c) v) (hal : Named0 c1 p c) (hx : imp0 (PA M) nm c c2 k) :
    ∃ c' c1' E2' c2', k c' c2' ∧ Two F1 E1 o1 c1' F2 E2' o2 c2' w ∧ E2.le E2' ∧ E2'.mu = E2.mu ∧ Rep E2' c' v ∧ ((fr0 p c).one = true → c'.one = true) ∧ (∀ q, q ≠ p → c1' q = c1 q) := by
  unfold imp0 at hx
  split at hx
  · rename_i q wd l
    obtain ⟨hnm, hk⟩ := z23.1 hx; simp only [Named0] at hal; obtain ⟨rfl, hq⟩ := hal; simp only [fr0] at hc; have hc' := hc; simp only [Rep] at hc; obtain ⟨a, len, cap, rfl, hl, hlc, hcm, he1, _, hka⟩ := hc; have hkq := hka q rfl
    obtain ⟨g1, g2⟩ := h.move_claim hq rfl (fun l e => by cases e) hnm hkq
    refine ⟨_, _, _, _, hk, g2, g1, rfl, ?_, fun _ => rfl, fun p hp => zm _ _ (Ne.symm hp)⟩; have hro : Rep E2 (.lst .ro wd l) (.slice a len cap) := (z7v hc').flat_mono (eS h.S) rfl; have hro := hro.mono g1; simp only [Rep] at hro ⊢; obtain ⟨a', len', cap', e, r1, r2, r3, r4, _, _⟩ := hro
    exact ⟨a', len', cap', e, r1, r2, r3, r4, by simp, fun p hp => by injection hp with hp; subst hp; rw [z3g]⟩
  · rename_i wd l
    obtain ⟨hnm, hk⟩ := z23.1 hx; simp only [Named0] at hal; obtain ⟨hq, hf⟩ := hal; simp only [fr0, Rep] at hc; obtain ⟨hkq, hsl⟩ := hc
    obtain ⟨g1, g2⟩ := h.move_claim hq rfl (fun l e => by cases e; exact hf) hnm hkq
    refine ⟨_, _, _, _, hk, g2, g1, rfl, ?_, fun _ => rfl, fun p hp => zm _ _ (Ne.symm hp)⟩; simp only [Rep]
    exact ⟨by rw [z3g], hsl⟩
  · simp only [zb] at hx
    rw [z52 hx.1] at hc ⊢; exact ⟨c, c1, E2, c2, hx.2, h, E3.le.refl E2, rfl, hc.flat_mono (eS h.S) hx.1, id, fun _ _ => rfl⟩
theorem zc5 {nm pn : Nat → Nm} (hpn : ∀ i j, pn i = pn j → i = j) : ∀ (cs : List AV) (i : Nat) (vs : List Value) (c1 : Cl) (E2 : E3) (c2 : Cl) (k : List AV → Cl → Prop), Two F1 E1 o1 c1 F2 E2 o2 c2 w → RepL E1 (frC pn i cs) vs →
    (∀ (p : Nat) c, cs[p]? = some c → Named0 c1 (pn (i + p)) c) → impC (PA M) nm i cs c2 k →
    ∃ cs' c1' E2' c2', k cs' c2' ∧ Two F1 E1 o1 c1' F2 E2' o2 c2' w ∧ E2.le E2' ∧ E2'.mu = E2.mu ∧ RepL E2' cs' vs ∧ (∀ q, (∀ p, i ≤ p → q ≠ pn p) → c1' q = c1 q)
  | [], i, vs, c1, E2, c2, k, h, hr, _, hx => by
    simp only [impC] at hx
    exact ⟨[], c1, E2, c2, hx, h, E3.le.refl E2, rfl, by simpa [RepL, frC] using hr, fun _ _ => rfl⟩
  | c :: cs, i, vs, c1, E2, c2, k, h, hr, hn, hx => by
    simp only [impC] at hx; simp only [frC, RepL] at hr; obtain ⟨v, r, rfl, r1, r2, r3, r4⟩ := hr; have hn0 := hn 0 c rfl; rw [Nat.add_zero] at hn0; obtain ⟨c', c1', E2', c2', g1, g2, g3, g3m, g4, g5, g6⟩ := zif h r3 hn0 hx
    obtain ⟨cs', c1'', E2'', c2'', q1, q2, q3, q3m, q4, q5⟩ := zc5 hpn cs (i + 1) r c1' E2' c2' _ g2 r4 (fun p x e => by
      have := hn (p + 1) x (by simpa using e)
      rw [show i + (p + 1) = i + 1 + p from by omega] at this
      exact z1a (g6 _ (fun e => by have := hpn _ _ e; omega)) this) g1
    refine ⟨c' :: cs', c1'', E2'', c2'', q1, q2, g3.trans q3, q3m.trans g3m, ?_, fun q hq => ?_⟩
    · simp only [RepL]
      exact ⟨v, r, rfl, g5 r1, r2, g4.mono q3, q4⟩
    · rw [q5 q (fun p hp => hq p (by omega)), g6 q (hq i (Nat.le_refl _))]
theorem zig {nm : Nat → Nm} {j : Nat} {shs : List Sh} {cs : List AV} {vs : List Value} {k : List AV → Cl → Prop} (h : Two F1 E1 o1 c1 F2 E2 o2 c2 w) (hr : RepL E1 (frC (Nm.E j) 0 cs) vs)
    (hn : NamedC c1 (Nm.E j) cs) (hx : impO (PA M) shs nm cs c2 k) :
    ∃ cs' c1' E2' c2', k cs' c2' ∧ Two F1 E1 o1 c1' F2 E2' o2 c2' w ∧ E2.le E2' ∧ E2'.mu = E2.mu ∧ RepL E2' cs' vs ∧ (∀ q, (∀ p, q ≠ .E j p) → c1' q = c1 q) := by
  have key : shapes (PA M) shs cs (fun cs => impC (PA M) nm 0 cs c2 k) → ∃ cs' c1' E2' c2', k cs' c2' ∧ Two F1 E1 o1 c1' F2 E2' o2 c2' w ∧ E2.le E2' ∧ E2'.mu = E2.mu ∧ RepL E2' cs' vs ∧ (∀ q, (∀ p, q ≠ .E j p) → c1' q = c1 q) := by
    intro hx
    obtain ⟨cs', c1', E2', c2', g1, g2, g3, g3m, g4, g5⟩ := zc5 (pn := Nm.E j) (fun a b e => by injection e) cs 0 vs c1 E2 c2 k h hr (fun p c e => by rw [Nat.zero_add]; exact hn p c e) (z79 (k := fun cs => impC (PA M) nm 0 cs c2 k) hx)
    exact ⟨cs', c1', E2', c2', g1, g2, g3, g3m, g4, fun q hq => g5 q (fun p _ => hq p)⟩
  unfold impO at hx
  split at hx
  · simp only [z1f] at hx
    rw [z6d hx.1] at hr; exact ⟨cs, c1, E2, c2, hx.2, h, E3.le.refl E2, rfl, hr.flat_mono (eS h.S) hx.1, fun _ _ => rfl⟩
  · exact key hx
theorem zs4 {u : Bool} {p nm : Nm} {c : AV} {k : AV → Cl → Prop} (h : Two F1 E1 o1 c1 F2 E2 o2 c2 w) {v : Value} (hc : Rep E1 (fr1 p c) v) (hal : Named1 c1 p c) (hx : imp1 (PA M) u nm c c2 k) :
    ∃ c' c1' E2' c2', k c' c2' ∧ Two F1 E1 o1 c1' F2 E2' o2 c2' w ∧ E2.le E2' ∧ E2'.mu = E2.mu ∧ Rep E2' c' v ∧ (∀ q, ¬ inP p q → c1' q = c1 q) := by
  unfold imp1 at hx
  cases u with
  | true =>
    simp only [cond_true, z6b] at hx; obtain ⟨l, rfl, hx⟩ := hx; simp only [fr1, Rep] at hc; obtain ⟨vs, rfl, hc⟩ := hc
    obtain ⟨cs', c1', E2', c2', g1, g2, g3, g3m, g4, g5⟩ := zc5 (zib p) l 0 vs c1 E2 c2 _ h hc (fun i x e => by rw [Nat.zero_add]; exact hal i x e) hx
    refine ⟨_, c1', E2', c2', g1, g2, g3, g3m, ?_, fun q hq => g5 q (fun i _ e => hq (.inr ⟨i, e⟩))⟩; simp only [Rep]; exact ⟨vs, rfl, g4⟩
  | false =>
    simp only [cond_false] at hx
    by_cases ha : ∃ l, c = .agg l
    · obtain ⟨l, rfl⟩ := ha
      simp only [imp0, zb] at hx; rw [z6f hx.1] at hc; exact ⟨_, c1, E2, c2, hx.2, h, E3.le.refl E2, rfl, hc.flat_mono (eS h.S) hx.1, fun _ _ => rfl⟩
    · have hna : ∀ l, c ≠ .agg l := fun l e => ha ⟨l, e⟩
      rw [zf8 hna] at hc; obtain ⟨c', c1', E2', c2', g1, g2, g3, g4, g5, g6, g7⟩ := zif h hc ((z4m hna).1 hal) hx; exact ⟨c', c1', E2', c2', g1, g2, g3, g4, g5, fun q hq => g7 q (fun e => hq (.inl e))⟩
def BK (F : Fr) (E : E3) (objs : Os) (mu : Nat → Option Nat) (bk : List (Nat × Nat × List Sh)) : Prop :=
  ∀ p ∈ bk, ∃ b, mu p.1 = some b ∧ E.mu p.2.1 = some b ∧ objs p.2.1 = some .dead ∧ ∀ b', F.mu0 p.2.1 = some b' → b' = b
def plA (j : Nat) (q : Nm) : Prop := (∃ i, q = .E j i) ∨ inP (.Y 3 j 0 0) q
theorem zba {j j' : Nat} {q : Nm} (h : plA j q) (h' : plA j' q) : j = j' := by
  rcases h with ⟨i, rfl⟩ | rfl | ⟨i, rfl⟩ <;> rcases h' with ⟨i', e⟩ | e | ⟨i', e⟩ <;> simp_all [subN]
theorem plA_E {j i : Nat} : plA j (.E j i) := .inl ⟨i, rfl⟩
theorem zlp : ∀ {l : List AV} {j p : Nat}, (frA j l)[p]? = (l[p]?).map (fr1 (.Y 3 (j + p) 0 0))
  | [], j, p => by simp [frA]
  | v :: l, j, 0 => by simp [frA]
  | v :: l, j, p + 1 => by
    simp only [frA, List.getElem?_cons_succ]
    rw [zlp, show j + 1 + p = j + (p + 1) from by omega]
theorem zdq : ∀ {l r : List AV} {j : Nat}, frA j (l ++ r) = frA j l ++ frA (j + l.length) r
  | [], r, j => by simp [frA]
  | v :: l, r, j => by
    simp only [List.cons_append, frA, List.length_cons]
    rw [zdq, show j + 1 + l.length = j + (l.length + 1) from by omega]
theorem z6g : ∀ {l : List AV} {j : Nat}, l.all AV.flat = true → frA j l = l
  | [], j, _ => rfl
  | v :: l, j, h => by
    simp only [List.all_cons, Bool.and_eq_true] at h; simp only [frA, z6f h.1, z6g h.2]
theorem z6u : ∀ (vs : List AV) (shs : List Sh) (j : Nat) (us : List Value) (ts : List Nat) (o1 : Os) (c1 : Cl) (E2 : E3) (o2 : Os) (c2 : Cl) (k : List AV → List (Nat × List AV) → List (Nat × Nat × List Sh) → Os → Cl → Prop),
    Two F1 E1 o1 c1 F2 E2 o2 c2 w → (∀ i, F2.mu0 i = none) → RepT E1 vs us → (∀ i, j ≤ i → o2 i = none) → (∀ j' q, j ≤ j' → plA j' q → c2 q = none) → (∀ i b, E2.mu i = some b → i < 1000) → argsV (PA M) T j shs vs ts o1 c1 k →
    ∃ as1 ins bk o1' c1' E2' c2', k as1 ins bk o1' c1' ∧ Two F1 E1 o1' c1' F2 E2' (fun i => (objsOf ins i).or (o2 i)) c2' w ∧ E2.le E2' ∧ RepT E2' (frA j as1) us ∧ BK F1 E1 o1' E2'.mu bk ∧
      (∀ jj cs, (jj, cs) ∈ ins → j ≤ jj ∧ NamedC c2' (Nm.E jj) cs) ∧ (∀ q, (∀ j', j ≤ j' → ¬ plA j' q) → c2' q = c2 q) ∧ (∀ i b, E2'.mu i = some b → i < 1000) ∧
      (∀ o, o1 o = some .dead → o1' o = some .dead) ∧ (∀ q, c1 q = none → c1' q = none) ∧ (∀ (p : Nat) v, as1[p]? = some v → Named1 c2' (.Y 3 (j + p) 0 0) v)
  | [], shs, j, us, [], o1, c1, E2, o2, c2, k, h, _, hv, _, _, hlt, hx => by
    simp only [argsV] at hx
    refine ⟨[], [], [], o1, c1, E2, c2, hx, ?_, E3.le.refl E2, by simpa [RepT, frA] using hv, (by intro p hp; cases hp), (by intro jj cs hp; cases hp), fun _ _ => rfl, hlt, fun _ h => h, fun _ h => h, (by intro p v hp; simp at hp)⟩
    have : (fun i => (objsOf [] i).or (o2 i)) = o2 := by funext i; simp [objsOf, ofL]
    rw [this]; exact h
  | [], shs, j, us, t :: ts, o1, c1, E2, o2, c2, k, h, _, hv, _, _, _, hx => by simp only [argsV, z4z] at hx
  | v :: vs, shs, j, us, [], o1, c1, E2, o2, c2, k, h, _, hv, _, _, _, hx => by simp only [argsV, z4z] at hx
  | v :: vs, shs, j, us, t :: ts, o1, c1, E2, o2, c2, k, h, hm0, hv, ho2, hc2, hlt, hx => by
    simp only [RepT] at hv; obtain ⟨u, r, rfl, r1, r2⟩ := hv; have plain : ∀ (x : AV), Rep E1 x u → x.flat = true → argsV (PA M) T (j + 1) shs.tail vs ts o1 c1 (fun as1 ins bk objs cl => k (x :: as1) ins bk objs cl) →
        ∃ as1 ins bk o1' c1' E2' c2', k as1 ins bk o1' c1' ∧ Two F1 E1 o1' c1' F2 E2' (fun i => (objsOf ins i).or (o2 i)) c2' w ∧ E2.le E2' ∧ RepT E2' (frA j as1) (u :: r) ∧ BK F1 E1 o1' E2'.mu bk ∧
      (∀ jj cs, (jj, cs) ∈ ins → j ≤ jj ∧ NamedC c2' (Nm.E jj) cs) ∧ (∀ q, (∀ j', j ≤ j' → ¬ plA j' q) → c2' q = c2 q) ∧ (∀ i b, E2'.mu i = some b → i < 1000) ∧
      (∀ o, o1 o = some .dead → o1' o = some .dead) ∧ (∀ q, c1 q = none → c1' q = none) ∧ (∀ (p : Nat) v, as1[p]? = some v → Named1 c2' (.Y 3 (j + p) 0 0) v) := by
      intro x hxr hxf hx
      obtain ⟨as1, ins, bk, o1', c1', E2', c2', g1, g2, g3, g4, g5, g6, g7, g8, g9, g10, g11⟩ := z6u vs shs.tail (j + 1) r ts o1 c1 E2 o2 c2 _ h hm0 r2 (fun i hi => ho2 i (by omega)) (fun j' q hj => hc2 j' q (by omega)) hlt hx
      refine ⟨x :: as1, ins, bk, o1', c1', E2', c2', g1, g2, g3, ?_, g5, fun jj cs hp => ⟨by have := (g6 jj cs hp).1; omega, (g6 jj cs hp).2⟩, fun q hq => g7 q (fun j' hj => hq j' (by omega)), g8, g9, g10, fun p y hp => ?_⟩
      · simp only [frA, RepT, z6f hxf]
        exact ⟨u, r, rfl, (hxr.flat_mono (eS h.S) hxf).mono g3, g4⟩
      · cases p with
        | zero => simp at hp; subst hp; exact z38 hxf
        | succ p => simp at hp; have := g11 p y hp; rwa [show j + 1 + p = j + (p + 1) from by omega] at this
    unfold argsV at hx
    cases hso : shOwned shs with
    | true =>
      rw [hso] at hx; simp only [cond_true] at hx; obtain ⟨c', c1', E2', c2', g1, g2, g3, g3m, g4, g5, g6, g7, _⟩ := zc4 h (fun q hq => hc2 j q (Nat.le_refl _) (.inr hq)) r1 hx
      obtain ⟨as1, ins, bk, o1', c1'', E2'', c2'', q1, q2, q3, q4, q5, q6, q7, q8, q9, q10, q11⟩ := z6u vs shs.tail (j + 1) r ts _ _ _ _ _ _ g2 hm0 r2 (fun i hi => ho2 i (by omega))
        (fun j' q hj hp => by rw [g6 q (fun hq => by have := zba hp (.inr hq : plA j q); omega)]; exact hc2 j' q (by omega) hp)
        (fun i b hi => by rw [g3m] at hi; exact hlt i b hi) g1
      refine ⟨_, ins, bk, o1', c1'', E2'', c2'', q1, q2, g3.trans q3, ?_, q5, fun jj cs hp => ⟨by have := (q6 jj cs hp).1; omega, (q6 jj cs hp).2⟩, fun q hq => ?_, q8, q9, fun q hq => q10 q (g7 q hq), fun p y hp => ?_⟩
      · simp only [frA, RepT]
        exact ⟨u, r, rfl, g4.mono q3, q4⟩
      · rw [q7 q (fun j' hj => hq j' (by omega)), g6 q (fun hp => hq j (Nat.le_refl _) (.inr hp))]
      · cases p with
        | zero =>
          simp at hp; subst hp
          exact z3h (fun q hq => q7 q (fun j' hj hp => by have := zba hp (.inr hq : plA j q); omega)) g5
        | succ p => simp at hp; have := q11 p y hp; rwa [show j + 1 + p = j + (p + 1) from by omega] at this
    | false =>
    rw [hso] at hx; simp only [cond_false] at hx
    split at hx
    · rename_i o i
      split at hx
      · rename_i cs ho
        simp only [zb, Nat.blt_eq] at hx; obtain ⟨hj1000, hx⟩ := hx; obtain ⟨b, tt, ws, m1, m2, m3, m4, m5⟩ := h.a.live o cs ho; obtain ⟨n1, n2⟩ := h.name (j := j) (b := b) (ho2 j (Nat.le_refl _))
        obtain ⟨cs', c1', E2', c2', g1, g2, g3, g3m, g4, g5, g6, g7⟩ := z8b (nm := Nm.E j) (fun a b e => by injection e) (T.osh (pteOf T t)) 0 cs c1 ws _ c2 _ n2 (fun i _ => hc2 j _ (Nat.le_refl _) plA_E) m3 hx
        have hmj : E2'.mu j = some b := by rw [g3m]; exact zk _ _ _
        have k2 := g2.move_obj (o := o) (j := j) (b := b) ho m1 hmj m2 g4 (fun b' hb' => by rw [hm0] at hb'; cases hb')
        have hob : upd (upd o2 j .dead) j (.live (frC (Nm.E j) 0 cs')) = upd o2 j (.live (frC (Nm.E j) 0 cs')) := by
          funext i; by_cases hi : j = i
          · subst hi; simp
          · rw [zf _ _ hi, zf _ _ hi, zf _ _ hi]
        rw [hob] at k2
        obtain ⟨as1, ins, bk, o1', c1'', E2'', c2'', q1, q2, q3, q4, q5, q6, q7, q8, q9, q10, q11⟩ := z6u vs shs.tail (j + 1) r ts _ _ _ _ _ _ k2 hm0 r2 (fun i hi => by rw [zf _ _ (by omega)]; exact ho2 i (by omega))
          (fun j' q hj hp => by rw [g6 _ (fun i' _ e => by have := zba hp (e ▸ plA_E : plA j q); omega)]; exact hc2 j' q (by omega) hp)
          (fun i b' hi => by
            rw [g3m] at hi; replace hi : upd E2.mu j b i = some b' := hi
            by_cases hij : j = i
            · omega
            · rw [zf _ _ hij] at hi; exact hlt i b' hi) g1
        have hpm : ∀ b', F1.mu0 o = some b' → b' = b := fun b' hb' => by
          have := h.a.pm o b' cs hb' ho
          rw [m1] at this; exact (Option.some.inj this).symm
        refine ⟨_, _, _, o1', c1'', E2'', c2'', q1, ?_, (n1.trans g3).trans q3, ?_, ?_, ?_, ?_, q8, ?_, ?_, ?_⟩
        · have : (fun i => (objsOf ((j, cs') :: ins) i).or (o2 i)) = (fun i => (objsOf ins i).or (upd o2 j (.live (frC (Nm.E j) 0 cs')) i)) := by
            funext i; simp only [objsOf, List.map_cons, ofL]
            by_cases hi : j = i
            · subst hi
              have hno : ofL (ins.map fun p => (p.1, Ob.live (frC (Nm.E p.1) 0 p.2))) j = none := by
                have : ∀ l : List (Nat × List AV), (∀ jj cs, (jj, cs) ∈ l → j + 1 ≤ jj) → ofL (l.map fun p => (p.1, Ob.live (frC (Nm.E p.1) 0 p.2))) j = none := by
                  intro l
                  induction l with
                  | nil => intro _; rfl
                  | cons p l ih =>
                    intro hl
                    have h1 := hl p.1 p.2 (by simp)
                    have : Nat.beq p.1 j = false := by rw [Bool.eq_false_iff]; intro e; have := Nat.eq_of_beq_eq_true e; omega
                    simp only [List.map_cons, ofL, this, cond_false]
                    exact ih fun jj cs hp => hl jj cs (by simp [hp])
                exact this ins fun jj cs hp => (q6 jj cs hp).1
              simp [hno]
            · have : Nat.beq j i = false := by rw [Bool.eq_false_iff]; intro e; exact hi (Nat.eq_of_beq_eq_true e)
              simp only [this, cond_false]; rw [zf _ _ hi]
          rw [this]; exact q2
        · simp only [frA, RepT]
          refine ⟨u, r, rfl, ?_, q4⟩; simp only [fr1, fr0, Rep] at r1 ⊢; obtain ⟨b', hb', rfl⟩ := r1
          rw [m1] at hb'; cases hb'
          exact ⟨b, q3.mu _ _ hmj, rfl⟩
        · intro p hp
          rcases List.mem_cons.1 hp with rfl | hp
          · exact ⟨b, q3.mu _ _ hmj, m1, q9 _ (zk _ _ _), hpm⟩
          · exact q5 p hp
        · intro jj cs2 hp
          rcases List.mem_cons.1 hp with hp | hp
          · cases hp
            refine ⟨Nat.le_refl _, fun i x e => ?_⟩; have := g5 i x e; rw [Nat.zero_add] at this
            exact z1a (q7 _ (fun j' hj hp => by have := zba hp (plA_E (j := j) (i := i)); omega)) this
          · have := q6 jj cs2 hp
            exact ⟨by omega, this.2⟩
        · intro q hq
          rw [q7 q (fun j' hj => hq j' (by omega)), g6 q (fun i _ e => hq j (Nat.le_refl _) (e ▸ plA_E))]
        · intro o' ho'
          refine q9 o' ?_
          by_cases hoo : o = o'
          · subst hoo; exact zk _ _ _
          · rw [zf _ _ hoo]; exact ho'
        · exact fun q hq => q10 q (g7 q hq)
        · intro p y hp
          cases p with
          | zero => simp at hp; subst hp; trivial
          | succ p => simp at hp; have := q11 p y hp; rwa [show j + 1 + p = j + (p + 1) from by omega] at this
      · rename_i cs ho
        refine plain (.rp cs i) ?_ rfl hx; simp only [Rep] at r1 ⊢; obtain ⟨b', hb', rfl⟩ := r1; obtain ⟨b, ws, m1, m2, m3, m4⟩ := h.a.frz o cs ho
        obtain rfl : b = b' := by rw [m1] at hb'; exact Option.some.inj hb'
        exact ⟨b, 0, by rw [Nat.zero_add], m2, ws, m3, fun jj hjj => by rw [Nat.zero_add]; exact m4 jj hjj⟩
      · cases hx
    · simp only [zb] at hx
      exact plain _ (z3z r1) hx.1 hx.2
theorem z46 {β : Type} : ∀ {l : List (Nat × β)} {j : Nat} {v : β}, ofL l j = some v → (j, v) ∈ l
  | [], j, v, h => by cases h
  | (k, x) :: l, j, v, h => by
    simp only [ofL] at h
    cases hb : Nat.beq k j with
    | true =>
      rw [hb] at h; have := Nat.eq_of_beq_eq_true hb; simp only [cond_true, Option.some.injEq] at h
      subst this; subst h; simp
    | false =>
      rw [hb] at h; exact List.mem_cons_of_mem _ (z46 h)
def GoOver (o1 : Os) (c1 : Cl) (outs : List (Nat × List AV)) : Prop := ∀ j cs, (j, cs) ∈ outs → o1 j = some (.live (frC (Nm.E j) 0 cs)) ∧ NamedC c1 (Nm.E j) cs
theorem zg9 {d : Nat} : ∀ (bk : List (Nat × Nat × List Sh)) (outs : List (Nat × List AV)) (o1 : Os) (c1 : Cl) (E2 : E3) (o2 : Os) (c2 : Cl) (k : List (Nat × List AV) → Os → Cl → Prop),
    Two F1 E1 o1 c1 F2 E2 o2 c2 w → (∀ p ∈ bk, ∃ b, F1.mu0 p.1 = some b ∧ E2.mu p.2.1 = some b ∧ ∀ b', F2.mu0 p.2.1 = some b' → b' = b) →
    GoOver o1 c1 outs → (outs.map (·.1)).Nodup → outsV (PA M) d bk outs o2 c2 k →
    ∃ outs' o1' c1' E2' o2' c2', k outs' o2' c2' ∧ Two F1 E1 o1' c1' F2 E2' o2' c2' w ∧ E2.le E2' ∧
      GoOver o1' c1' outs' ∧ (outs'.map (·.1)).Nodup ∧ (∀ q, (∀ j i, q ≠ .E j i) → c1' q = c1 q)
  | [], outs, o1, c1, E2, o2, c2, k, h, _, ho, hnd, hx => by
    simp only [outsV] at hx; exact ⟨outs, o1, c1, E2, o2, c2, hx, h, E3.le.refl E2, ho, hnd, fun _ _ => rfl⟩
  | (j, o, shs) :: bk, outs, o1, c1, E2, o2, c2, k, h, hbk, ho, hnd, hx => by
    simp only [outsV, z20, zb, Nat.beq_eq] at hx; obtain ⟨⟨j', cs⟩, outs', rfl, rfl, hx⟩ := hx; simp only at hx
    obtain ⟨b, m1, m2, m3⟩ := hbk (j', o, shs) (by simp)
    obtain ⟨l1, l2⟩ := ho j' cs (by simp)
    obtain ⟨b', tt, ws, g1, g2, g3, g4, g5⟩ := h.a.live j' _ l1
    have hbb : b' = b := by
      have := h.a.pm j' b _ m1 l1
      rw [g1] at this; exact Option.some.inj this
    subst hbb; obtain ⟨cs', c1', E2', c2', q1, q2, q3, q3m, q4, q5⟩ := zig (j := j') h g3 l2 hx
    have k2 := q2.move_obj (o := j') (j := o) (b := b') l1 g1 (by rw [q3m]; exact m2) g2 q4 m3
    obtain ⟨outs'', o1', c1'', E2'', o2', c2'', r1, r2, r3, r4, r5, r6⟩ := zg9 bk outs' _ _ _ _ _ _ k2
      (fun p hp => by
        obtain ⟨b2, n1, n2, n3⟩ := hbk p (by simp [hp])
        exact ⟨b2, n1, by rw [q3m]; exact n2, n3⟩)
      (fun jj cc hp => by
        simp only [List.map_cons, List.nodup_cons] at hnd
        have hne : j' ≠ jj := by
          rintro rfl; exact hnd.1 (List.mem_map.2 ⟨_, hp, rfl⟩)
        obtain ⟨p1, p2⟩ := ho jj cc (by simp [hp])
        exact ⟨by rw [zf _ _ hne]; exact p1, fun i x e => z1a (q5 _ (fun p e3 => by injection e3 with e3 _; exact hne e3.symm)) (p2 i x e)⟩)
      (by simp only [List.map_cons, List.nodup_cons] at hnd; exact hnd.2) q1
    exact ⟨outs'', o1', c1'', E2'', o2', c2'', r1, r2, q3.trans r3, r4, r5, fun q hq => by rw [r6 q hq, q5 q (fun p => hq j' p)]⟩
theorem ob_ge (n : Nat) : 1000 ≤ ob n := by unfold ob; omega
theorem inP_R {r r' : Nat} {q : Nm} (h : inP (.R r) q) (h' : inP (.R r') q) : r = r' := by
  rcases h with rfl | ⟨i, rfl⟩ <;> rcases h' with e | ⟨i', e⟩ <;> simp_all [subN]
theorem z4n {r j i : Nat} (h : inP (.R r) (.E j i)) : False := by
  rcases h with h | ⟨i, h⟩ <;> simp [subN] at h
theorem zc6 {d : Nat} : ∀ (shs : List Sh) (r : Nat) (res : List AV) (us : List Value) (outs : List (Nat × List AV)) (o1 : Os) (c1 : Cl) (E2 : E3) (o2 : Os) (c2 : Cl) (k : List AV → Os → Cl → Prop),
    Two F1 E1 o1 c1 F2 E2 o2 c2 w → (∀ i b, F2.mu0 i = some b → i < 1000) → RepT E1 (frR r res) us →
    GoOver o1 c1 outs → (outs.map (·.1)).Nodup →
    (∀ (p : Nat) v, res[p]? = some v → Named1 c1 (.R (r + p)) v) → resV (PA M) d r shs res outs o2 c2 k →
    ∃ vs o1' c1' E2' o2' c2', k vs o2' c2' ∧ Two F1 E1 o1' c1' F2 E2' o2' c2' w ∧ E2.le E2' ∧ RepT E2' vs us
  | [], r, res, us, outs, o1, c1, E2, o2, c2, k, h, _, hr, _, _, _, hx => by
    simp only [resV, z26] at hx; obtain ⟨rfl, rfl, hx⟩ := hx
    exact ⟨[], o1, c1, E2, o2, c2, hx, h, E3.le.refl E2, by simpa [RepT, frR] using hr⟩
  | sh :: shs, r, res, us, outs, o1, c1, E2, o2, c2, k, h, hm, hr, ho, hnd, hn, hx => by
    unfold resV at hx; simp only [z20] at hx; obtain ⟨v, res', rfl, hx⟩ := hx; simp only [frR, RepT] at hr; obtain ⟨u, us', rfl, r1, r2⟩ := hr
    split at hx
    · rename_i os
      split at hx
      · rename_i ro
        simp only [zb, Nat.beq_eq, z20] at hx; obtain ⟨hro, ⟨j', cs⟩, outs', rfl, hj', hx⟩ := hx; simp only at hx hj'; have hge := ob_ge (d + 65536 * r); generalize ob (d + 65536 * r) = nob at hx hge; obtain ⟨hfr, hx⟩ := z9e.1 hx
        obtain ⟨l1, l2⟩ := ho j' cs (by simp)
        obtain ⟨b, tt, ws, g1, g2, g3, g4, g5⟩ := h.a.live j' _ l1; obtain ⟨n1, n2⟩ := h.name (j := nob) (b := b) hfr; obtain ⟨cs', c1', E2', c2', q1, q2, q3, q3m, q4, q5⟩ := zig (j := j') n2 g3 l2 hx
        have hmo : E2'.mu nob = some b := by rw [q3m]; exact zk _ _ _
        have k2 := q2.move_obj (o := j') (j := nob) (b := b) l1 g1 hmo g2 q4 (fun b' hb' => absurd (hm _ _ hb') (Nat.not_lt.2 hge))
        have hob : upd (upd o2 nob .dead) nob (.live cs') = upd o2 nob (.live cs') := by
          funext i; by_cases hi : nob = i
          · subst hi; simp
          · rw [zf _ _ hi, zf _ _ hi, zf _ _ hi]
        rw [hob] at k2; obtain ⟨vs, o1', c1'', E2'', o2', c2'', p1, p2, p3, p4⟩ := zc6 shs (r + 1) res' us' outs' _ _ _ _ _ _ k2 hm r2
          (fun jj cc hp => by
            simp only [List.map_cons, List.nodup_cons] at hnd
            have hne : j' ≠ jj := by
              rintro rfl; exact hnd.1 (List.mem_map.2 ⟨_, hp, rfl⟩)
            obtain ⟨s1, s2⟩ := ho jj cc (by simp [hp])
            exact ⟨by rw [zf _ _ hne]; exact s1, fun i x e => z1a (q5 _ (fun p e3 => by injection e3 with e3 _; exact hne e3.symm)) (s2 i x e)⟩)
          (by simp only [List.map_cons, List.nodup_cons] at hnd; exact hnd.2)
          (fun p x e => by
            have := hn (p + 1) x (by simpa using e)
            rw [show r + (p + 1) = r + 1 + p from by omega] at this
            exact z3h (fun q hq => q5 q (fun i e => z4n (e ▸ hq))) this) q1
        refine ⟨_, o1', c1'', E2'', o2', c2'', p1, p2, (n1.trans q3).trans p3, ?_⟩; simp only [RepT]; refine ⟨u, us', rfl, ?_, p4⟩; simp only [fr1, fr0, Rep] at r1 ⊢; obtain ⟨b', hb', rfl⟩ := r1; rw [hro, ← hj', g1] at hb'
        cases hb'
        exact ⟨b, p3.mu _ _ hmo, rfl⟩
      · cases hx
    · have hx := z21 hx
      have hn0 := hn 0 v rfl; rw [Nat.add_zero] at hn0; obtain ⟨c', c1', E2', c2', g1, g2, g3, g3m, g4, g6⟩ := zs4 h r1 hn0 hx; obtain ⟨vs, o1', c1'', E2'', o2', c2'', p1, p2, p3, p4⟩ := zc6 shs (r + 1) res' us' outs _ _ _ _ _ _ g2 hm r2
        (fun jj cc hp => by
          obtain ⟨s1, s2⟩ := ho jj cc hp; exact ⟨s1, fun i x e => z1a (g6 _ (fun hq => z4n hq)) (s2 i x e)⟩) hnd
        (fun p x e => by
          have := hn (p + 1) x (by simpa using e)
          rw [show r + (p + 1) = r + 1 + p from by omega] at this
          exact z3h (fun q hq => g6 q (fun hq' => by have := inP_R hq hq'; omega)) this) g1
      refine ⟨_, o1', c1'', E2'', o2', c2'', p1, p2, g3.trans p3, ?_⟩; simp only [RepT]; exact ⟨u, us', rfl, g4.mono p3, p4⟩
def Used (E : E3) (objs : Os) (cl : Cl) (g : Nat) : Prop := (∃ o cs, objs o = some (.live cs) ∧ E.mu o = some g) ∨ (∃ q v s, isAl (cl q) = true ∧ E.ka q = some (v, s) ∧ v.ownBlock = some g)
theorem WI.after {Fc : Fr} {E' : E3} {w' : World} (h : WI F E objs cl w) (hw0 : Fc.w0 = w) (hS0 : Fc.S0 = E.S) (hO : ∀ g, Fc.O g → F.own g ∧ ¬ Used E objs cl g) {oc : Os} {cc : Cl} (hc : WI Fc E' oc cc w') :
    WI F { E with S := E'.S } objs cl w' ∧ E.le { E with S := E'.S } := by
  have hle : E.le { E with S := E'.S } := ⟨fun b i v hv => hc.base b i v (by rw [hS0]; exact hv), fun _ _ h => h, fun _ _ h => h⟩
  have hsz : w.heap.size ≤ w'.heap.size := by have := hc.step.size; rw [hw0] at this; exact this
  have hheap : ∀ g, g < w.heap.size → ¬ Fc.O g → w'.heap[g]? = w.heap[g]? := fun g hg ho => by
    have := hc.step.block g (by rw [hw0]; exact hg) ho; rw [hw0] at this; exact this
  have hnoS : ∀ g, g < w.heap.size → ¬ Fc.O g → ∀ i, E.S g i = none → E'.S g i = none := by
    intro g hg ho i hn
    cases hs : E'.S g i with
    | none => rfl
    | some v =>
      rcases hc.sdom g i v hs with h1 | h1 | h1
      · rw [hS0, hn] at h1; cases h1
      · rw [hw0] at h1; omega
      · exact absurd h1 ho
  have hown : ∀ g, Fc.own g → F.own g := by
    rintro g (h1 | h1)
    · rw [hw0] at h1; exact h.own_new h1
    · exact (hO g h1).1
  refine ⟨{ h with agree := hc.agree, live := ?_, frz := ?_, claim := ?_, rows := fun q l hq => (by
    obtain ⟨v, sz, t, n, xs, h1, h2, h3, h4, h5⟩ := h.rows q l hq; refine ⟨v, sz, t, n, xs, h1, z2o h2 fun g hg => ?_, h3.mono hle, h4, fun g hg i => ?_⟩
    · exact hheap g (h2.lt g hg).2 (fun hb => (hO g hb).2 (.inr ⟨q, v, sz, z16 hq, h1, hg⟩))
    · exact hnoS g (h2.lt g hg).2 (fun hb => (hO g hb).2 (.inr ⟨q, v, sz, z16 hq, h1, hg⟩)) i (h5 g hg i)), step := ?_, base := ?_, sdom := ?_ }, hle⟩
  · intro o cs ho
    obtain ⟨b, t, vs, h1, h2, h3, h4, h5⟩ := h.live o cs ho; have hlt : b < w.heap.size := (Array.getElem?_eq_some_iff.1 h2).1; have hno : ¬ Fc.O b := fun hb => (hO b hb).2 (.inl ⟨o, cs, ho, h1⟩)
    exact ⟨b, t, vs, h1, by rw [hheap b hlt hno]; exact h2, h3.mono hle, fun i => hnoS b hlt hno i (h4 i), h5⟩
  · intro o cs ho
    obtain ⟨b, vs, h1, h2, h3, h4⟩ := h.frz o cs ho; exact ⟨b, vs, h1, h2, h3.mono hle, fun j hj => z4i hle.S (z2c hj) (h4 j hj)⟩
  · intro q hq
    obtain ⟨v, sz, t, n, xs, h1, h2, h3, h4⟩ := h.claim q hq; refine ⟨v, sz, t, n, xs, h1, h2, z2o h3 fun g hg => ?_, fun g hg => ⟨(h4 g hg).1, fun i hi => ?_⟩⟩
    · exact hheap g (h3.lt g hg).2 (fun hb => (hO g hb).2 (.inr ⟨q, v, sz, hq, h1, hg⟩))
    · exact hnoS g (h3.lt g hg).2 (fun hb => (hO g hb).2 (.inr ⟨q, v, sz, hq, h1, hg⟩)) i ((h4 g hg).2 i hi)
  · refine ⟨?_, ?_, ?_, ?_, fun i hi ho => ?_⟩
    · have := hc.step.os; rw [hw0] at this; exact this.trans h.step.os
    · have := hc.step.tape; rw [hw0] at this; exact this.trans h.step.tape
    · have := hc.step.output; rw [hw0] at this; exact this.trans h.step.output
    · exact Nat.le_trans h.step.size hsz
    · rw [hheap i (Nat.lt_of_lt_of_le hi h.step.size) (fun hb => by rcases (hO i hb).1 with h1 | h1; · omega
                                                                    · exact ho h1)]
      exact h.step.block i hi ho
  · exact fun b i v hv => hle.S b i v (h.base b i v hv)
  · intro b i v hv
    rcases hc.sdom b i v hv with h1 | h1
    · rw [hS0] at h1; exact h.sdom b i v h1
    · exact .inr (hown b h1)
def CallDoes (P : Program) (F : Fr) (E : E3) (f : Nat) (vals : Array Value) (w : World) (k : AV → Os → Cl → Prop) : Prop :=
  Calls P f vals w fun e w' => ∃ v E' x objs' cl', e = .returned v ∧ k x objs' cl' ∧ E.le E' ∧ Rep E' x v ∧ WI F E' objs' cl' w'
theorem z5e : ∀ {l r : List AV} {us vs : List Value}, RepT E l us → RepT E r vs → RepT E (l ++ r) (us ++ vs)
  | [], r, us, vs, h, k => by simp [RepT] at h; subst h; simpa using k
  | x :: l, r, us, vs, h, k => by
    simp only [RepT, List.cons_append] at h ⊢; obtain ⟨v, r', rfl, h1, h2⟩ := h
    exact ⟨v, r' ++ vs, by simp, h1, z5e h2 k⟩
theorem z4o : ∀ {l : List AV} {us : List Value}, RepL E l us → RepT E l us
  | [], us, h => by simpa [RepL, RepT] using h
  | x :: l, us, h => by
    simp only [RepL, RepT] at h ⊢; obtain ⟨v, r, rfl, _, _, h3, h4⟩ := h; exact ⟨v, r, rfl, h3, z4o h4⟩
theorem zf9 : ∀ {res : List AV} {v : Value}, Rep E (one1 res) v → ∃ us : List Value, RepT E res us ∧ v = (match us with | [u] => u | us => .tuple us.toArray)
  | [], v, h => by
    simp only [one1, Rep] at h; obtain ⟨vs, rfl, h⟩ := h
    exact ⟨vs, h, by simp [RepT] at h; subst h; rfl⟩
  | [x], v, h => ⟨[v], by simp only [RepT]; exact ⟨v, [], rfl, h, rfl⟩, rfl⟩
  | x :: y :: l, v, h => by
    simp only [one1, Rep] at h; obtain ⟨vs, rfl, h⟩ := h; refine ⟨vs, h, ?_⟩; simp only [RepT] at h; obtain ⟨v1, r1, rfl, _, v2, r2, rfl, _⟩ := h; rfl
theorem z8c : ∀ {res : List AV} {us : List Value}, RepT E res us → Rep E (one1 res) (match us with | [u] => u | us => .tuple us.toArray)
  | [], us, h => by
    have : us = [] := by simpa [RepT] using h
    subst this; simp only [one1, Rep]
    exact ⟨[], rfl, by simp [RepT]⟩
  | [x], us, h => by
    obtain ⟨u, e, h1⟩ := z15 h; subst e; exact h1
  | x :: y :: l, us, h => by
    have h' := h; simp only [RepT] at h; obtain ⟨v1, r1, rfl, _, v2, r2, rfl, _⟩ := h; simp only [one1, Rep]; exact ⟨_, rfl, h'⟩
theorem znf {P : Program} {L : LoopM} (h : WI F E objs cl w) {f d : Nat} {vs : List AV} {us : List Value} {caps : List AV} {cs : List Value} {ts : List Nat} {k : AV → Os → Cl → Prop} (hv : RepT E vs us) (hcap : RepL E caps cs) (hcf : caps.all AV.flat1 = true)
    (hx : argsV (PA (SM P L)) T 0 (T.ash f) vs ts objs cl fun as1 ins bk objs cl =>
          (PA (SM P L)).call f (as1 ++ caps) ins fun res outs => outsV (PA (SM P L)) d bk outs objs cl fun outs objs cl => resV (PA (SM P L)) d 0 (T.res f) res outs objs cl fun vs objs cl => k (one1 vs) objs cl) :
    CallDoes P F E f (us ++ cs).toArray w k := by
  let F2 : Fr := ⟨w, F.own, E.S, fun _ => none, fun _ _ h => by cases h⟩
  let E2 : E3 := ⟨E.S, fun _ => none, fun _ => none⟩
  have h2 : WI F2 E2 (fun _ => none) (fun _ => none) w :=
    ⟨h.agree, (by intro o cs ho; cases ho), (by intro o cs ho; cases ho), (by intro q hq; cases hq), (by intro q l hq; cases hq), (by intro o o' cs cs' b ho; cases ho), (by intro q q' v v' s s' g hq; cases hq),
      (by intro o cs b q v s ho; cases ho), (by intro o b ho; cases ho), (by intro q x hq; cases hq), ⟨rfl, rfl, rfl, Nat.le_refl _, fun _ _ _ => rfl⟩, fun _ _ _ h => h, fun _ _ _ h => .inl h, (by intro j b c hj; cases hj)⟩
  have htwo : Two F E objs cl F2 E2 (fun _ => none) (fun _ => none) w :=
    ⟨h, h2, rfl, fun g hg => .inr hg, (by intro o o' cs cs' g _ ho; cases ho), (by intro o cs g q v s _ _ hq; cases hq), (by intro o cs g q v s ho; cases ho), (by intro q q' v v' s s' g _ hq; cases hq)⟩
  obtain ⟨as1, ins, bk, o1', c1', E2', c2', g1, g2, g3, g4, g5, g6, g7, g8, _, _, g11⟩ := z6u vs (T.ash f) 0 us ts objs cl E2 _ _ _ htwo (fun _ => rfl) hv (fun _ _ => rfl) (fun _ _ _ _ => rfl) (by intro i b hi; cases hi) hx
  have hoi : (fun i => (objsOf ins i).or none) = objsOf ins := by funext i; simp
  rw [hoi] at g2
  let Fc : Fr := ⟨w, fun g => F.own g ∧ ¬ Used E o1' c1' g, E2'.S, E2'.mu, g8⟩
  have hS2 : E2'.S = E.S := g2.S
  have hcal : WI Fc E2' (objsOf ins) c2' w := by
    have hb := g2.b
    have own2 : ∀ g, F2.own g → ¬ Used E o1' c1' g → Fc.own g := by
      rintro g (h1 | h1) hn
      · exact .inl h1
      · exact .inr ⟨h1, hn⟩
    refine { agree := hb.agree, live := ?_, frz := hb.frz, claim := ?_, rows := hb.rows, oo := hb.oo, cc := hb.cc, oc := hb.oc, mdom := hb.mdom, kdom := hb.kdom, step := ⟨rfl, rfl, rfl, Nat.le_refl _, fun _ _ _ => rfl⟩, base := fun _ _ _ h => h, sdom := fun _ _ _ h => .inl h, pm := fun j b c hj _ => hj }
    · intro o cs' ho
      obtain ⟨b, t, ws, k1, k2, k3, k4, k5⟩ := hb.live o cs' ho; refine ⟨b, t, ws, k1, k2, k3, k4, own2 b k5 ?_⟩
      rintro (⟨o', cs2, u1, u2⟩ | ⟨q, v, s, u1, u2, u3⟩)
      · exact g2.oo o' o cs2 cs' b u1 ho u2 k1
      · exact g2.co o cs' b q v s ho k1 u1 u2 u3
    · intro q hq
      obtain ⟨v, sz, t, n, xs, k1, k2, k3, k4⟩ := hb.claim q hq; refine ⟨v, sz, t, n, xs, k1, k2, k3, fun g hg => ⟨own2 g (k4 g hg).1 ?_, (k4 g hg).2⟩⟩
      rintro (⟨o', cs2, u1, u2⟩ | ⟨q', v', s', u1, u2, u3⟩)
      · exact g2.oc o' cs2 g q v sz u1 u2 hq k1 hg
      · exact g2.cc q' q v' v s' sz g u1 hq u2 k1 u3 hg
  have hcapT : RepT E2' caps cs := z4o (hcap.flat_mono (eS hS2) hcf)
  have hcff : caps.all AV.flat = true := by rw [List.all_eq_true] at hcf ⊢; exact fun x hx => z1z (hcf x hx)
  have hcall : Sem P f (as1 ++ caps) ins _ := g1
  refine (hcall Fc E2' c2' w (us ++ cs).toArray rfl rfl rfl (by rw [zdq, z6g hcff]; simpa using z5e g4 hcapT) hcal (fun j cc hp => (g6 j cc hp).2) (fun j x e => by
      rcases Nat.lt_or_ge j as1.length with hj | hj
      · rw [List.getElem?_append_left hj] at e; have := g11 j x e; rwa [Nat.zero_add] at this
      · rw [List.getElem?_append_right hj] at e; exact z38 (List.all_eq_true.1 hcff _ (List.mem_of_getElem? e)))).mono ?_
  rintro e w' ⟨v, res, outs, E', cl', rfl, hq, hr, hW, hno, hnr, hnd⟩; obtain ⟨hA, hAle⟩ := g2.a.after (Fc := Fc) rfl hS2 (fun g hg => hg) hW
  have hownc : ∀ g, Fc.own g → F.own g := by
    rintro g (h1 | h1)
    · exact h.own_new h1
    · exact h1.1
  have hnu : ∀ g, g < w.heap.size → Fc.own g → ¬ Used E o1' c1' g := by
    rintro g hlt (h1 | h1)
    · exact absurd h1 (Nat.not_le.2 hlt)
    · exact h1.2
  have hT2 : Two Fc E' (objsOf outs) cl' F { E with S := E'.S } o1' c1' w' := by
    refine ⟨hW, hA, rfl, hownc, ?_, ?_, ?_, ?_⟩
    · intro o o' cs1 cs2 g ho ho' hm hm'
      obtain ⟨b, t, ws, k1, k2, k3, k4, k5⟩ := hW.live o cs1 ho
      rw [hm] at k1; cases k1
      exact hnu g (g2.a.lt_of_live ho' hm') k5 (.inl ⟨o', cs2, ho', hm'⟩)
    · intro o cs1 g q v' s ho hm hq' hk hg
      obtain ⟨b, t, ws, k1, k2, k3, k4, k5⟩ := hW.live o cs1 ho
      rw [hm] at k1; cases k1
      exact hnu g (g2.a.lt_of_claim hq' hk hg) k5 (.inr ⟨q, v', s, hq', hk, hg⟩)
    · intro o cs1 g q v' s ho hm hq' hk hg
      obtain ⟨v'', sz, t, n, xs, k1, k2, k3, k4⟩ := hW.claim q hq'
      rw [hk] at k1; cases k1
      exact hnu g (g2.a.lt_of_live ho hm) (k4 g hg).1 (.inl ⟨o, cs1, ho, hm⟩)
    · intro q q' v' v'' s s' g hq' hq'' hk hk' hg hg'
      obtain ⟨v3, sz, t, n, xs, k1, k2, k3, k4⟩ := hW.claim q hq'
      rw [hk] at k1; cases k1
      exact hnu g (g2.a.lt_of_claim hq'' hk' hg') (k4 g hg).1 (.inr ⟨q', v'', s', hq'', hk', hg'⟩)
  obtain ⟨rs, hrs, hvr⟩ := zf9 hr
  obtain ⟨outs', p1, pc1, pE, po, pc, r1, r2, r3, r4, r5, r6⟩ := zg9 bk outs _ _ _ _ _ _ hT2 (fun p hp => by
      obtain ⟨b, m1, m2, m3, m4⟩ := g5 p hp; exact ⟨b, m1, m2, m4⟩)
    (fun j cc hp => by
      refine ⟨?_, hno j cc hp⟩
      have hl : ∀ (l : List (Nat × List AV)), (l.map (·.1)).Nodup → (j, cc) ∈ l → objsOf l j = some (.live (frC (Nm.E j) 0 cc)) := by
        intro l
        induction l with
        | nil => intro _ h; cases h
        | cons p l ih =>
          intro hn hm; simp only [List.map_cons, List.nodup_cons] at hn; simp only [objsOf, List.map_cons, ofL]
          rcases List.mem_cons.1 hm with rfl | hm
          · simp
          · have hne : p.1 ≠ j := by rintro rfl; exact hn.1 (List.mem_map.2 ⟨_, hm, rfl⟩)
            have : Nat.beq p.1 j = false := by rw [Bool.eq_false_iff]; intro e; exact hne (Nat.eq_of_beq_eq_true e)
            simp only [this, cond_false]; exact ih hn.2 hm
      exact hl outs hnd hp) hnd hq
  obtain ⟨vs', q1, qc1, qE, qo, qc, s1, s2, s3, s4⟩ := zc6 (T.res f) 0 res rs outs' _ _ _ _ _ _ r2 F.mudom hrs r4 r5 (fun p x e => by
      rw [Nat.zero_add]; exact z3h (fun q hq => r6 q (fun j i e3 => z4n (e3 ▸ hq))) (hnr p x e)) r1
  exact ⟨v, qE, one1 vs', qo, qc, rfl, s1, (hAle.trans r3).trans s3, by rw [hvr]; exact z8c s4, s2.b⟩
end V
namespace V
variable {P : Program} {L : LoopM} {T : Tab} {F : Fr} {E : E3} {objs : Os} {cl : Cl} {w : World}
def revC (sz : Nat) : Nat → List Value → List Value
  | 0, _ => []
  | n + 1, xs => revC sz n (xs.drop sz) ++ xs.take sz
theorem zbm (sz : Nat) : ∀ (n : Nat) (xs : List Value), xs.length = n * sz → (revC sz n xs).length = n * sz
  | 0, xs, h => by simp [revC]
  | n + 1, xs, h => by
    have e : (n + 1) * sz = n * sz + sz := by rw [Nat.add_mul, Nat.one_mul]
    rw [revC, List.length_append, zbm sz n (xs.drop sz) (by rw [List.length_drop]; omega), List.length_take]
    omega
def RevAt (P : Program) (f sz : Nat) : Prop :=
  (∀ w : World, Calls P f #[.slice none 0 0] w fun e w' => e = .returned (.tuple #[]) ∧ w' = w) ∧
  ∀ (w : World) (g n cap : Nat) (cur : Array Value) (te : TypeId), w.heap[g]? = some (.cells cur te (0, 0)) → cur.size = cap * sz → n ≤ cap → cap ≤ maxLen → (∀ u ∈ cur.toList.take (n * sz), u.oneCell' = true) →
    Calls P f #[.slice (some ⟨g, 0, none⟩) n cap] w fun e w' => e = .returned (.tuple #[]) ∧ ∃ m, w' = ({ w with drawn := w.drawn + m } : World).setRow g (revC sz n (cur.toList.take (n * sz)) ++ cur.toList.drop (n * sz)).toArray
def PinAt (P : Program) (f sz off : Nat) : Prop :=
  ∀ (w : World) (b g n cap p : Nat) (tb : TypeId), w.heap[b]? = some (.cells #[.slice (some ⟨g, 0, none⟩) n cap, .int .i64 (p : Int)] tb (0, 0)) → p < n →
    Calls P f #[.pointer (some ⟨b, 0, none⟩)] w fun e w' => e = .returned (.pointer (some ⟨g, p * sz + off, none⟩)) ∧ ∃ m, w' = { w with drawn := w.drawn + m }
def OutAt (P : Program) (f sz : Nat) (z : AV) : Prop :=
  z.flat = true ∧ ∃ zs : List Value, zs.length = sz ∧ (∀ E, SrcR E sz [z] zs) ∧
    ∀ (w : World) (b g n cap p : Nat) (tb te : TypeId) (cur : Array Value), w.heap[b]? = some (.cells #[.slice (some ⟨g, 0, none⟩) n cap, .int .i64 (p : Int)] tb (0, 0)) → w.heap[g]? = some (.cells cur te (0, 0)) → b ≠ g → cur.size = cap * sz → p < n → n ≤ cap → cap ≤ maxLen → (∀ u ∈ cur.toList.take (n * sz), u.oneCell' = true) →
      Calls P f #[.pointer (some ⟨b, 0, none⟩)] w fun e w' => e = .returned (.agg ((cur.toList.drop (p * sz)).take sz).toArray) ∧ ∃ cur', cur'.size = cur.size ∧ cur'.toList.take (n * sz) = cur.toList.take (p * sz) ++ (cur.toList.drop ((p + 1) * sz)).take ((n - (p + 1)) * sz) ++ zs ∧
        w'.heap[g]? = some (.cells cur' te (0, 0)) ∧ w'.heap[b]? = some (.cells #[.slice (some ⟨g, 0, none⟩) (n - 1) cap, .int .i64 (p : Int)] tb (0, 0)) ∧ w.heap.size ≤ w'.heap.size ∧ (∀ k, k < w.heap.size → k ≠ g → k ≠ b → w'.heap[k]? = w.heap[k]?) ∧ w'.os = w.os ∧ w'.tape = w.tape ∧ w'.output = w.output
def SpcOK (P : Program) (f : Nat) (s : Spc) : Prop :=
  match s with
  | .rev sz => RevAt P f sz
  | .pin sz off => PinAt P f sz off
  | .out sz sh z => (∃ shs, sh = .agg shs) ∧ OutAt P f sz z
def FnOK (P : Program) (T : Tab) : Prop := (∀ f, T.fn f = true → ∃ fn body, P.funcs[f]? = some fn ∧ fn.body = some body ∧ (fn.name == "runtime.NumGoroutine") = false) ∧ ∀ f s, T.spc f = some s → SpcOK P f s
theorem zxt {P : Program} {T : Tab} (h : FnOK P T) (r : Nat → Option Spc) (hr : ∀ f s, r f = some s → SpcOK P f s) : FnOK P { T with spc := r } := ⟨h.1, hr⟩
theorem SrcR.one {sz : Nat} (hsz : 0 < sz) {l : List AV} {xs : List Value} (k2 : SrcR E sz l xs) : ∀ u ∈ xs, u.oneCell' = true := by
  intro u hu; obtain ⟨j, hj⟩ := List.getElem?_of_mem hu
  have hjl : j < l.length * sz := by rw [← k2.size]; exact (List.getElem?_eq_some_iff.1 hj).1
  have hi : j / sz < l.length := Nat.div_lt_of_lt_mul (by rw [Nat.mul_comm]; exact hjl)
  obtain ⟨h1, u', h2, h3, h4⟩ := k2.get (j / sz) l[j / sz] (by simp [hi])
  have hm : j % sz < sz := Nat.mod_lt _ hsz; have e := h4 (j % sz) hm; rw [Nat.mul_comm, Nat.div_add_mod, hj] at e
  rcases h1 with h1 | h1
  · exact (z3o h1 h2).1.all_one u (List.mem_of_getElem? (i := j % sz) (by simpa using e.symm))
  · have ho : (l[j / sz]).one = true := by
      generalize l[j / sz] = x at h1
      cases x <;> first | rfl | cases h1
    obtain ⟨g1, g2⟩ := z2n h2 ho; rw [g2] at e
    have : u = u' := by
      cases hjm : j % sz with
      | zero => rw [hjm] at e; simpa using e
      | succ n => rw [hjm] at e; simp at e
    rw [this]; exact g1
theorem SrcR.rev {sz : Nat} : ∀ {l : List AV} {xs : List Value}, SrcR E sz l xs → SrcR E sz l.reverse (revC sz l.length xs)
  | [], xs, h => SrcR.nil E sz
  | x :: l, xs, h => by
    have h1 := h.take 1; have h2 := h.drop 1; simp only [Nat.one_mul, List.take_succ_cons, List.take_zero, List.drop_succ_cons, List.drop_zero] at h1 h2; rw [List.reverse_cons, List.length_cons, revC]; exact (SrcR.rev h2).append h1
theorem zp6 {f sz : Nat} (hR : RevAt P f sz) (hI : WI F E objs cl w) {q : Nm} {l : List AV} {v : Value} (hv : Rep E (.sq q sz) v) (hq : cl q = some (.row l)) {k : AV → Os → Cl → Prop} (h : k (.tup []) objs (updN cl q (.row l.reverse))) : CallDoes P F E f #[v] w k := by
  have hx := hv; simp only [Rep] at hx; obtain ⟨tt, xs, k1, k2, k3, k4⟩ := z1j hI hq hx.1
  have hrep : Rep E (.tup []) (.tuple #[]) := by simp [Rep, RepT]
  rcases k1.2 with ⟨rfl, h0⟩ | ⟨g, cap, cur, rfl, _, hg, hnc, hcm, hcs, htake⟩
  · have hl0 : l = [] := List.eq_nil_of_length_eq_zero h0
    subst hl0
    have hsame : updN cl q (.row ([] : List AV).reverse) = cl := by
      funext p
      by_cases hqp : q = p
      · subst hqp; rw [zp]; simpa using hq.symm
      · rw [zm _ _ hqp]
    rw [hsame] at h; refine (hR.1 w).mono ?_; rintro e w' ⟨rfl, rfl⟩; exact ⟨_, E, .tup [], objs, cl, rfl, h, E3.le.refl E, hrep, hI⟩
  · have hone : ∀ u ∈ cur.toList.take (l.length * sz), u.oneCell' = true := by rw [htake]; exact k2.one k3
    have hle : l.length * sz ≤ cur.size := by rw [hcs]; exact Nat.mul_le_mul_right _ hnc
    refine (hR.2 w g l.length cap cur tt hg hcs hnc hcm hone).mono ?_; rintro e w' ⟨rfl, m, rfl⟩
    have hIm : WI F E objs cl { w with drawn := w.drawn + m } :=
      hI.world (hI.step.same_heap rfl rfl rfl rfl) (fun b i v hv => by simpa [World.cell?] using hI.agree b i v hv) (fun _ _ _ _ _ => rfl) (fun _ _ _ _ _ _ _ => rfl)
    have hcl : cur.toList.length = cur.size := Array.length_toList
    have hrl : (revC sz l.length (cur.toList.take (l.length * sz))).length = l.length * sz := zbm sz _ _ (by rw [List.length_take, hcl]; omega)
    have hW := hIm.row_set (l' := l.reverse) hq hx.1 (cur' := (revC sz l.length (cur.toList.take (l.length * sz)) ++ cur.toList.drop (l.length * sz)).toArray) hg (by
        rw [List.size_toArray, List.length_append, hrl, List.length_drop, hcl]; omega)
      (by simp) (by
        rw [List.toList_toArray, List.take_append_of_le_length (by omega), List.take_of_length_le (by omega), htake]
        exact k2.rev)
    exact ⟨_, E, .tup [], objs, _, rfl, h, E3.le.refl E, hrep, hW⟩
theorem zlq (hI : WI F E objs cl w) {o : Nat} {q : Nm} {sz : Nat} {n : Int} {l : List AV} {v : Value} (hv : Rep E (.ref o 0) v) (ho : objs o = some (.live [.sq q sz, .int .i64 n])) (hq : cl q = some (.row l)) (h0 : 0 ≤ n) (hn : n.toNat < l.length) :
    ∃ b tb g cap te cur, E.mu o = some b ∧ v = .pointer (some ⟨b, 0, none⟩) ∧ w.heap[b]? = some (.cells #[.slice (some ⟨g, 0, none⟩) l.length cap, .int .i64 (n.toNat : Int)] tb (0, 0)) ∧ E.ka q = some (.slice (some ⟨g, 0, none⟩) l.length cap, sz) ∧
      w.heap[g]? = some (.cells cur te (0, 0)) ∧ b ≠ g ∧ cur.size = cap * sz ∧ l.length ≤ cap ∧ cap ≤ maxLen ∧ SrcR E sz l (cur.toList.take (l.length * sz)) ∧ 0 < sz := by
  simp only [Rep] at hv; obtain ⟨b, hb, rfl⟩ := hv; obtain ⟨b', tb, vs, h1, h2, h3, h4, h5⟩ := hI.live o _ ho
  rw [hb] at h1; cases h1
  simp only [RepL] at h3; obtain ⟨v1, r1, rfl, _, _, g1, v2, r2, rfl, _, _, g2, rfl⟩ := h3; have g1' := g1; simp only [Rep] at g1 g2; obtain ⟨hka, _⟩ := g1; subst g2; obtain ⟨te, xs, k1, k2, k3, k4⟩ := z1j hI hq hka
  rcases k1.2 with ⟨rfl, e0⟩ | ⟨g, cap, cur, rfl, _, hg, hnc, hcm, hcs, htake⟩
  · omega
  · refine ⟨b, tb, g, cap, te, cur, hb, rfl, ?_, hka, hg, ?_, hcs, hnc, hcm, by rw [htake]; exact k2, k3⟩
    · rw [h2, Int.toNat_of_nonneg h0]
    · intro e
      subst e; exact hI.oc o _ b q _ sz ho hb (z16 hq) hka rfl
theorem zp7 {f sz off : Nat} (hR : PinAt P f sz off) (hI : WI F E objs cl w) {o : Nat} {q : Nm} {n : Int} {l : List AV} {v : Value} (hv : Rep E (.ref o 0) v) (ho : objs o = some (.live [.sq q sz, .int .i64 n])) (hq : cl q = some (.row l)) (h0 : 0 ≤ n) (hn : n.toNat < l.length)
    {k : AV → Os → Cl → Prop} (h : k (.ua q sz n.toNat off) objs cl) : CallDoes P F E f #[v] w k := by
  obtain ⟨b, tb, g, cap, te, cur, hb, rfl, hh, hka, _⟩ := zlq hI hv ho hq h0 hn; refine (hR w b g l.length cap n.toNat tb hh hn).mono ?_; rintro e w' ⟨rfl, m, rfl⟩
  have hIm : WI F E objs cl { w with drawn := w.drawn + m } :=
    hI.world (hI.step.same_heap rfl rfl rfl rfl) (fun b i v hv => by simpa [World.cell?] using hI.agree b i v hv) (fun _ _ _ _ _ => rfl) (fun _ _ _ _ _ _ _ => rfl)
  refine ⟨_, E, .ua q sz n.toNat off, objs, cl, rfl, h, E3.le.refl E, ?_, hIm⟩; simp only [Rep]; exact ⟨g, l.length, cap, hka, hn, rfl⟩
theorem z3p {w : World} {g b : Nat} {arr : Array Value} (h : b ≠ g) : (w.setRow g arr).heap[b]? = w.heap[b]? := setRow_other' w g b _ h
theorem zp8 {f sz : Nat} {z : AV} (hR : OutAt P f sz z) (hI : WI F E objs cl w) {o : Nat} {q : Nm} {n : Int} {l es : List AV} {v : Value} (hv : Rep E (.ref o 0) v) (ho : objs o = some (.live [.sq q sz, .int .i64 n])) (hq : cl q = some (.row l)) (h0 : 0 ≤ n) (he : l[n.toNat]? = some (.agg es))
    (hef : (AV.agg es).flat = true) {k : AV → Os → Cl → Prop} (h : k (.agg es) (upd objs o (.live [.sv q sz (l.length - 1), .int .i64 n])) (updN cl q (.row (l.take n.toNat ++ l.drop (n.toNat + 1) ++ [z])))) : CallDoes P F E f #[v] w k := by
  have hn : n.toNat < l.length := (List.getElem?_eq_some_iff.1 he).1; obtain ⟨b, tb, g, cap, te, cur, hb, rfl, hh, hka, hg, hbg, hcs, hnc, hcm, hsr, hsz⟩ := zlq hI hv ho hq h0 hn; obtain ⟨hzf, zs, hzl, hzr, hR⟩ := hR; refine (hR w b g l.length cap n.toNat tb te cur hh hg hbg hcs hn hnc hcm (hsr.one hsz)).mono ?_; rintro e w' ⟨rfl, cur', hs', ht', hg', hb', hsz', hbl', hos', htp', hou'⟩; have hcl : cur.toList.length = cur.size := Array.length_toList
  have hps : n.toNat * sz + sz ≤ l.length * sz := by
    have : (n.toNat + 1) * sz ≤ l.length * sz := Nat.mul_le_mul_right _ hn
    rw [Nat.add_mul, Nat.one_mul] at this; exact this
  have hsrc : SrcR E sz (l.take n.toNat ++ l.drop (n.toNat + 1) ++ [z]) (cur'.toList.take (l.length * sz)) := by
    rw [ht']; refine (SrcR.append ?_ ?_).append (hzr E)
    · have := hsr.take n.toNat
      rwa [List.take_take, Nat.min_eq_left (by omega)] at this
    · have := hsr.drop (n.toNat + 1)
      rw [List.drop_take] at this
      rwa [Nat.sub_mul]
  have hW := hI.row_set (l' := l.take n.toNat ++ l.drop (n.toNat + 1) ++ [z]) hq hka (cur' := cur') hg hs' (by simp; omega) hsrc
  have hW2 := hW.store (o := o) (cs' := [.sv q sz (l.length - 1), .int .i64 n]) (vs := [.slice (some ⟨g, 0, none⟩) (l.length - 1) cap, .int .i64 (n.toNat : Int)]) ho hb ⟨_, by rw [z3p hbg]; exact hh⟩ (by
    simp only [RepL, Rep]
    exact ⟨_, _, rfl, rfl, rfl, ⟨g, l.length, cap, hka, Nat.sub_le _ _, rfl⟩, _, _, rfl, rfl, rfl, by rw [Int.toNat_of_nonneg h0], rfl⟩)
  have hall : ∀ k, k < w.heap.size → w'.heap[k]? = ((w.setRow g cur').setRow b #[.slice (some ⟨g, 0, none⟩) (l.length - 1) cap, .int .i64 (n.toNat : Int)]).heap[k]? := by
    intro k hk
    by_cases hkb : k = b
    · subst hkb
      rw [hb', setRow_heap _ _ _ _ tb (0, 0) (by rw [z3p hbg]; exact hh)]
    · rw [z3p hkb]
      by_cases hkg : k = g
      · subst hkg
        rw [hg', setRow_heap w k cur cur' te (0, 0) hg]
      · rw [z3p hkg]
        exact hbl' k hk hkg hkb
  have hlt : ∀ {k : Nat} {y : Obj}, ((w.setRow g cur').setRow b #[.slice (some ⟨g, 0, none⟩) (l.length - 1) cap, .int .i64 (n.toNat : Int)]).heap[k]? = some y → k < w.heap.size := fun hy => by
    have := (Array.getElem?_eq_some_iff.1 hy).1
    rwa [size_setRow, size_setRow] at this
  have hW3 : WI F E (upd objs o (.live [.sv q sz (l.length - 1), .int .i64 n])) (updN cl q (.row (l.take n.toNat ++ l.drop (n.toNat + 1) ++ [z]))) w' := by
    refine hW2.world ⟨hos'.trans hI.step.os, htp'.trans hI.step.tape, hou'.trans hI.step.output, Nat.le_trans hI.step.size hsz', fun k hk ho => ?_⟩ ?_ ?_ ?_
    · rw [hall k (Nat.lt_of_lt_of_le hk hI.step.size)]
      exact hW2.step.block k hk ho
    · intro b' ix v' hs
      have h3 := hW2.agree b' ix v' hs
      have h4 : b' < w.heap.size := by
        cases h5 : ((w.setRow g cur').setRow b #[.slice (some ⟨g, 0, none⟩) (l.length - 1) cap, .int .i64 (n.toNat : Int)]).heap[b']? with
        | none => simp only [World.cell?] at h3; rw [h5] at h3; cases h3
        | some y => exact hlt h5
      rw [← h3]; simp only [World.cell?]; rw [hall b' h4]
    · intro o' cs' b' ho' hm'
      obtain ⟨b2, t2, vs2, m1, m2, _⟩ := hW2.live o' cs' ho'
      rw [hm'] at m1; cases m1
      exact hall _ (hlt m2)
    · intro q' v' s' g' hq' hk' hg'
      obtain ⟨v3, s3, t3, n3, xs3, m1, m2, m3, m4⟩ := hW2.claim q' hq'
      rw [hk'] at m1; cases m1
      refine hall _ ?_; have := (m3.lt g' hg').2
      rwa [size_setRow, size_setRow] at this
  refine ⟨_, E, .agg es, _, _, rfl, h, E3.le.refl E, ?_, hW3⟩; obtain ⟨_, u, g1, g2, g3⟩ := hsr.get _ _ he; have g1' := g1; simp only [Rep] at g1; obtain ⟨vs, rfl, _⟩ := g1
  have : vs.toArray = ((cur.toList.drop (n.toNat * sz)).take sz).toArray := by
    congr 1
    have hvl : vs.length = sz := by simpa [Value.cells] using g2
    apply List.ext_getElem?; intro j
    rcases Nat.lt_or_ge j sz with hj | hj
    · have := g3 j hj
      rw [List.getElem?_take_of_lt (by omega)] at this
      rw [List.getElem?_take_of_lt hj, List.getElem?_drop, this]; simp [Value.cells]
    · rw [List.getElem?_eq_none (by omega), List.getElem?_eq_none (by rw [List.length_take]; omega)]
  rw [← this]; exact g1'
theorem zp9 {f : Nat} {s : Spc} (hR : SpcOK P f s) (hI : WI F E objs cl w) {vs caps : List AV} {us cs : List Value} (hv : RepT E vs us) (hcap : RepL E caps cs) {M : Meaning} {k : AV → Os → Cl → Prop} (h : spcV (PA M) s caps vs objs cl k) : CallDoes P F E f (us ++ cs).toArray w k := by
  have two : ∀ {o : Nat}, refAt caps vs = some o → ∃ v, Rep E (.ref o 0) v ∧ (us ++ cs).toArray = #[v] := by
    intro o ho; unfold refAt at ho
    split at ho
    · cases ho
      obtain ⟨v, ev, hv1⟩ := z15 hv
      have hcs : cs = [] := by simpa [RepL] using hcap
      subst hcs
      exact ⟨v, hv1, by rw [ev]; rfl⟩
    · cases ho
  have row : ∀ {o : Nat} {u : Nm × Nat × Int}, rowAt objs o = some u → objs o = some (.live [.sq u.1 u.2.1, .int .i64 u.2.2]) := by
    intro o u ho; unfold rowAt at ho
    split at ho
    · rename_i e; cases ho; exact e
    · cases ho
  unfold spcV at h
  split at h
  · rename_i sz
    split at h
    · rename_i q wd
      simp only [zb, zv, Nat.beq_eq] at h; obtain ⟨rfl, l, hq, h⟩ := h; obtain ⟨v, ev, hv1⟩ := z15 hv
      have hcs : cs = [] := by simpa [RepL] using hcap
      subst hcs; rw [ev]; exact zp6 hR hI hv1 hq h
    · cases h
  · rename_i sz off
    simp only [zi, zb, zv, z42, Nat.beq_eq] at h; obtain ⟨o, ho, u, hu, rfl, l, hq, ⟨h0, hn⟩, h⟩ := h; obtain ⟨v, hv1, e⟩ := two ho; rw [e]
    exact zp7 hR hI hv1 (row hu) hq h0 (by omega) h
  · rename_i sz sh z
    simp only [zi, zb, zv, zf3, Nat.beq_eq] at h; obtain ⟨o, ho, u, hu, rfl, l, hq, h0, e, he, h⟩ := h; obtain ⟨v, hv1, e'⟩ := two ho; rw [e']; obtain ⟨⟨shs, rfl⟩, hR⟩ := hR; have h2 := h; simp only [shape, z6b] at h2; obtain ⟨es, rfl, _⟩ := h2; have h := z21 (k := fun e => (PA M).chk e.flat (k e (upd objs o (.live [.sv u.1 u.2.1 (l.length - 1), .int .i64 u.2.2])) (updN cl u.1 (.row (l.take u.2.2.toNat ++ l.drop (u.2.2.toNat + 1) ++ [z]))))) h
    simp only [z1f] at h; exact zp8 hR hI hv1 (row hu) hq h0 he h.1 h.2
theorem z7d : ∀ {vs : List AV} {ts : List Nat} {us : List Value}, RepT E vs us → vs.length = ts.length → RepT E (demArgs T vs ts) us
  | [], [], us, h, _ => by simpa [demArgs] using h
  | [], t :: ts, us, h, hl => by simp at hl
  | v :: vs, [], us, h, hl => by simp at hl
  | v :: vs, t :: ts, us, h, hl => by
    simp only [RepT, demArgs] at h ⊢; obtain ⟨u, r, rfl, h1, h2⟩ := h
    exact ⟨u, r, rfl, z3z h1, z7d h2 (by simpa using hl)⟩
theorem z6v {E E' : E3} (hS : ∀ b i v, E.S b i = some v → E'.S b i = some v) : ∀ {vs : List AV} {us : List Value}, vs.all AV.flat = true → RepT E vs us → RepT E' vs us
  | [], us, _, h => by simpa [RepT] using h
  | v :: vs, us, hf, h => by
    simp only [List.all_cons, Bool.and_eq_true] at hf; simp only [RepT] at h ⊢; obtain ⟨u, r, rfl, h1, h2⟩ := h; exact ⟨u, r, rfl, h1.flat_mono hS hf.1, z6v hS hf.2 h2⟩
theorem z9i {M : Meaning} : ∀ {shs : List Sh} {res : List AV} {k : List AV → Prop}, resX (PA M) shs res k → k res ∧ res.all AV.flat = true
  | [], res, k, h => by simp only [resX, z26] at h; obtain ⟨rfl, h⟩ := h; exact ⟨h, rfl⟩
  | sh :: shs, res, k, h => by
    simp only [resX, z20] at h; obtain ⟨v, r, e, h⟩ := h; have h := z21 (k := fun v => lit (PA M) v.flat (resX (PA M) shs r fun vs => k (v :: vs))) h; simp only [zb] at h; obtain ⟨h1, h2⟩ := z9i (k := fun vs => k (v :: vs)) h.2; rw [e]
    exact ⟨h1, by simp only [List.all_cons, Bool.and_eq_true]; exact ⟨h.1, h2⟩⟩
theorem zc7 : ∀ {l : List AV} {j : Nat}, l.all AV.flat = true → frR j l = l
  | [], j, _ => rfl
  | v :: l, j, h => by
    simp only [List.all_cons, Bool.and_eq_true] at h; simp only [frR, z6f h.1, zc7 h.2]
theorem zl5 (h : WI F E objs cl w) {f : Nat} {vs : List AV} {us : List Value} {caps : List AV} {cs : List Value} {ts : List Nat} {k : AV → Os → Cl → Prop} (hv : RepT E vs us) (hcap : RepL E caps cs) (hcf : caps.all AV.flat1 = true)
    (hf : (demArgs T vs ts).all AV.flat = true) (hl : vs.length = ts.length) (hx : (PA (SM P L)).callx f (demArgs T vs ts ++ caps) fun res => resX (PA (SM P L)) (T.res f) res fun vs => k (one1 vs) objs cl) :
    CallDoes P F E f (us ++ cs).toArray w k := by
  obtain ⟨res, hsem, hk⟩ := hx; obtain ⟨hk, hrf⟩ := z9i (k := fun vs => k (one1 vs) objs cl) hk
  let Fc : Fr := ⟨w, fun _ => False, E.S, fun _ => none, fun _ _ h => by cases h⟩
  let Ec : E3 := ⟨E.S, fun _ => none, fun _ => none⟩
  have h2 : WI Fc Ec (objsOf []) (fun _ => none) w :=
    ⟨h.agree, (by intro o cs ho; cases ho), (by intro o cs ho; cases ho), (by intro q hq; cases hq), (by intro q l hq; cases hq), (by intro o o' cs cs' b ho; cases ho), (by intro q q' v v' s s' g hq; cases hq),
      (by intro o cs b q v s ho; cases ho), (by intro o b ho; cases ho), (by intro q x hq; cases hq), ⟨rfl, rfl, rfl, Nat.le_refl _, fun _ _ _ => rfl⟩, fun _ _ _ h => h, fun _ _ _ h => .inl h, (by intro j b c hj; cases hj)⟩
  have hargs : RepT Ec (demArgs T vs ts ++ caps) (us ++ cs) :=
    z5e (z6v (E := E) (E' := Ec) (fun _ _ _ h => h) hf (z7d hv hl)) (z4o (RepL.flat_mono (E := E) (F := Ec) (fun _ _ _ h => h) hcf hcap))
  have hcall : Sem P f (demArgs T vs ts ++ caps) [] (fun r o => r = res ∧ o = []) := hsem
  have haf : (demArgs T vs ts ++ caps).all AV.flat = true := by
    rw [List.all_append, hf, Bool.true_and]; rw [List.all_eq_true] at hcf ⊢; exact fun x hx => z1z (hcf x hx)
  refine (hcall Fc Ec (fun _ => none) w (us ++ cs).toArray rfl rfl rfl (by rw [z6g haf]; simpa using hargs) h2 (by intro j cs hp; cases hp) (fun j x e => z38 (List.all_eq_true.1 haf _ (List.mem_of_getElem? e)))).mono ?_
  rintro e w' ⟨v, res', outs, E', cl', rfl, ⟨rfl, rfl⟩, hr, hW, _, _, _⟩; obtain ⟨hA, hAle⟩ := h.after (Fc := Fc) rfl rfl (fun g hg => hg.elim) hW; rw [zc7 hrf] at hr; obtain ⟨rs, hrs, hvr⟩ := zf9 hr; refine ⟨v, _, one1 res', objs, cl, rfl, hk, hAle, ?_, hA⟩; rw [hvr]; exact z8c (z6v (E := E') (E' := { E with S := E'.S }) (fun _ _ _ h => h) hrf hrs)
def isNum (v : AV) : Bool := match v with | .int _ _ => true | .bool _ => true | _ => false
theorem zv9 {E E' : E3} {x : AV} {v : Value} (h : isNum x = true) (hr : Rep E x v) : Rep E' x v := by
  cases x <;> first | (simp [isNum] at h; done) | simpa [Rep] using hr
theorem zih {E E' : E3} : ∀ {l : List AV} {us : List Value}, l.all isNum = true → RepT E l us → RepT E' l us
  | [], us, _, h => by simpa [RepT] using h
  | x :: l, us, hn, h => by
    simp only [List.all_cons, Bool.and_eq_true] at hn; simp only [RepT] at h ⊢; obtain ⟨v, r, rfl, h1, h2⟩ := h; exact ⟨v, r, rfl, zv9 hn.1 h1, zih hn.2 h2⟩
theorem zga {M : Meaning} : ∀ {shs : List Sh} {res : List AV} {k : List AV → Prop}, shs.all Sh.scal = true → resX (PA M) shs res k → res.all isNum = true
  | [], res, k, _, h => by simp only [resX, z26] at h; obtain ⟨rfl, h⟩ := h; rfl
  | sh :: shs, res, k, hs, h => by
    simp only [List.all_cons, Bool.and_eq_true] at hs; simp only [resX, z20] at h; obtain ⟨v, r, e, h⟩ := h
    have hv : isNum v = true := by
      cases sh <;> first
        | (simp [Sh.scal] at hs; done)
        | (simp only [shape, shape1, zp1, z3u] at h; obtain ⟨n, rfl, _⟩ := h; rfl)
    have h := z21 (k := fun v => lit (PA M) v.flat (resX (PA M) shs r fun vs => k (v :: vs))) h; simp only [zb] at h; rw [e, List.all_cons, hv, zga hs.2 h.2]; rfl
theorem zhq {e : AV} (h : e.cells.all AV.flat1 = true) : e.flat = true := by
  cases e <;> first | exact h | (simpa [AV.cells, AV.flat] using h)
theorem zl6 (h : WI F E objs cl w) {f : Nat} {x : AV} {g o : Nat} {us : List Value} {caps : List AV} {cs : List Value} {ts : List Nat} {q : Nm} {i j : Nat} {l : List AV} {e : AV} {k : AV → Os → Cl → Prop} (hv : RepT E [x, .bclo g o] us) (hcap : RepL E caps cs) (hcf : caps.all AV.flat1 = true)
    (hu : uaAt objs o = some (q, i, j)) (hq : cl q = some (.row l)) (he : l[i]? = some e) (hef : e.cells.all AV.flat1 = true) (hsc : (T.res f).all Sh.scal = true)
    (hf : (demArgs T [x, .clo g [.rp [.rp e.cells j] 0]] ts).all AV.flat = true) (hl : 2 = ts.length) (hx : (PA (SM P L)).callx f (demArgs T [x, .clo g [.rp [.rp e.cells j] 0]] ts ++ caps) fun res => resX (PA (SM P L)) (T.res f) res fun vs => k (one1 vs) objs cl) :
    CallDoes P F E f (us ++ cs).toArray w k := by
  obtain ⟨res, hsem, hk⟩ := hx; have hrn := zga hsc hk; obtain ⟨hk, hrf⟩ := z9i (k := fun vs => k (one1 vs) objs cl) hk
  obtain ⟨wd, ho⟩ : ∃ wd, objs o = some (.live [.ua q wd i j]) := by
    unfold uaAt at hu
    split at hu
    · rename_i e; cases hu; exact ⟨_, e⟩
    · cases hu
  obtain ⟨b, tb, vs0, hb, hbh, hbr, hbS, hbo⟩ := h.live o _ ho; simp only [RepL, Rep] at hbr; obtain ⟨pv, r0, rfl, _, _, ⟨gb, nn, cap, hka, hin, rfl⟩, rfl⟩ := hbr; obtain ⟨te, xs, k1, k2, k3, k4⟩ := z1j h hq hka
  obtain ⟨cur, hg, hcs, htake⟩ : ∃ cur, w.heap[gb]? = some (.cells cur te (0, 0)) ∧ l.length * wd ≤ cur.size ∧ cur.toList.take (l.length * wd) = xs := by
    rcases k1.2 with ⟨e1, _⟩ | ⟨g', cap', cur, e1, _, hg, hnc, hcm, hcs, htake⟩
    · cases e1
    · cases e1; exact ⟨cur, hg, by rw [hcs]; exact Nat.mul_le_mul_right _ hnc, htake⟩
  have hbg : gb ≠ b := by
    intro e1; subst e1; exact h.oc o _ gb q _ wd ho hb (z16 hq) hka rfl
  have hil : i < l.length := (List.getElem?_eq_some_iff.1 he).1; obtain ⟨_, u, u1, u2, u3⟩ := k2.get i e he; obtain ⟨c1, _⟩ := z3o (zhq hef) u1; have hgS : ∀ i, E.S gb i = none := (k4 gb rfl).2
  let S' : Nat → Nat → Option Value := fun b' ix => if b' = b ∧ ix = 0 then some (.pointer (some ⟨gb, i * wd + j, none⟩)) else if b' = gb ∧ i * wd ≤ ix ∧ ix < i * wd + wd then cur[ix]? else E.S b' ix
  have hsub : ∀ b' ix v, E.S b' ix = some v → S' b' ix = some v := by
    intro b' ix v hs
    have h1 : b' ≠ b := by rintro rfl; rw [hbS] at hs; cases hs
    have h2 : b' ≠ gb := by rintro rfl; rw [hgS] at hs; cases hs
    simp only [S', h1, h2, false_and, if_false]; exact hs
  have hag : ∀ b' ix v, S' b' ix = some v → w.cell? ⟨b', ix, none⟩ = some v := by
    intro b' ix v hs; simp only [S'] at hs
    split at hs
    · rename_i e1
      obtain ⟨rfl, rfl⟩ := e1
      cases hs
      rw [cell_of_row w b' 0 _ tb (0, 0) hbh]; rfl
    · split at hs
      · rename_i e1
        obtain ⟨rfl, _⟩ := e1; rw [cell_of_row w b' ix _ te (0, 0) hg]; exact hs
      · exact h.agree b' ix v hs
  let Fc : Fr := ⟨w, fun _ => False, S', fun _ => none, fun _ _ h => by cases h⟩
  let Ec : E3 := ⟨S', fun _ => none, fun _ => none⟩
  let Em : E3 := { E with S := S' }
  have hEm : E.le Em := ⟨hsub, fun _ _ h => h, fun _ _ h => h⟩
  have h2 : WI Fc Ec (objsOf []) (fun _ => none) w :=
    ⟨hag, (by intro o cs ho; cases ho), (by intro o cs ho; cases ho), (by intro q hq; cases hq), (by intro q l hq; cases hq), (by intro o o' cs cs' b ho; cases ho), (by intro q q' v v' s s' g hq; cases hq),
      (by intro o cs b q v s ho; cases ho), (by intro o b ho; cases ho), (by intro q x hq; cases hq), ⟨rfl, rfl, rfl, Nat.le_refl _, fun _ _ _ => rfl⟩, fun _ _ _ h => h, fun _ _ _ h => .inl h, (by intro j b c hj; cases hj)⟩
  have hrp : Rep Em (.rp e.cells j) (.pointer (some ⟨gb, i * wd + j, none⟩)) := by
    simp only [Rep]; refine ⟨gb, i * wd, rfl, hef, u.cells.toList, c1.mono hEm, fun jj hjj => ?_⟩
    have hjw : jj < wd := by rw [← u2]; simpa using hjj
    have h3 : S' gb (i * wd + jj) = cur[i * wd + jj]? := by
      have e1 : ¬ (gb = b ∧ i * wd + jj = 0) := fun hc => hbg hc.1
      have e2 : gb = gb ∧ i * wd ≤ i * wd + jj ∧ i * wd + jj < i * wd + wd := ⟨rfl, by omega, by omega⟩
      show (if gb = b ∧ i * wd + jj = 0 then _ else if gb = gb ∧ i * wd ≤ i * wd + jj ∧ i * wd + jj < i * wd + wd then cur[i * wd + jj]? else E.S gb (i * wd + jj)) = _
      rw [if_neg e1, if_pos e2]
    have h4 := u3 jj hjw
    have h5 : i * wd + jj < l.length * wd := by
      have : (i + 1) * wd ≤ l.length * wd := Nat.mul_le_mul_right _ hil
      rw [Nat.add_mul, Nat.one_mul] at this; omega
    rw [← htake, List.getElem?_take_of_lt h5] at h4; show S' gb (i * wd + jj) = _; rw [h3, ← Array.getElem?_toList, h4, Array.getElem?_toList]
  have hclo : Rep Em (.clo g [.rp [.rp e.cells j] 0]) (.func (.func g) #[] #[.pointer (some ⟨b, 0, none⟩)]) := by
    simp only [Rep]; refine ⟨[.pointer (some ⟨b, 0, none⟩)], rfl, rfl, ?_⟩; simp only [RepL]; refine ⟨_, _, rfl, rfl, rfl, ?_, rfl⟩; simp only [Rep]; refine ⟨b, 0, rfl, rfl, [.pointer (some ⟨gb, i * wd + j, none⟩)], ?_, fun jj hjj => ?_⟩
    · simp only [RepL]
      exact ⟨_, _, rfl, rfl, rfl, hrp, rfl⟩
    · have : jj = 0 := by simpa using hjj
      subst this; show S' b (0 + 0) = _; simp [S']
  obtain ⟨v1, v2, rfl, r1, r2⟩ := z1y hv
  have hv2 : v2 = .func (.func g) #[] #[.pointer (some ⟨b, 0, none⟩)] := by
    simp only [Rep] at r2; obtain ⟨b', hb', rfl⟩ := r2
    rw [hb] at hb'; cases hb'; rfl
  subst hv2
  have hvm : RepT Em [x, .clo g [.rp [.rp e.cells j] 0]] [v1, .func (.func g) #[] #[.pointer (some ⟨b, 0, none⟩)]] := by
    simp only [RepT]; exact ⟨_, _, rfl, r1.mono hEm, _, _, rfl, hclo, rfl⟩
  have hargs : RepT Ec (demArgs T [x, .clo g [.rp [.rp e.cells j] 0]] ts ++ caps) ([v1, .func (.func g) #[] #[.pointer (some ⟨b, 0, none⟩)]] ++ cs) :=
    z5e (z6v (E := Em) (E' := Ec) (fun _ _ _ h => h) hf (z7d hvm (by simpa using hl))) (z4o (RepL.flat_mono (E := E) (F := Ec) hsub hcf hcap))
  have hcall : Sem P f (demArgs T [x, .clo g [.rp [.rp e.cells j] 0]] ts ++ caps) [] (fun r o => r = res ∧ o = []) := hsem
  have haf : (demArgs T [x, .clo g [.rp [.rp e.cells j] 0]] ts ++ caps).all AV.flat = true := by
    rw [List.all_append, hf, Bool.true_and]; rw [List.all_eq_true] at hcf ⊢; exact fun x hx => z1z (hcf x hx)
  refine (hcall Fc Ec (fun _ => none) w ([v1, .func (.func g) #[] #[.pointer (some ⟨b, 0, none⟩)]] ++ cs).toArray rfl rfl rfl (by rw [z6g haf]; simpa using hargs) h2 (by intro j cs hp; cases hp) (fun j x e => z38 (List.all_eq_true.1 haf _ (List.mem_of_getElem? e)))).mono ?_
  rintro e' w' ⟨v, res', outs, E', cl', rfl, ⟨rfl, rfl⟩, hr, hW, _, _, _⟩; have hblk : ∀ g, g < w.heap.size → w'.heap[g]? = w.heap[g]? := fun g hg => hW.step.block g hg (fun h => h); have hlt : ∀ {g : Nat} {y : Obj}, w.heap[g]? = some y → g < w.heap.size := fun hy => (Array.getElem?_eq_some_iff.1 hy).1
  have hA : WI F E objs cl w' := by
    refine h.world ⟨hW.step.os.trans h.step.os, hW.step.tape.trans h.step.tape, hW.step.output.trans h.step.output, Nat.le_trans h.step.size hW.step.size, fun g hg ho => ?_⟩ ?_ ?_ ?_
    · rw [hblk g (Nat.lt_of_lt_of_le hg h.step.size)]; exact h.step.block g hg ho
    · intro b' ix v' hs
      have h3 := h.agree b' ix v' hs
      have h4 : b' < w.heap.size := by
        rcases Nat.lt_or_ge b' w.heap.size with h4 | h4
        · exact h4
        · have : w.heap[b']? = none := Array.getElem?_eq_none h4
          simp [World.cell?, this] at h3
      rw [← h3]; simp only [World.cell?]; rw [hblk b' h4]
    · intro o' cs' b' ho' hm'
      obtain ⟨b2, t2, vs2, m1, m2, _⟩ := h.live o' cs' ho'
      rw [hm'] at m1; cases m1
      exact hblk _ (hlt m2)
    · intro q' v' s' g' hq' hk' hg'
      obtain ⟨v3, s3, t3, n3, xs3, m1, m2, m3, m4⟩ := h.claim q' hq'
      rw [hk'] at m1; cases m1
      exact hblk _ (m3.lt g' hg').2
  rw [zc7 hrf] at hr; obtain ⟨rs, hrs, hvr⟩ := zf9 hr; refine ⟨v, E, one1 res', objs, cl, rfl, hk, E3.le.refl E, ?_, hA⟩; rw [hvr]; exact z8c (zih hrn hrs)
theorem zl7 (hF : FnOK P T) {f : Nat} (hf : T.fn f = true) {a : Act} {o : Oper} {fo : Operand} {args : Array Operand} {ats : Array TypeId} (ho : o.op = .call { callee := .value fo, args := args, argTypes := ats }) {cs : List Value}
    (hv : a.eval fo = .func (.func f) #[] cs.toArray) {k : AV → Os → Cl → Prop} (h : CallDoes P F E f ((args.toList.map a.eval) ++ cs).toArray w k) {next : Act → World → Prop} {Q : Exit → Act → World → Prop}
    (hn : ∀ E' x v objs' cl' w', k x objs' cl' → E.le E' → Rep E' x v → WI F E' objs' cl' w' → next (a.put o.dst v) w') : o.wp P a w next Q := by
  obtain ⟨fn, body, h1, h2, h3⟩ := hF.1 f hf
  have hrun : (execOp a.eval o).run P w = .ok (.enter f ((args.toList.map a.eval) ++ cs).toArray) w := by
    have e : (args.map a.eval ++ cs.toArray) = ((args.toList.map a.eval) ++ cs).toArray := by apply Array.ext'; simp
    have h2' : fn.body.isNone = false := by rw [h2]; rfl
    have h3' : ¬ fn.name = "runtime.NumGoroutine" := by simpa using h3
    unfold execOp; simp only [ho]; simp [resolve, hv, Deferred.ofValue, invoke, callFunc, h1, h3', h2, e]
  unfold Oper.wp; rw [hrun, Oper.upon_enter]; refine h.mono ?_; rintro e w' ⟨v, E', x, objs', cl', rfl, g1, g2, g3, g4⟩; exact hn E' x v objs' cl' w' g1 g2 g3 g4
theorem zx {a : Act} {o : Oper} {k : AV → Os → Cl → Prop} (h : Does P F E a.eval o w k) {next : Act → World → Prop} {Q : Exit → Act → World → Prop}
    (hn : ∀ E' x v objs' cl' w', k x objs' cl' → E.le E' → Rep E' x v → WI F E' objs' cl' w' → next (a.put o.dst v) w') : o.wp P a w next Q := by
  obtain ⟨E', x, v, objs', cl', w', h1, h2, h3, h4, h5⟩ := h; unfold Oper.wp
  rcases h5 with h5 | ⟨h5, rfl⟩
  · rw [h5, Oper.upon_value]; exact hn E' x v objs' cl' w' h1 h2 h3 h4
  · rw [h5, Oper.upon_skip]; exact hn E' x undef objs' cl' w' h1 h2 h3 h4
theorem zs5 {M : Meaning} {sz : Nat} {y : AV} {cl : Cl} {p : Prop} {k : List AV → Prop} (h : srcV (PA M) sz y cl fun r => p ∧ k r) : p ∧ srcV (PA M) sz y cl k := by
  unfold srcV at h ⊢
  split at h
  · simp only [zb] at h ⊢
    exact ⟨h.2.1, h.1, h.2.2⟩
  · simp only [zb, zv] at h ⊢
    obtain ⟨h1, r, h2, h3, h4, h5⟩ := h; exact ⟨h4, h1, r, h2, h3, h5⟩
  · exact h.elim
theorem zs6 (hI : WI F E objs cl w) {M : Meaning} {sz : Nat} {y : AV} {k : List AV → Prop} (hsz : 0 < sz) (h : srcV (PA M) sz y cl k) :
    ∃ r, (∀ v, Rep E y v → ∃ news, Src P w sz r.length v news ∧ SrcE E sz r news) ∧ k r := by
  have h' := h; unfold srcV at h
  split at h
  · rename_i m' w' r
    simp only [zb] at h; refine ⟨r, fun v hv => ?_, h.2⟩
    obtain ⟨r', news, e, h1, h2⟩ := zdk (P := P) (M := M) (k := fun r' => r' = r) hI hv hsz (by unfold srcV; simp only [zb]; exact ⟨h.1, trivial⟩)
    subst e; exact ⟨news, h1, h2⟩
  · rename_i q w'
    simp only [zb, zv] at h; obtain ⟨g1, r, g2, g3, g4⟩ := h; refine ⟨r, fun v hv => ?_, g4⟩
    obtain ⟨r', news, e, h1, h2⟩ := zdk (P := P) (M := M) (k := fun r' => r' = r) hI hv hsz (by unfold srcV; simp only [zb, zv]; exact ⟨g1, r, g2, g3, rfl⟩)
    subst e; exact ⟨news, h1, h2⟩
  · exact h.elim
theorem z9j {M : Meaning} : ∀ {qs : List Nm} {E : E3} {x : AV} {v : Value} {cl : Cl} {k : AV → Cl → Prop}, WI F E objs cl w → Rep E x v → stillR (PA M) qs x cl k →
    ∃ E' x' cl', k x' cl' ∧ E.le E' ∧ Rep E' x' v ∧ WI F E' objs cl' w
  | [], E, x, v, cl, k, hI, hx, h => ⟨E, x, cl, h, E3.le.refl E, hx, hI⟩
  | q :: qs, E, x, v, cl, k, hI, hx, h => by
    simp only [stillR, zv, zb] at h; obtain ⟨l, hq, hf, h⟩ := h; obtain ⟨E', h1, h2, h3, h4, h5⟩ := hI.row_still hq hf; obtain ⟨E'', x', cl', g1, g2, g3, g4⟩ := z9j h4 (zlo h1 h5 hx) h; exact ⟨E'', x', cl', g1, h1.trans g2, g3, g4⟩
set_option maxHeartbeats 2000000 in
theorem zpa (hT : TabOK P T) (hF : FnOK P T) (hI : WI F E objs cl w) {a : Act} {o : Oper} {d : Nat} {vs : List AV} {k : AV → Os → Cl → Prop} (hv : RepT E vs (o.op.operands.toList.map a.eval))
    (h : opV (PA (SM P L)) T d o.op vs objs cl k) {next : Act → World → Prop} {Q : Exit → Act → World → Prop}
    (hn : ∀ E' x v objs' cl' w', k x objs' cl' → E.le E' → Rep E' x v → WI F E' objs' cl' w' → next (a.put o.dst v) w') : o.wp P a w next Q := by
  obtain ⟨dst, op, ty, pos, after, guard⟩ := o; dsimp only at hv h hn
  have pure : pureV (PA (SM P L)) T op vs objs (fun v => k v objs cl) → Does P F E a.eval ⟨dst, op, ty, pos, after, guard⟩ w k := by
    intro h
    obtain ⟨x, v, h1, h2, h3⟩ := z7b (W := (· = w)) (o := ⟨dst, op, ty, pos, after, guard⟩) hT (by rintro w' rfl; exact hI.known) hI.objK hv h
    exact ⟨E, x, v, objs, cl, w, h1, E3.le.refl E, h2, hI, .inl (h3 w rfl)⟩
  unfold opV at h
  split at h
  · rename_i t
    simp only [zb, Bool.and_eq_true, Bool.not_eq_true'] at h; obtain ⟨⟨hk, hz⟩, h⟩ := h; obtain ⟨hd, h⟩ := z9e.1 h; exact zx (zl1 hT hI hk hz hd h) hn
  · rename_i t x xa
    simp only [Op.operands, List.map_cons, List.map_nil] at hv; obtain ⟨u, e, hx⟩ := z15 hv
    injection e with e _; subst e; exact zx (zp3 hI hx h) hn
  · rename_i t aa xx av xv
    simp only [Op.operands, List.map_cons, List.map_nil] at hv; obtain ⟨u1, u2, e, h1, h2⟩ := z1y hv
    injection e with e1 e; injection e with e2 _
    subst e1; subst e2
    split at h
    · split at h
      · rename_i l hl
        exact zx (zl2 hT hI h1 h2 hl h) hn
      · cases h
    · rename_i q wd i j
      simp only [zv, z50] at h; obtain ⟨l, hq, e, he, h⟩ := h; exact zx (zf6 hT hI h1 h2 hq he h) hn
    · cases h
  · rename_i t xa q wd i j
    simp only [Op.operands, List.map_cons, List.map_nil] at hv; obtain ⟨u, e, hx⟩ := z15 hv
    injection e with e _; subst e; simp only [zv, z50] at h; obtain ⟨l, hq, e, he, h⟩ := h; obtain ⟨x', v', g1, g2, g3⟩ := z7c (k := fun v objs cl => shape (PA (SM P L)) (T.ty t).sh v fun v => k v objs cl) (dst := dst) (ty := ty) (pos := pos) (after := after) (gd := guard) hT hI hx hq he h; exact zx ⟨E, x', v', objs, cl, w, z21 (k := fun v => k v objs cl) g1, E3.le.refl E, g2, hI, .inl g3⟩ hn
  · rename_i t xa xb q wd ik n
    simp only [Op.operands, List.map_cons, List.map_nil] at hv; obtain ⟨u1, u2, e, h1, h2⟩ := z1y hv
    injection e with e1 e; injection e with e2 _
    subst e1; subst e2
    split at h
    · rename_i el ht
      simp only [zb, zv, z42, Bool.and_eq_true, Nat.beq_eq] at h; obtain ⟨⟨hw, hk⟩, l, hq, ⟨h0, hlt⟩, h⟩ := h; exact zx (zf5 hT hI h1 h2 ht hw hk hq h0 hlt h) hn
    · cases h
  · rename_i t xa xb q wd mm ik n
    simp only [Op.operands, List.map_cons, List.map_nil] at hv; obtain ⟨u1, u2, e, h1, h2⟩ := z1y hv
    injection e with e1 e; injection e with e2 _
    subst e1; subst e2
    split at h
    · rename_i el ht
      simp only [zb, z42, Bool.and_eq_true, Nat.beq_eq] at h; obtain ⟨⟨hw, hk⟩, ⟨h0, hlt⟩, h⟩ := h; exact zx (zdm hT hI h1 h2 ht hw hk h0 hlt h) hn
    · cases h
  · rename_i t xa xb n c
    simp only [Op.operands, List.map_cons, List.map_nil] at hv; obtain ⟨u1, u2, e, h1, h2⟩ := z1y hv
    injection e with e1 e; injection e with e2 _
    subst e1; subst e2
    split at h
    · rename_i el ht
      simp only [zb, z1f, Bool.and_eq_true, Nat.blt_eq, Bool.not_eq_true', decide_eq_true_eq] at h; obtain ⟨⟨⟨⟨⟨q1, q2⟩, q3⟩, q4⟩, q5⟩, ⟨⟨h0, hnc⟩, hc⟩, h⟩ := h; obtain ⟨hd, h⟩ := z23.1 h; exact zx (zdo hT hI h1 h2 ht q1 q2 q3 q4 q5 h0 hnc hc hd h) hn
    · cases h
  · rename_i vs' t len parts
    split at h
    · rename_i e ht
      cases hl0 : Nat.beq len 0 with
      | true =>
        have := Nat.eq_of_beq_eq_true hl0; subst this; rw [hl0] at h; simp only [cond_true, zb, Bool.and_eq_true, Nat.blt_eq] at h; obtain ⟨⟨⟨q1, q2⟩, q3⟩, h⟩ := h
        have hp : parts = #[] := by simpa using q1
        subst hp; exact zx (zbh (d := d) hT hI ht q2 q3 h) hn
      | false =>
      rw [hl0] at h; simp only [cond_false, zb, Bool.and_eq_true, Nat.blt_eq, Nat.ble_eq, Bool.not_eq_true'] at h; obtain ⟨⟨⟨⟨⟨⟨q1, q2⟩, q3⟩, q4⟩, q5⟩, q6⟩, h⟩ := h; refine zx (zc1 hT hI ht ?_ q1 q2 q3 q4 q5 q6 h) hn
      simpa [Op.operands, Function.comp_def] using hv
    · cases h
  · rename_i f first caps
    simp only [zb] at h; obtain ⟨hfe, h⟩ := h
    have hfirst : first = #[] := by simpa using hfe
    subst hfirst; simp only [Op.operands, Array.empty_append] at hv
    split at h
    · rename_i o ho
      have ho2 : vs = [.ref o 0] ∧ ∃ c, objs o = some (.live [c]) := by
        unfold capB at ho
        split at ho
        · split at ho
          · rename_i o' c hoo
            cases hc : isUa c with
            | true => rw [hc] at ho; cases ho; exact ⟨rfl, c, hoo⟩
            | false => rw [hc] at ho; cases ho
          · cases ho
        · cases ho
      obtain ⟨rfl, c, hoc⟩ := ho2; obtain ⟨u, eu, hu⟩ := z15 hv; simp only [Rep] at hu; obtain ⟨b, hb, rfl⟩ := hu; refine zx ⟨E, .bclo f o, .func (.func f) #[] #[.pointer (some ⟨b, 0, none⟩)], objs, cl, w, h, E3.le.refl E, ?_, hI, .inl ?_⟩ hn
      · simp only [Rep]
        exact ⟨b, hb, rfl⟩
      · have e : Array.map a.eval caps = #[.pointer (some ⟨b, 0, none⟩)] := by apply Array.ext'; simpa using eu
        simp [execOp, Instr.makeFunc, e]
    obtain ⟨E', cs, objs', g1, g2, g3, g4, g5⟩ := z5c _ _ _ _ hI hv h; refine zx ⟨E', _, .func (.func f) #[] (caps.toList.map a.eval).toArray, objs', cl, w, g1, g2, ?_, g3, .inl ?_⟩ hn
    · simp only [Rep]
      exact ⟨_, rfl, g5, g4⟩
    · have e : Array.map a.eval caps = (caps.toList.map a.eval).toArray := by apply Array.ext'; simp
      simp [execOp, Instr.makeFunc, e]
  · rename_i args ats x y
    split at h
    · rename_i t u ts hts
      split at h
      · rename_i e ht
        have hv' : RepT E [x, y] (args.toList.map a.eval) := by simpa [Op.operands, Call.operands] using hv
        dsimp only at h; simp only [zb, Bool.and_eq_true, Bool.not_eq_true'] at h; obtain ⟨⟨hk, hz⟩, h⟩ := h
        split at h
        · rename_i s
          simp only [zb, Bool.and_eq_true, Nat.beq_eq] at h; obtain ⟨⟨⟨⟨hu8, hstr⟩, hsz⟩, hby⟩, h⟩ := h
          have hus : (T.ty u).k = .str := by unfold isStr at hstr; split at hstr <;> simp_all
          refine zx (zdl (n := s.length) (r := encB s) (uq := T.uq d) (d := d) hT hI hv' hts ht (by simp [encB]) ⟨_, hT.str hus, .inr rfl⟩ hk hz (by omega) (by omega) (by omega) ?_ (by rw [hsz, hby]; simpa using h)) hn
          intro v hv; rw [hsz]; exact ⟨_, znc hv⟩
        · have hv2 := hv'
          simp only [RepT] at hv2; obtain ⟨sv, r0, e0, _, yv, r1, e1, hyr, _⟩ := hv2
          obtain ⟨hq2, h9⟩ := zs5 (by simpa only [zb] using h)
          clear h; simp only [Bool.and_eq_true, Nat.beq_eq, Nat.blt_eq, Nat.ble_eq] at hq2; obtain ⟨⟨⟨htu, hsz⟩, hby⟩, hbm⟩ := hq2; subst htu; obtain ⟨r, hr, h8⟩ := zs6 (P := P) hI hsz h9; exact zx (zdl (n := r.length) (r := r) (uq := T.uq d) (d := d) hT hI hv' hts ht rfl ⟨_, hT.slice ht, .inl ⟨_, rfl⟩⟩ hk hz hsz hby hbm hr h8) hn
      · cases h
    · cases h
  · rename_i args ats q wd y
    split at h
    · rename_i t u ts hts
      split at h
      · rename_i e ht
        have hv' : RepT E [.sq q wd, y] (args.toList.map a.eval) := by simpa [Op.operands, Call.operands] using hv
        simp only [zb, zv, Bool.and_eq_true, Nat.beq_eq, Nat.blt_eq] at h; obtain ⟨⟨⟨⟨htu, hw⟩, hsz⟩, hk⟩, l, hq, h⟩ := h; exact zx (zhp hT hI hv' hts ht hw hsz hk hq h) hn
      · cases h
    · cases h
  · rename_i args ats q wd
    split at h
    · rename_i t hts
      split at h
      · rename_i e ht
        simp only [zv, zdg] at h; obtain ⟨l, hq, h⟩ := h
        exact zx (zi9 hT hI (by simpa [Op.operands, Call.operands] using hv) hts ht hq h) hn
      · cases h
    · cases h
  · rename_i s t xa q wd
    simp only [Op.operands, List.map_cons, List.map_nil] at hv; obtain ⟨u, e', hx⟩ := z15 hv; injection e' with e' _; subst e'
    split at h
    · rename_i ht
      simp only [zb, zv, zi, Bool.and_eq_true, Nat.beq_eq] at h; obtain ⟨⟨hu, hw⟩, l, hq, b, hb, h⟩ := h; subst hw; exact zx (zia hT hI hx ht hu hq hb h) hn
    · cases h
  · rename_i s t xa x
    split at h
    · rename_i e b ht
      simp only [zb, Bool.and_eq_true] at h; obtain ⟨⟨hu, hk⟩, h⟩ := h; simp only [Op.operands, List.map_cons, List.map_nil] at hv; obtain ⟨u, e', hx⟩ := z15 hv; injection e' with e' _; subst e'; exact zx (zl3 hT hI hx hu hk h) hn
    · simp only [Op.operands, List.map_cons, List.map_nil] at hv
      obtain ⟨u, e', hx⟩ := z15 hv; injection e' with e' _; subst e'
      obtain ⟨x', v', g1, g2, g3⟩ := z86 (P := P) (W := (· = w)) hT (by rintro w' rfl; exact hI.known) hx h
      exact zx ⟨E, x', v', objs, cl, w, g1, E3.le.refl E, g2, hI, .inl (by simp [execOp, g3 w rfl])⟩ hn
  · rename_i fo args ats fv vs'
    split at h
    · rename_i f caps
      simp only [zb, Bool.and_eq_true] at h; obtain ⟨⟨hfn, hcf⟩, h⟩ := h; simp only [Op.operands, Call.operands, Array.toList_append, List.map_append, List.map_cons, List.map_nil, List.cons_append, List.nil_append] at hv; simp only [RepT] at hv; obtain ⟨u, r, e, hx, hr⟩ := hv; injection e with e1 e2; subst e2; simp only [Rep] at hx; obtain ⟨cs, hx, _, hcap⟩ := hx; rw [hx] at e1; refine zl7 hF hfn (o := ⟨dst, .call { callee := .value fo, args := args, argTypes := ats }, ty, pos, after, guard⟩) rfl e1 ?_ hn
      split at h
      · rename_i s hs
        exact zp9 (hF.2 f s hs) hI hr hcap h
      cases hbc : vs'.any isBc with
      | true =>
        rw [hbc] at h; simp only [cond_true] at h
        split at h
        · rename_i x g o
          simp only [zi, zv, z50, z1f, zb, Bool.and_eq_true, Bool.not_eq_true', Nat.beq_eq] at h; obtain ⟨u, hu, l, hq, e, he, hef, ⟨⟨⟨q1, q2⟩, q3⟩, q4⟩, h⟩ := h; exact zl6 (T := T) hI hr hcap hcf hu hq he hef q1 q3 q4 h
        · cases h
      | false =>
      rw [hbc] at h; simp only [cond_false] at h
      cases hb : (vs'.any holdsRef || (T.res f).any Sh.owned || (T.ash f).any Sh.owned) with
      | true =>
        rw [hb] at h; exact znf hI hr hcap hcf h
      | false =>
        rw [hb] at h; simp only [cond_false, zb, Bool.and_eq_true, Nat.beq_eq] at h; exact zl5 hI hr hcap hcf h.1.1 h.1.2 h.2
    · cases h
  · exact zx (pure h) hn
end V
namespace V
variable {P : Program} {L : LoopM} {T : Tab} {F : Fr} {E : E3} {objs : Os} {cl : Cl} {w : World}
theorem zlr {v : Value} {x : AV} (h : cv1 v = some x) : Rep E x v ∧ x.one = true ∧ v.oneCell' = true := by
  unfold cv1 at h
  split at h
  · injection h with h; subst h; exact ⟨z1p, rfl, rfl⟩
  · injection h with h; subst h; exact ⟨z1g, rfl, rfl⟩
  · rename_i s
    cases hb : Nat.ble s.data.toList.length 9223372036854775807 with
    | true =>
      rw [hb] at h; simp only [cond_true, Option.some.injEq] at h; subst h; refine ⟨?_, rfl, rfl⟩; simp only [Rep]
      exact ⟨trivial, by simpa [maxL] using hb⟩
    | false => rw [hb] at h; cases h
  · injection h with h; subst h; exact ⟨by simp [Rep], rfl, rfl⟩
  · injection h with h; subst h
    refine ⟨?_, rfl, rfl⟩; simp only [Rep]
    exact ⟨none, 0, 0, rfl, rfl, Nat.le_refl _, Nat.zero_le _, fun h => absurd rfl h, fun _ => ⟨rfl, rfl, trivial⟩, by simp⟩
  · cases h
theorem zfa : ∀ {l : List Value} {r : List AV}, cvL l = some r → RepL E r l
  | [], r, h => by simp only [cvL, Option.some.injEq] at h; subst h; simp [RepL]
  | v :: l, r, h => by
    simp only [cvL] at h
    split at h
    · rename_i x r' h1 h2
      injection h with h; subst h; obtain ⟨g1, g2, g3⟩ := zlr (E := E) h1; simp only [RepL]; exact ⟨v, l, rfl, g2, g3, g1, zfa h2⟩
    · cases h
theorem zxu {v : Value} {x : AV} (h : cv v = some x) : Rep E x v := by
  unfold cv at h
  split at h
  · rename_i cs
    cases hc : cvL cs.toList with
    | none => rw [hc] at h; cases h
    | some r =>
      rw [hc] at h; simp only [Option.map_some, Option.some.injEq] at h; subst h; simp only [Rep]
      exact ⟨cs.toList, by simp, zfa hc⟩
  · exact (zlr h).1
def EnvOK (E : E3) (env : Ev) (a : Act) : Prop := ∀ t x, env t = some x → t < a.tmps.size ∧ Rep E x (a.tmps.getD t undef)
theorem EnvOK.mono {E E' : E3} {env : Ev} {a : Act} (h : EnvOK E env a) (hle : E.le E') : EnvOK E' env a := fun t x hx => ⟨(h t x hx).1, (h t x hx).2.mono hle⟩
theorem zls {env : Ev} {a : Act} (h : EnvOK E env a) {x : Operand} {v : AV} (hx : opv env x = some v) : Rep E v (a.eval x) := by
  cases x with
  | tmp t => exact (h t v hx).2
  | const c => exact zxu hx
  | global g => cases hx
  | func f =>
    simp only [opv, Option.some.injEq] at hx; subst hx; simp only [Rep]
    exact ⟨[], rfl, rfl, by simp [RepL]⟩
theorem z8d {env : Ev} {a : Act} (h : EnvOK E env a) : ∀ {l : List Operand} {vs : List AV}, opvs env l = some vs → RepT E vs (l.map a.eval)
  | [], vs, hx => by simp only [opvs, Option.some.injEq] at hx; subst hx; simp [RepT]
  | x :: l, vs, hx => by
    simp only [opvs] at hx
    split at hx
    · rename_i v r h1 h2
      injection hx with hx; subst hx; simp only [RepT, List.map_cons]; exact ⟨_, _, rfl, zls h h1, z8d h h2⟩
    · cases hx
theorem z53 (a : Act) (d : Option Tmp) (v : Value) : (a.put d v).tmps.size = a.tmps.size := by cases d <;> simp [Act.put]
theorem z54 (a : Act) (d : Option Tmp) (v : Value) : (a.put d v).defers = a.defers := by cases d <;> rfl
theorem z6w (a : Act) (d : Option Tmp) (v : Value) : ∀ t, d ≠ some t → (a.put d v).tmps.getD t undef = a.tmps.getD t undef := by
  intro t ht
  cases d with
  | none => rfl
  | some d =>
    have hdt : d ≠ t := fun e => ht (by rw [e])
    simp [Act.put, Array.getD_eq_getD_getElem?, Array.getElem?_setIfInBounds_ne hdt]
theorem EnvOK.put {env : Ev} {a : Act} (h : EnvOK E env a) {d : Option Tmp} (hd : ∀ t, d = some t → t < a.tmps.size) {x : AV} {v : Value} (hx : Rep E x v) : EnvOK E (setE env d x) (a.put d v) := by
  cases d with
  | none => exact h
  | some d =>
    intro t y hy; have hlt := hd d rfl; simp only [setE] at hy
    by_cases hdt : d = t
    · subst hdt
      rw [zk] at hy; injection hy with hy; subst hy
      refine ⟨by simpa [Act.put] using hlt, ?_⟩
      simpa [Act.put, hlt] using hx
    · rw [zf _ _ hdt] at hy
      obtain ⟨h1, h2⟩ := h t y hy
      refine ⟨by simpa [Act.put] using h1, ?_⟩
      have : (a.tmps.setIfInBounds d v).getD t undef = a.tmps.getD t undef := by
        simp [Array.getD_eq_getD_getElem?, Array.getElem?_setIfInBounds_ne hdt]
      simp only [Act.put]; rw [this]; exact h2
theorem z7e (hT : TabOK P T) (hF : FnOK P T) {ops : Array Oper} {i : Nat} {o : Oper} (hi : ops[i]? = some o) (hI : WI F E objs cl w) {env : Ev} {a : Act} (hE : EnvOK E env a) (hdf : a.defers = []) (hd : ∀ t, o.dst = some t → t < a.tmps.size)
    {k : Ev → Os → Cl → Prop} (h : stepV (PA (SM P L)) T ops o env objs cl k) {K : Act → World → Prop} {Q : Exit → Act → World → Prop}
    (hn : ∀ E' env' objs' cl' a' w', k env' objs' cl' → WI F E' objs' cl' w' → EnvOK E' env' a' → a'.defers = [] → a'.tmps.size = a.tmps.size → E.le E' → (∀ t, o.dst ≠ some t → a'.tmps.getD t undef = a.tmps.getD t undef) → K a' w') : wpOp P ops Q i K a w := by
  have run : ∀ env, EnvOK E env a → orFail (PA (SM P L)) (opvs env o.op.operands.toList) (fun vs => opV (PA (SM P L)) T (o.dst.getD noDst) o.op vs objs cl fun v objs cl => bif T.fz (o.dst.getD noDst) then stillR (PA (SM P L)) (rowsOf v) v cl fun v cl => k (setE env o.dst v) objs cl else k (setE env o.dst v) objs cl) → o.wp P a w K Q := by
    intro env hE h; simp only [zi] at h; obtain ⟨vs, hv, h⟩ := h; refine zpa hT hF hI (z8d hE hv) h ?_; intro E' x v objs' cl' w' hk hle hr hW
    cases hfz : T.fz (o.dst.getD noDst) with
    | true =>
      rw [hfz] at hk; simp only [cond_true] at hk; obtain ⟨E'', x', cl'', g1, g2, g3, g4⟩ := z9j hW hr hk
      exact hn E'' _ objs' cl'' _ w' g1 g4 ((hE.mono (hle.trans g2)).put hd g3) (by rw [z54]; exact hdf) (z53 _ _ _) (hle.trans g2) (z6w _ _ _)
    | false =>
      rw [hfz] at hk
      exact hn E' _ objs' cl' _ w' hk hW ((hE.mono hle).put hd hr) (by rw [z54]; exact hdf) (z53 _ _ _) hle (z6w _ _ _)
  have skip : ∀ env, EnvOK E env a → k (setE env o.dst (.tup [])) objs cl → K (a.put o.dst undef) w := by
    intro env hE h
    exact hn E _ objs cl _ w h hI (hE.put hd (by simp [Rep, RepT, undef])) (by rw [z54]; exact hdf) (z53 _ _ _) (E3.le.refl E) (z6w _ _ _)
  unfold wpOp; simp only [hi]; unfold stepV at h
  cases hg : o.guard with
  | none =>
    simp only [hg] at h; simp only [Region.wanted, hg, if_true]; exact .inl (run env hE h)
  | some gw =>
    obtain ⟨j, want⟩ := gw; simp only [hg, zi] at h; obtain ⟨t, ht, y, hy, h⟩ := h
    cases hsk : isSkip y with
    | true =>
      have hy2 := z96 hsk; subst hy2; obtain ⟨h1, h2⟩ := hE t _ hy
      have h3 : a.tmps[t]? = some undef := by
        simp only [Rep, RepT] at h2; obtain ⟨vs, e1, e2⟩ := h2; subst e2
        rw [show (Value.tuple [].toArray : Value) = undef from rfl] at e1
        rw [← e1]; simp [h1]
      have hyield : yielded ops a.tmps j = none := by
        unfold yielded
        have : (ops[j]?).bind (·.dst) = some t := by
          cases ho : ops[j]? with
          | none => rw [ho] at ht; cases ht
          | some g => rw [ho] at ht; exact ht
        rw [this]; simp only [Option.bind_some, h3]; rfl
      simp only [Region.wanted, hg, hyield]; rw [hsk] at h
      exact (if_neg (by simp) : (if ((none : Option Bool) == some want) = true then _ else _) = _) ▸ skip _ hE h
    | false =>
    rw [hsk] at h; simp only [cond_false, z3u] at h; obtain ⟨b, rfl, h⟩ := h; obtain ⟨h1, h2⟩ := hE t _ hy; simp only [Rep] at h2
    have hyield : yielded ops a.tmps j = some b := by
      unfold yielded
      have : (ops[j]?).bind (·.dst) = some t := by
        cases ho : ops[j]? with
        | none => rw [ho] at ht; cases ht
        | some g => rw [ho] at ht; exact ht
      rw [this]
      have h3 : a.tmps[t]? = some (.bool b) := by
        rw [← h2]; simp [h1]
      simp only [Option.bind_some, h3]
    have hE' : EnvOK E (upd env t (.bool b)) a := by
      intro t' x' hx'
      by_cases htt : t = t'
      · subst htt
        rw [zk] at hx'; injection hx' with hx'; subst hx'
        exact ⟨h1, by rw [h2]; exact z1g⟩
      · rw [zf _ _ htt] at hx'
        exact hE t' x' hx'
    simp only [Region.wanted, hg, hyield]
    cases b <;> cases want <;> simp only [cond_true, cond_false] at h
    · exact (if_pos rfl : (if (some false == some false) = true then _ else _) = _) ▸ .inl (run _ hE' (by simpa only [zi] using h))
    · simp only [show ((some false : Option Bool) == some true) = false from rfl, Bool.false_eq_true, if_false]
      exact skip _ hE' h
    · simp only [show ((some true : Option Bool) == some false) = false from rfl, Bool.false_eq_true, if_false]
      exact skip _ hE' h
    · exact (if_pos rfl : (if (some true == some true) = true then _ else _) = _) ▸ .inl (run _ hE' (by simpa only [zi] using h))
theorem EnvOK.fz {E' : E3} {env : Ev} {a : Act} (h : EnvOK E env a) (hle : E.le E') {q : Nm} {l : List AV} (hs : ∀ sz v, Rep E (.sq q sz) v → Rep E' (.lst .ro sz l) v) : EnvOK E' (fun t => (env t).map (fzW q l)) a := by
  intro t x hx; simp only [Option.map_eq_some_iff] at hx; obtain ⟨y, hy, rfl⟩ := hx; exact ⟨(h t y hy).1, zlo hle hs (h t y hy).2⟩
theorem z9k {M : Meaning} {a : Act} : ∀ {qs : List Nm} {E : E3} {env : Ev} {objs : Os} {cl : Cl} {k : Ev → Os → Cl → Prop}, WI F E objs cl w → EnvOK E env a → stillV (PA M) qs env objs cl k →
    ∃ E' env' objs' cl', k env' objs' cl' ∧ E.le E' ∧ WI F E' objs' cl' w ∧ EnvOK E' env' a
  | [], E, env, objs, cl, k, hI, hE, h => ⟨E, env, objs, cl, h, E3.le.refl E, hI, hE⟩
  | q :: qs, E, env, objs, cl, k, hI, hE, h => by
    simp only [stillV, zv, zb] at h; obtain ⟨l, hq, hf, h⟩ := h; obtain ⟨E', h1, h2, h3, h4, h5⟩ := hI.row_still hq hf
    have h5' : ∀ sz v, Rep E' (.sq q sz) v → Rep E' (.lst .ro sz l) v := fun sz v hv => h5 sz v (by simp only [Rep] at hv ⊢; rw [← h3]; exact hv)
    obtain ⟨E'', env', objs', cl', g1, g2, g3, g4⟩ := z9k (h4.fz_objs h5') (hE.fz h1 h5) h; exact ⟨E'', env', objs', cl', g1, h1.trans g2, g3, g4⟩
theorem z6h {M : Meaning} {a : Act} : ∀ {ts : List Nat} {E : E3} {env : Ev} {objs : Os} {cl : Cl} {k : Ev → Os → Cl → Prop}, WI F E objs cl w → EnvOK E env a → stillT (PA M) ts env objs cl k →
    ∃ E' env' objs' cl', k env' objs' cl' ∧ E.le E' ∧ WI F E' objs' cl' w ∧ EnvOK E' env' a
  | [], E, env, objs, cl, k, hI, hE, h => ⟨E, env, objs, cl, h, E3.le.refl E, hI, hE⟩
  | t :: ts, E, env, objs, cl, k, hI, hE, h => by
    simp only [stillT] at h; obtain ⟨E', env', objs', cl', g1, g2, g3, g4⟩ := z9k hI hE h; obtain ⟨E'', env'', objs'', cl'', q1, q2, q3, q4⟩ := z6h g3 g4 g1; exact ⟨E'', env'', objs'', cl'', q1, g2.trans q2, q3, q4⟩
end V
namespace V
variable {P : Program} {L : LoopM} {T : Tab} {F : Fr} {E : E3} {objs : Os} {cl : Cl} {w : World}
theorem zpb {α : Type} {A : Alg α} {d : Nat} {op : Op} {vs : List AV} {k : AV → Os → Cl → α} (hs : isStill T op vs = true) : opV A T d op vs objs cl k = opV A T d op vs objs cl (fun v _ _ => k v objs cl) := by
  unfold opV
  split
  all_goals first
    | rfl
    | (exfalso; simp [isStill] at hs; done)
    | skip
  rename_i fo args ats fv vs'
  split
  · rename_i f caps
    simp only [isStill, Bool.and_eq_true, Bool.not_eq_true'] at hs; obtain ⟨⟨h1, h2⟩, h3⟩ := hs
    have h1' : T.spc f = none := by cases hq : T.spc f with
      | none => rfl
      | some s => rw [hq] at h1; cases h1
    simp only [h1', h2, h3, cond_false]
  · rfl
theorem z6x {env : Ev} {t : Nat} {y : AV} (h : env t = some y) : upd env t y = env := by
  funext j
  by_cases hj : t = j
  · subst hj; rw [zk, h]
  · rw [zf _ _ hj]
theorem zl8 {M : Meaning} {ops : Array Oper} {o : Oper} {env : Ev} {k : Ev → Os → Cl → Prop} (hs : (!T.fz (o.dst.getD noDst) && match opvs env o.op.operands.toList with | some vs => isStill T o.op vs | none => o.guard.isSome) = true)
    (h : stepV (PA M) T ops o env objs cl k) : stepV (PA M) T ops o env objs cl (fun env' o' c' => o' = objs ∧ c' = cl ∧ (∃ v, env' = setE env o.dst v) ∧ k env' objs cl) := by
  simp only [Bool.and_eq_true, Bool.not_eq_true'] at hs; obtain ⟨hfz, hs⟩ := hs
  have run : orFail (PA M) (opvs env o.op.operands.toList) (fun vs => opV (PA M) T (o.dst.getD noDst) o.op vs objs cl fun v objs cl => k (setE env o.dst v) objs cl) → orFail (PA M) (opvs env o.op.operands.toList) (fun vs => opV (PA M) T (o.dst.getD noDst) o.op vs objs cl fun v o' c' => o' = objs ∧ c' = cl ∧ (∃ v', setE env o.dst v = setE env o.dst v') ∧ k (setE env o.dst v) objs cl) := by
    intro h; simp only [zi] at h ⊢; obtain ⟨vs, hv, h⟩ := h; rw [hv] at hs; refine ⟨vs, hv, ?_⟩; rw [zpb hs] at h ⊢
    have e : (fun (v : AV) (_ : Os) (_ : Cl) => objs = objs ∧ cl = cl ∧ (∃ v', setE env o.dst v = setE env o.dst v') ∧ k (setE env o.dst v) objs cl) = (fun v _ _ => k (setE env o.dst v) objs cl) := by
      funext v _ _; exact propext ⟨fun h => h.2.2.2, fun h => ⟨rfl, rfl, ⟨v, rfl⟩, h⟩⟩
    rw [e]; exact h
  unfold stepV at h ⊢; simp only [hfz, cond_false] at h ⊢
  cases hg : o.guard with
  | none => simp only [hg] at h ⊢; exact run h
  | some gw =>
    obtain ⟨j, want⟩ := gw; simp only [hg, zi] at h ⊢; obtain ⟨t, ht, y, hy, h⟩ := h; refine ⟨t, ht, _, hy, ?_⟩
    cases hsk : isSkip y with
    | true =>
      rw [hsk] at h; exact ⟨trivial, trivial, ⟨_, rfl⟩, h⟩
    | false =>
    rw [hsk] at h; simp only [cond_false, z3u] at h ⊢; obtain ⟨b, rfl, h⟩ := h; refine ⟨b, rfl, ?_⟩; have e : upd env t (.bool b) = env := z6x hy
    cases b <;> cases want <;> simp only [cond_true, cond_false, e] at h ⊢
    · simpa only [zi] using run (by simpa only [zi] using h)
    · exact ⟨trivial, trivial, ⟨_, rfl⟩, h⟩
    · exact ⟨trivial, trivial, ⟨_, rfl⟩, h⟩
    · simpa only [zi] using run (by simpa only [zi] using h)
def dstIn (n : Nat) (ops : Array Oper) : Bool := ops.all fun o => match o.dst with | some t => Nat.blt t n | none => true
theorem z2x {n : Nat} {ops : Array Oper} (h : dstIn n ops = true) {i : Nat} {o : Oper} (hi : ops[i]? = some o) {t : Nat} (ht : o.dst = some t) : t < n := by
  have := Array.all_eq_true_iff_forall_mem.1 h o (Array.mem_of_getElem? hi); rw [ht] at this
  simpa using this
theorem zbn {ops : Array Oper} {i : Nat} {o : Oper} (hi : ops[i]? = some o) {rest : List Nat} {Q : Exit → Act → World → Prop} {a : Act} (h : wpOp P ops Q i (wpOps P ops Q rest) a w) : wpOps P ops Q (i :: rest) a w := by
  unfold wpOp at h; simp only [wpOps, hi] at h ⊢; exact h
theorem z9l (hT : TabOK P T) (hF : FnOK P T) {ops : Array Oper} {Q : Exit → Act → World → Prop} {n : Nat} (hd : dstIn n ops = true) :
    ∀ (l : List Oper) (i : Nat) {E : E3} {objs : Os} {cl : Cl} {w : World} {env : Ev} {a : Act} {k : Ev → Os → Cl → Prop}, (∀ j, l[j]? = ops[i + j]?) → WI F E objs cl w → EnvOK E env a → a.defers = [] → a.tmps.size = n → stepsV (PA (SM P L)) T ops l env objs cl k →
      (∀ E' env' objs' cl' a' w', k env' objs' cl' → WI F E' objs' cl' w' → EnvOK E' env' a' → a'.defers = [] → a'.tmps.size = n → Q .normal a' w') → wpOps P ops Q (List.range' i l.length) a w
  | [], i, E, objs, cl, w, env, a, k, hl, hI, hE, hdf, hn, h, hQ => by
    simpa [wpOps] using hQ E env objs cl a w h hI hE hdf hn
  | o :: l, i, E, objs, cl, w, env, a, k, hl, hI, hE, hdf, hn, h, hQ => by
    have hi : ops[i]? = some o := by simpa using (hl 0).symm
    rw [List.length_cons, List.range'_succ]; refine zbn hi (z7e hT hF hi hI hE hdf (fun t ht => hn ▸ z2x hd hi ht) h ?_); intro E' env' objs' cl' a' w' hk hW hE' hdf' hn' _ _
    exact z9l hT hF hd l (i + 1) (fun j => by have := hl (j + 1); simpa [Nat.add_assoc, Nat.add_comm 1 j] using this) hW hE' hdf' (hn'.trans hn) hk hQ
theorem zlt {env : Ev} {d : Option Nat} {v : AV} {t : Nat} (h : d ≠ some t) : setE env d v t = env t := by
  cases d with
  | none => rfl
  | some d => exact zf _ _ (fun e => h (by rw [e]))
theorem z9m : ∀ {l : List Oper} {env : Ev} {t : Nat} {x : AV}, clrE l env t = some x → x = .undef ∧ (∃ o, o ∈ l ∧ o.dst = some t) ∨ (env t = some x ∧ ∀ o, o ∈ l → o.dst ≠ some t)
  | [], env, t, x, h => .inr ⟨h, by simp⟩
  | o :: l, env, t, x, h => by
    simp only [clrE] at h
    rcases z9m h with ⟨h1, o', h2, h3⟩ | ⟨h1, h2⟩
    · exact .inl ⟨h1, o', List.mem_cons_of_mem _ h2, h3⟩
    · by_cases ho : o.dst = some t
      · left
        rw [ho] at h1; simp only [setE, zk, Option.some.injEq] at h1; exact ⟨h1.symm, o, List.mem_cons_self .., ho⟩
      · right
        rw [zlt ho] at h1; refine ⟨h1, ?_⟩; intro o' ho'
        rcases List.mem_cons.1 ho' with rfl | h'
        · exact ho
        · exact h2 o' h'
theorem z9n (hT : TabOK P T) (hF : FnOK P T) {ops : Array Oper} {Q : Exit → Act → World → Prop} {n : Nat} (hd : dstIn n ops = true) {objs : Os} {cl : Cl} :
    ∀ (l : List Oper) (i : Nat) {E : E3} {w : World} {env : Ev} {a : Act} {k : Ev → Prop}, (∀ j, l[j]? = ops[i + j]?) → WI F E objs cl w → EnvOK E env a → a.defers = [] → a.tmps.size = n → stepsJ (PA (SM P L)) T ops l env objs cl k →
      (∀ E' env' a' w', k env' → WI F E' objs cl w' → EnvOK E' env' a' → a'.defers = [] → a'.tmps.size = n → E.le E' → (∀ t, (∀ o, o ∈ l → o.dst ≠ some t) → a'.tmps.getD t undef = a.tmps.getD t undef) → Q .normal a' w') → wpOps P ops Q (List.range' i l.length) a w
  | [], i, E, w, env, a, k, hl, hI, hE, hdf, hn, h, hQ => by
    have h1 := hQ E env a w h hI hE hdf hn (E3.le.refl E) (fun _ _ => rfl)
    simpa [wpOps] using h1
  | o :: l, i, E, w, env, a, k, hl, hI, hE, hdf, hn, h, hQ => by
    have hi : ops[i]? = some o := by simpa using (hl 0).symm
    rw [List.length_cons, List.range'_succ]; simp only [stepsJ, zb] at h; refine zbn hi (z7e hT hF hi hI hE hdf (fun t ht => hn ▸ z2x hd hi ht) (zl8 h.1 h.2) ?_); rintro E' env' objs' cl' a' w' ⟨rfl, rfl, _, hk⟩ hW hE' hdf' hn' hle hoth
    refine z9n hT hF hd l (i + 1) (fun j => by have := hl (j + 1); simpa [Nat.add_assoc, Nat.add_comm 1 j] using this) hW hE' hdf' (hn'.trans hn) hk ?_
    intro E2 env2 a2 w2 g1 g2 g3 g4 g5 g6 g7; refine hQ E2 env2 a2 w2 g1 g2 g3 g4 g5 (hle.trans g6) ?_; intro t ht; rw [g7 t fun o' h' => ht o' (List.mem_cons_of_mem _ h'), hoth t (ht o (List.mem_cons_self ..))]
theorem zii (hT : TabOK P T) (hF : FnOK P T) {id : Nat} {ops : Array Oper} {Q : Exit → Act → World → Prop} {a : Act} {env : Ev} {k : Ev → Os → Cl → Prop} {n : Nat} (hd : dstIn n ops = true) (hI : WI F E objs cl w) (hE : EnvOK E env a) (hdf : a.defers = []) (hn : a.tmps.size = n)
    (h : stepsV (PA (SM P L)) T ops ops.toList env objs cl k) (hQ : ∀ E' env' objs' cl' a' w', k env' objs' cl' → WI F E' objs' cl' w' → EnvOK E' env' a' → a'.defers = [] → a'.tmps.size = n → Q .normal a' w') : (Code.region id ops false).wp P Q a w := by
  refine wp_region ?_
  have := z9l hT hF hd ops.toList 0 (fun j => by simp) hI hE hdf hn h hQ
  simpa [List.range_eq_range'] using this
theorem zl9 (hT : TabOK P T) (hF : FnOK P T) {id : Nat} {ops : Array Oper} {t : Nat} {Q : Exit → Act → World → Prop} {a : Act} {env : Ev} {k : Ev → Prop} {n : Nat} (hd : dstIn n ops = true) (hI : WI F E objs cl w) (hE : EnvOK E env a) (hdf : a.defers = []) (hn : a.tmps.size = n)
    (h : joinV (PA (SM P L)) T ops t env objs cl k) (hQ : ∀ E' env' a' w', k env' → WI F E' objs cl w' → EnvOK E' env' a' → a'.defers = [] → a'.tmps.size = n → Q .normal a' w') : (Code.region id ops false).wp P Q a w := by
  refine wp_region ?_; obtain ⟨b, hr, hk⟩ := h
  have := z9n (objs := objs) (cl := cl) hT hF hd ops.toList 0 (Q := Q) (fun j => by simp) hI hE hdf hn hr ?_
  · simpa [List.range_eq_range'] using this
  · intro E' env' a' w' hb hW hE' hdf' hn' hle hoth
    simp only [zi, z3u] at hb; obtain ⟨y, hy, b', rfl, rfl⟩ := hb; refine hQ E' _ a' w' hk hW ?_ hdf' hn'; intro t' x hx
    by_cases htt : t = t'
    · subst htt
      rw [zk] at hx; injection hx with hx; subst hx; exact hE' t _ hy
    · rw [zf _ _ htt] at hx
      rcases z9m hx with ⟨rfl, o, ho, hod⟩ | ⟨h1, h2⟩
      · obtain ⟨i, hi⟩ := List.getElem?_of_mem ho
        refine ⟨hn' ▸ z2x hd (i := i) (by simpa using hi) hod, by simp [Rep]⟩
      · obtain ⟨g1, g2⟩ := hE t' x h1
        refine ⟨by omega, ?_⟩
        rw [hoth t' h2]; exact g2.mono hle
end V
namespace V
variable {P : Program} {L : LoopM} {T : Tab} {F : Fr} {E : E3} {objs : Os} {cl : Cl} {w : World}
def frzO (objs : Os) : Os := fun o => match objs o with | some (.frz c) => some (.frz c) | _ => none
theorem zs7 (hI : WI F E objs cl w) : ObjK E (frzO objs) (Known E) := by
  intro o cs h
  have h2 : objs o = some (.frz cs) := by
    rcases h with h | h
    · unfold frzO at h; split at h <;> cases h
    · unfold frzO at h; split at h
      · rename_i c hc; cases h; exact hc
      · cases h
  obtain ⟨b, vs, g1, g2, g3, g4⟩ := hI.frz o cs h2; refine ⟨b, vs, g1, g3, fun w' hw j v hj => hw.agree b j v ?_⟩
  have hlt : j < vs.length := by
    rcases Nat.lt_or_ge j vs.length with h | h
    · exact h
    · rw [List.getElem?_eq_none h] at hj; cases hj
  rw [g4 j hlt, hj]
theorem zs8 {M : Meaning} {t : Nat} {a : Operand} {x : AV} {k : AV → Prop} (hp : isP T (.load t a) [x] objs = true) (h : pureV (PA M) T (.load t a) [x] objs k) : pureV (PA M) T (.load t a) [x] (frzO objs) k := by
  cases x with
  | ref oo ii =>
    have hp2 : (match objs oo with | some (.frz _) => true | _ => false) = true := hp
    unfold pureV at h ⊢; dsimp only at h ⊢
    cases ho : objs oo with
    | none => rw [ho] at hp2; cases hp2
    | some y =>
      cases y with
      | live c => rw [ho] at hp2; cases hp2
      | dead => rw [ho] at hp2; cases hp2
      | frz c =>
        have e : frzO objs oo = some (.frz c) := by simp [frzO, ho]
        rw [e]; rw [ho] at h; exact h
  | _ => exact h
theorem zs9 {M : Meaning} {ρ : Operand → Value} (hT : TabOK P T) {d : Nat} {o : Oper} {vs : List AV} {k : AV → Os → Cl → Prop} (hO : ObjK E (frzO objs) (Known E)) (hp : isP T o.op vs objs = true) (hv : RepT E vs (o.op.operands.toList.map ρ))
    (h : opV (PA M) T d o.op vs objs cl k) : ∃ x v, k x objs cl ∧ Rep E x v ∧ ∀ w, Known E w → (execOp ρ o).run P w = .ok (.value v) w := by
  obtain ⟨dst, op, ty, pos, after, guard⟩ := o; dsimp only at hp hv h
  have fin : pureV (PA M) T op vs (frzO objs) (fun v => k v objs cl) → ∃ x v, k x objs cl ∧ Rep E x v ∧ ∀ w, Known E w → (execOp ρ ⟨dst, op, ty, pos, after, guard⟩).run P w = .ok (.value v) w := fun h =>
    z7b (W := Known E) (o := ⟨dst, op, ty, pos, after, guard⟩) hT (fun _ h => h) hO hv h
  unfold opV at h
  split at h
  all_goals first
    | (exfalso; simp [isP] at hp; done)
    | skip
  · rename_i s t xa x
    split at h
    · rename_i e b ht
      simp [isP, ht] at hp
    · simp only [Op.operands, List.map_cons, List.map_nil] at hv
      obtain ⟨u, e', hx⟩ := z15 hv; injection e' with e' _; subst e'; obtain ⟨x', v', g1, g2, g3⟩ := z86 (P := P) (W := Known E) hT (fun _ h => h) hx h
      exact ⟨x', v', g1, g2, fun w hw => by simp [execOp, g3 w hw]⟩
  · refine fin ?_
    unfold pureV at h ⊢
    split at h
    all_goals first
      | exact h
      | skip
    exact zs8 (M := M) hp h
theorem zxv (hT : TabOK P T) {ops : Array Oper} {o : Oper} {env : Ev} {a : Act} (hO : ObjK E (frzO objs) (Known E)) (hp : (match opvs env o.op.operands.toList with | some vs => !T.fz (o.dst.getD noDst) && isP T o.op vs objs | none => false) = true) (hE : EnvOK E env a) (hd : ∀ t, o.dst = some t → t < a.tmps.size) {M : Meaning}
    {k : Ev → Os → Cl → Prop} (h : stepV (PA M) T ops o env objs cl k) : ∃ v env', YieldsIf P ops (Known E) o v a ∧ EnvOK E env' (a.put o.dst v) ∧ k env' objs cl := by
  have run : orFail (PA M) (opvs env o.op.operands.toList) (fun vs => opV (PA M) T (o.dst.getD noDst) o.op vs objs cl fun v objs cl => bif T.fz (o.dst.getD noDst) then stillR (PA M) (rowsOf v) v cl fun v cl => k (setE env o.dst v) objs cl else k (setE env o.dst v) objs cl) → Region.wanted o (yielded ops a.tmps) = true → ∃ v env', YieldsIf P ops (Known E) o v a ∧ EnvOK E env' (a.put o.dst v) ∧ k env' objs cl := by
    intro h hw; simp only [zi] at h; obtain ⟨vs, hv, h⟩ := h; rw [hv] at hp; simp only [Bool.and_eq_true, Bool.not_eq_true'] at hp; simp only [hp.1, cond_false] at h; obtain ⟨x, v, g1, g2, g3⟩ := zs9 hT hO hp.2 (z8d hE hv) h; exact ⟨v, _, .inl ⟨hw, g3⟩, hE.put hd g2, g1⟩
  unfold stepV at h
  cases hg : o.guard with
  | none =>
    simp only [hg] at h
    exact run h (by simp [Region.wanted, hg])
  | some gw =>
    obtain ⟨j, want⟩ := gw; simp only [hg, zi] at h; obtain ⟨t, ht, y, hy, h⟩ := h
    have skip : ∀ env, EnvOK E env a → Region.wanted o (yielded ops a.tmps) = false → k (setE env o.dst (.tup [])) objs cl → ∃ v env', YieldsIf P ops (Known E) o v a ∧ EnvOK E env' (a.put o.dst v) ∧ k env' objs cl :=
      fun env hE hw h => ⟨undef, _, .inr ⟨hw, rfl⟩, hE.put hd (x := .tup []) (by simp [Rep, RepT, undef]), h⟩
    cases hsk : isSkip y with
    | true =>
      have hy2 := z96 hsk; subst hy2; obtain ⟨h1, h2⟩ := hE t _ hy
      have h3 : a.tmps[t]? = some undef := by
        simp only [Rep, RepT] at h2; obtain ⟨vs, e1, e2⟩ := h2; subst e2
        rw [show (Value.tuple [].toArray : Value) = undef from rfl] at e1
        rw [← e1]; simp [h1]
      have hyield : yielded ops a.tmps j = none := by
        unfold yielded
        have : (ops[j]?).bind (·.dst) = some t := by
          cases ho : ops[j]? with
          | none => rw [ho] at ht; cases ht
          | some g => rw [ho] at ht; exact ht
        rw [this]; simp only [Option.bind_some, h3]; rfl
      rw [hsk] at h
      exact skip _ hE (by simp [Region.wanted, hg, hyield]) h
    | false =>
    rw [hsk] at h; simp only [cond_false, z3u] at h; obtain ⟨b, rfl, h⟩ := h; obtain ⟨h1, h2⟩ := hE t _ hy; simp only [Rep] at h2
    have hyield : yielded ops a.tmps j = some b := by
      unfold yielded
      have : (ops[j]?).bind (·.dst) = some t := by
        cases ho : ops[j]? with
        | none => rw [ho] at ht; cases ht
        | some g => rw [ho] at ht; exact ht
      rw [this]
      have h3 : a.tmps[t]? = some (.bool b) := by
        rw [← h2]; simp [h1]
      simp only [Option.bind_some, h3]
    have e : upd env t (.bool b) = env := z6x hy
    cases b <;> cases want <;> simp only [cond_true, cond_false, e] at h
    · exact run (by simpa only [zi] using h) (by simp [Region.wanted, hg, hyield])
    · exact skip _ hE (by simp [Region.wanted, hg, hyield]) h
    · exact skip _ hE (by simp [Region.wanted, hg, hyield]) h
    · exact run (by simpa only [zi] using h) (by simp [Region.wanted, hg, hyield])
theorem zdr {md : Region.Mode} {ops : Array Oper} {Q : Exit → Act → World → Prop} {S S' : World → Prop} (hs : ∀ w, S w → S' w) : ∀ (fuel : Nat) (listed : Array Bool) (a : Act) (w : World), wpAnyH P md ops Q S fuel listed a w → wpAnyH P md ops Q S' fuel listed a w
  | 0, _, _, _, h => h
  | fuel + 1, _, _, _, h => ⟨h.1, fun i hi => wpOp_mono (fun a' w' h' => ⟨hs _ h'.1, zdr hs fuel _ a' w' h'.2⟩) (h.2 i hi)⟩
theorem zgb {M : Meaning} {f : Nat → Prop} : ∀ {l : List Nat}, allOf (PA M) f l → ∀ i, i ∈ l → f i
  | [], _, i, hi => by cases hi
  | [j], h, i, hi => by simp at hi; subst hi; exact h
  | j :: j' :: l, h, i, hi => by
    simp only [allOf, zv2] at h
    rcases List.mem_cons.1 hi with rfl | hi
    · exact h.1
    · exact zgb h.2 i hi
theorem z7f (hT : TabOK P T) (hF : FnOK P T) {ops : Array Oper} {Q : Exit → Act → World → Prop} {n : Nat} (hd : dstIn n ops = true) (hs : Region.noSelect ops = true) (hQ : ∀ c a w, ¬ Q (.panic c) a w) {k : Ev → Os → Cl → Prop}
    (hk : ∀ E' env' objs' cl' a' w', k env' objs' cl' → WI F E' objs' cl' w' → EnvOK E' env' a' → a'.defers = [] → a'.tmps.size = n → Q .normal a' w') :
    ∀ (fuel : Nat) (listed : Array Bool) {E : E3} {objs : Os} {cl : Cl} {w : World} {env : Ev} {a : Act}, WI F E objs cl w → EnvOK E env a → a.defers = [] → a.tmps.size = n → drawV (PA (SM P L)) T ops fuel listed env objs cl k → wpAnyH P .any ops Q (Known E) fuel listed a w
  | 0, listed, E, objs, cl, w, env, a, hI, hE, hdf, hn, h => by
    simp only [drawV, zb, List.isEmpty_iff] at h; exact ⟨h.1, hk E env objs cl a w h.2 hI hE hdf hn⟩
  | fuel + 1, listed, E, objs, cl, w, env, a, hI, hE, hdf, hn, h => by
    simp only [drawV] at h
    split at h
    · rename_i hr
      exact wpAnyH_done hr (hk E env objs cl a w h hI hE hdf hn) _
    · rename_i r rs hr
      split at h
      · rename_i i hfi
        simp only [zb, zi] at h; obtain ⟨hfree, o, ho, h⟩ := h; have hp := List.find?_some hfi; have hmem := List.mem_of_find?_eq_some hfi; unfold isPnow at hp; simp only [ho] at hp; obtain ⟨v, env', g1, g2, g3⟩ := zxv (P := P) hT (zs7 hI) hp hE (fun t ht => hn ▸ z2x hd ho ht) h
        refine wpAnyH_take ho hs hfree (by rw [hr]; simpa using hmem) (fun c a w h => absurd h (hQ _ _ _)) g1 hI.known ?_
        exact z7f hT hF hd hs hQ hk fuel _ hI g2 (by rw [z54]; exact hdf) (by rw [z53]; exact hn) g3
      · refine wpAnyH_all hr (by simp) fun i hi => ?_
        have h := zgb h i hi; simp only [zi] at h; obtain ⟨o, ho, h⟩ := h; refine z7e hT hF ho hI hE hdf (fun t ht => hn ▸ z2x hd ho ht) h ?_; intro E' env' objs' cl' a' w' g1 g2 g3 g4 g5 g6 _; have : ∀ w, Known E' w → Known E w := fun w hw => ⟨fun b i v hv => hw.agree b i v (g6.S b i v hv)⟩; exact ⟨this _ g2.known, zdr this _ _ _ _ (z7f hT hF hd hs hQ hk fuel _ g2 g3 g4 (g5.trans hn) g1)⟩
theorem zxw {M : Meaning} {ρ : Operand → Value} (hT : TabOK P T) {d : Nat} {o : Oper} {vs : List AV} {k : AV → Os → Cl → Prop} (hI : WI F E objs cl w) (hr : isRd o.op = true) (hv : RepT E vs (o.op.operands.toList.map ρ))
    (h : opV (PA M) T d o.op vs objs cl k) : ∃ x v, k x objs cl ∧ Rep E x v ∧ (execOp ρ o).run P w = .ok (.value v) w := by
  obtain ⟨dst, op, ty, pos, after, guard⟩ := o; dsimp only at hr hv h
  have fin : pureV (PA M) T op vs objs (fun v => k v objs cl) → ∃ x v, k x objs cl ∧ Rep E x v ∧ (execOp ρ ⟨dst, op, ty, pos, after, guard⟩).run P w = .ok (.value v) w := by
    intro h
    obtain ⟨x, v, h1, h2, h3⟩ := z7b (W := (· = w)) (o := ⟨dst, op, ty, pos, after, guard⟩) hT (by rintro w' rfl; exact hI.known) hI.objK hv h
    exact ⟨x, v, h1, h2, h3 w rfl⟩
  unfold opV at h
  split at h
  all_goals first
    | (exfalso; simp [isRd] at hr; done)
    | skip
  · rename_i t xa q wd i j
    simp only [Op.operands, List.map_cons, List.map_nil] at hv; obtain ⟨u, e, hx⟩ := z15 hv
    injection e with e _; subst e; simp only [zv, z50] at h; obtain ⟨l, hq, e, he, h⟩ := h; obtain ⟨x', v', g1, g2, g3⟩ := z7c (k := fun v objs cl => shape (PA M) (T.ty t).sh v fun v => k v objs cl) (dst := dst) (ty := ty) (pos := pos) (after := after) (gd := guard) hT hI hx hq he h; exact ⟨x', v', z21 (k := fun v => k v objs cl) g1, g2, g3⟩
  · rename_i t xa xb q wd ik n
    simp only [Op.operands, List.map_cons, List.map_nil] at hv; obtain ⟨u1, u2, e, h1, h2⟩ := z1y hv
    injection e with e1 e; injection e with e2 _
    subst e1; subst e2
    split at h
    · rename_i el ht
      simp only [zb, zv, z42, Bool.and_eq_true, Nat.beq_eq] at h; obtain ⟨⟨hw, hk⟩, l, hq, ⟨h0, hlt⟩, h⟩ := h; obtain ⟨v, g1, g2⟩ := z9g (dst := dst) (ty := ty) (pos := pos) (after := after) (gd := guard) hT hI h1 h2 ht hw hk hq h0 hlt; exact ⟨_, v, h, g1, g2⟩
    · cases h
  · rename_i t xa xb q wd mm ik n
    simp only [Op.operands, List.map_cons, List.map_nil] at hv; obtain ⟨u1, u2, e, h1, h2⟩ := z1y hv
    injection e with e1 e; injection e with e2 _
    subst e1; subst e2
    split at h
    · rename_i el ht
      simp only [zb, z42, Bool.and_eq_true, Nat.beq_eq] at h; obtain ⟨⟨hw, hk⟩, ⟨h0, hlt⟩, h⟩ := h; obtain ⟨v, g1, g2⟩ := z90 (dst := dst) (ty := ty) (pos := pos) (after := after) (gd := guard) hT h1 h2 ht hw hk h0 hlt; exact ⟨_, v, h, g1, g2⟩
    · cases h
  · rename_i args ats q wd
    split at h
    · rename_i t hts
      split at h
      · rename_i el ht
        simp only [zv, zdg] at h; obtain ⟨l, hq, h⟩ := h
        have hv' : RepT E [.sq q wd] (args.toList.map ρ) := by simpa [Op.operands, Call.operands] using hv
        obtain ⟨g1, g2⟩ := zdn (dst := dst) (ty := ty) (pos := pos) (after := after) (gd := guard) hT hI hv' hts ht hq; exact ⟨_, _, h g1, z1p, g2⟩
      · cases h
    · cases h
  · exact fin h
theorem zlu (hT : TabOK P T) {ops : Array Oper} {o : Oper} {env : Ev} {a : Act} (hI : WI F E objs cl w) (hp : (isRd o.op && !T.fz (o.dst.getD noDst)) = true) (hE : EnvOK E env a) (hd : ∀ t, o.dst = some t → t < a.tmps.size) {M : Meaning}
    {k : Ev → Os → Cl → Prop} (h : stepV (PA M) T ops o env objs cl k) : ∃ v env', YieldsAt P ops w o v a ∧ EnvOK E env' (a.put o.dst v) ∧ k env' objs cl := by
  simp only [Bool.and_eq_true, Bool.not_eq_true'] at hp
  have run : orFail (PA M) (opvs env o.op.operands.toList) (fun vs => opV (PA M) T (o.dst.getD noDst) o.op vs objs cl fun v objs cl => bif T.fz (o.dst.getD noDst) then stillR (PA M) (rowsOf v) v cl fun v cl => k (setE env o.dst v) objs cl else k (setE env o.dst v) objs cl) → Region.wanted o (yielded ops a.tmps) = true → ∃ v env', YieldsAt P ops w o v a ∧ EnvOK E env' (a.put o.dst v) ∧ k env' objs cl := by
    intro h hw; simp only [zi] at h; obtain ⟨vs, hv, h⟩ := h; simp only [hp.2, cond_false] at h; obtain ⟨x, v, g1, g2, g3⟩ := zxw hT hI hp.1 (z8d hE hv) h; exact ⟨v, _, .inl ⟨hw, .inl g3⟩, hE.put hd g2, g1⟩
  unfold stepV at h
  cases hg : o.guard with
  | none =>
    simp only [hg] at h
    exact run h (by simp [Region.wanted, hg])
  | some gw =>
    obtain ⟨j, want⟩ := gw; simp only [hg, zi] at h; obtain ⟨t, ht, y, hy, h⟩ := h
    have skip : ∀ env, EnvOK E env a → Region.wanted o (yielded ops a.tmps) = false → k (setE env o.dst (.tup [])) objs cl → ∃ v env', YieldsAt P ops w o v a ∧ EnvOK E env' (a.put o.dst v) ∧ k env' objs cl :=
      fun env hE hw h => ⟨undef, _, .inr ⟨hw, rfl⟩, hE.put hd (x := .tup []) (by simp [Rep, RepT, undef]), h⟩
    cases hsk : isSkip y with
    | true =>
      have hy2 := z96 hsk; subst hy2; obtain ⟨h1, h2⟩ := hE t _ hy
      have h3 : a.tmps[t]? = some undef := by
        simp only [Rep, RepT] at h2; obtain ⟨vs, e1, e2⟩ := h2; subst e2
        rw [show (Value.tuple [].toArray : Value) = undef from rfl] at e1
        rw [← e1]; simp [h1]
      have hyield : yielded ops a.tmps j = none := by
        unfold yielded
        have : (ops[j]?).bind (·.dst) = some t := by
          cases ho : ops[j]? with
          | none => rw [ho] at ht; cases ht
          | some g => rw [ho] at ht; exact ht
        rw [this]; simp only [Option.bind_some, h3]; rfl
      rw [hsk] at h
      exact skip _ hE (by simp [Region.wanted, hg, hyield]) h
    | false =>
    rw [hsk] at h; simp only [cond_false, z3u] at h; obtain ⟨b, rfl, h⟩ := h; obtain ⟨h1, h2⟩ := hE t _ hy; simp only [Rep] at h2
    have hyield : yielded ops a.tmps j = some b := by
      unfold yielded
      have : (ops[j]?).bind (·.dst) = some t := by
        cases ho : ops[j]? with
        | none => rw [ho] at ht; cases ht
        | some g => rw [ho] at ht; exact ht
      rw [this]
      have h3 : a.tmps[t]? = some (.bool b) := by
        rw [← h2]; simp [h1]
      simp only [Option.bind_some, h3]
    have e : upd env t (.bool b) = env := z6x hy
    cases b <;> cases want <;> simp only [cond_true, cond_false, e] at h
    · exact run (by simpa only [zi] using h) (by simp [Region.wanted, hg, hyield])
    · exact skip _ hE (by simp [Region.wanted, hg, hyield]) h
    · exact skip _ hE (by simp [Region.wanted, hg, hyield]) h
    · exact run (by simpa only [zi] using h) (by simp [Region.wanted, hg, hyield])
theorem z6y {ops : Array Oper} {o : Oper} {l : List Oper} {a : Act} {v : Value} {K : Act → Prop} (hy : YieldsAt P ops w o v a) (h : wpStill P ops w K l (a.put o.dst v)) : wpStill P ops w K (o :: l) a := by
  unfold wpStill
  rcases hy with ⟨hw, hv | ⟨hv, rfl⟩ | ⟨f, args, hv, hc⟩⟩ | ⟨hw, rfl⟩
  · simp only [hw, if_true, Oper.still, hv, Oper.stillUpon]; exact ⟨trivial, h⟩
  · simp only [hw, if_true, Oper.still, hv, Oper.stillUpon]; exact ⟨trivial, h⟩
  · simp only [hw, if_true, Oper.still, hv, Oper.stillUpon]; exact ⟨trivial, v, hc, h⟩
  · simp only [hw, Bool.false_eq_true, if_false]; exact h
theorem z9o (hT : TabOK P T) {ops : Array Oper} {M : Meaning} {n : Nat} {K : Act → Prop} (hI : WI F E objs cl w) {k : Ev → Os → Cl → Prop}
    (hk : ∀ env' a', k env' objs cl → EnvOK E env' a' → a'.defers = [] → a'.tmps.size = n → K a') :
    ∀ (l : List Oper) {env : Ev} {a : Act}, (∀ o, o ∈ l → (isRd o.op && !T.fz (o.dst.getD noDst)) = true ∧ ∀ t, o.dst = some t → t < n) → EnvOK E env a → a.defers = [] → a.tmps.size = n → stepsV (PA M) T ops l env objs cl k → wpStill P ops w K l a
  | [], env, a, hl, hE, hdf, hn, h => hk env a h hE hdf hn
  | o :: l, env, a, hl, hE, hdf, hn, h => by
    obtain ⟨h1, h2⟩ := hl o (List.mem_cons_self ..); simp only [stepsV] at h; obtain ⟨v, env', g1, g2, g3⟩ := zlu hT hI h1 hE (fun t ht => hn ▸ h2 t ht) h
    exact z6y g1 (z9o hT hI hk l (fun o' ho' => hl o' (List.mem_cons_of_mem _ ho')) g2 (by rw [z54]; exact hdf) (by rw [z53]; exact hn) g3)
theorem z91 (hT : TabOK P T) {ops : Array Oper} {M : Meaning} {n : Nat} {K : Act → Prop} (hI : WI F E objs cl w) {k : Ev → Prop} :
    ∀ (l : List Oper) {env : Ev} {a : Act}, (∀ env' a', k env' → EnvOK E env' a' → a'.defers = [] → a'.tmps.size = n → (∀ t, (∀ o, o ∈ l → o.dst ≠ some t) → a'.tmps.getD t undef = a.tmps.getD t undef) → K a') → (∀ o, o ∈ l → (isRd o.op && !T.fz (o.dst.getD noDst)) = true ∧ ∀ t, o.dst = some t → t < n) → EnvOK E env a → a.defers = [] → a.tmps.size = n → stepsJ (PA M) T ops l env objs cl k → wpStill P ops w K l a
  | [], env, a, hk, hl, hE, hdf, hn, h => hk env a h hE hdf hn (fun _ _ => rfl)
  | o :: l, env, a, hk, hl, hE, hdf, hn, h => by
    obtain ⟨h1, h2⟩ := hl o (List.mem_cons_self ..); simp only [stepsJ, zb] at h; obtain ⟨v, env', g1, g2, g3⟩ := zlu hT hI h1 hE (fun t ht => hn ▸ h2 t ht) h.2
    refine z6y g1 (z91 hT hI l ?_ (fun o' ho' => hl o' (List.mem_cons_of_mem _ ho')) g2 (by rw [z54]; exact hdf) (by rw [z53]; exact hn) g3)
    intro env2 a2 q1 q2 q3 q4 q5; refine hk env2 a2 q1 q2 q3 q4 fun t ht => ?_; rw [q5 t fun o' h' => ht o' (List.mem_cons_of_mem _ h'), z6w _ _ _ t (ht o (List.mem_cons_self ..))]
theorem zij {T : Tab} {ops : Array Oper} {n : Nat} (hd : dstIn n ops = true) (h : rdR T ops = true) : (∀ o, o ∈ ops.toList → (isRd o.op && !T.fz (o.dst.getD noDst)) = true ∧ ∀ t, o.dst = some t → t < n) ∧ Region.lexB .any ops = true := by
  unfold rdR at h; rw [Bool.and_eq_true] at h; refine ⟨fun o ho => ⟨List.all_eq_true.1 h.1 o ho, fun t ht => ?_⟩, h.2⟩; obtain ⟨i, hi⟩ := List.getElem?_of_mem ho
  exact z2x hd (i := i) (by simpa using hi) ht
theorem zds (hT : TabOK P T) (hm : P.follows .mixedOrders = true) {id : Nat} {ops : Array Oper} {Q : Exit → Act → World → Prop} {a : Act} {env : Ev} {k : Ev → Os → Cl → Prop} {n : Nat} {M : Meaning} (hd : dstIn n ops = true) (hr : rdR T ops = true) (hI : WI F E objs cl w) (hE : EnvOK E env a) (hdf : a.defers = []) (hn : a.tmps.size = n)
    (h : stepsV (PA M) T ops ops.toList env objs cl k) (hQ : ∀ E' env' objs' cl' a' w', k env' objs' cl' → WI F E' objs' cl' w' → EnvOK E' env' a' → a'.defers = [] → a'.tmps.size = n → Q .normal a' w') : (Code.region id ops true).wp P Q a w := by
  obtain ⟨h1, h2⟩ := zij hd hr; exact wp_region_still hm h2 (z9o hT hI.drew (fun env' a' g1 g2 g3 g4 => hQ E env' objs cl a' _ g1 hI.drew g2 g3 g4) ops.toList h1 hE hdf hn h)
theorem zla (hT : TabOK P T) (hm : P.follows .mixedOrders = true) {id : Nat} {ops : Array Oper} {t : Nat} {Q : Exit → Act → World → Prop} {a : Act} {env : Ev} {k : Ev → Prop} {n : Nat} {M : Meaning} (hd : dstIn n ops = true) (hr : rdR T ops = true) (hI : WI F E objs cl w) (hE : EnvOK E env a) (hdf : a.defers = []) (hn : a.tmps.size = n)
    (h : joinV (PA M) T ops t env objs cl k) (hQ : ∀ E' env' a' w', k env' → WI F E' objs cl w' → EnvOK E' env' a' → a'.defers = [] → a'.tmps.size = n → Q .normal a' w') : (Code.region id ops true).wp P Q a w := by
  obtain ⟨h1, h2⟩ := zij hd hr; obtain ⟨b, hb, hk⟩ := h; refine wp_region_still hm h2 (z91 hT hI.drew ops.toList ?_ h1 hE hdf hn hb); intro env' a' hb hE' hdf' hn' hoth; simp only [zi, z3u] at hb; obtain ⟨y, hy, b', rfl, rfl⟩ := hb; refine hQ E _ a' _ hk hI.drew ?_ hdf' hn'; intro t' x hx
  by_cases htt : t = t'
  · subst htt
    rw [zk] at hx; injection hx with hx; subst hx; exact hE' t _ hy
  · rw [zf _ _ htt] at hx
    rcases z9m hx with ⟨rfl, o, ho, hod⟩ | ⟨h1, h2⟩
    · obtain ⟨i, hi⟩ := List.getElem?_of_mem ho
      refine ⟨hn' ▸ z2x hd (i := i) (by simpa using hi) hod, by simp [Rep]⟩
    · obtain ⟨g1, g2⟩ := hE t' x h1
      refine ⟨by omega, ?_⟩
      rw [hoth t' h2]; exact g2
theorem zbi (hT : TabOK P T) (hF : FnOK P T) (hm : P.follows .mixedOrders = true) {id : Nat} {ops : Array Oper} {Q : Exit → Act → World → Prop} {a : Act} {env : Ev} {k : Ev → Os → Cl → Prop} {n : Nat} (hd : dstIn n ops = true) (hs : Region.noSelect ops = true) (hQ : ∀ c a w, ¬ Q (.panic c) a w)
    (hI : WI F E objs cl w) (hE : EnvOK E env a) (hdf : a.defers = []) (hn : a.tmps.size = n) (h : drawV (PA (SM P L)) T ops ops.size (Array.replicate ops.size false) env objs cl k)
    (hk : ∀ E' env' objs' cl' a' w', k env' objs' cl' → WI F E' objs' cl' w' → EnvOK E' env' a' → a'.defers = [] → a'.tmps.size = n → Q .normal a' w') : (Code.region id ops true).wp P Q a w :=
  wp_region_held hm (z7f hT hF hd hs hQ hk _ _ hI.drew hE hdf hn h)
end V
namespace V
variable {P : Program} {T : Tab} {M : Meaning} {F : Fr} {E E1 E2 : E3} {objs : Os} {cl : Cl} {w : World}
def E3.cut (E : E3) (objs : Os) (cl : Cl) : E3 := ⟨E.S, fun o => if (objs o).isSome then E.mu o else none, fun q => if (cl q).isSome then E.ka q else none⟩
def OkF0 (N : Nm → Prop) (x : AV) : Prop := match x with | .lst (.own q) _ _ => N q | .sq q _ => N q | x => x.flat = true
def OkF (N : Nm → Prop) (x : AV) : Prop := match x with | .agg cs => ∀ c, c ∈ cs → OkF0 N c | x => OkF0 N x
theorem OkF0.mono {N N' : Nm → Prop} (h : ∀ q, N q → N' q) {x : AV} (k : OkF0 N x) : OkF0 N' x := by
  unfold OkF0 at k ⊢
  split at k <;> first | exact h _ k | exact k
theorem OkF.mono {N N' : Nm → Prop} (h : ∀ q, N q → N' q) {x : AV} (k : OkF N x) : OkF N' x := by
  unfold OkF at k ⊢
  split at k
  · exact fun c hc => (k c hc).mono h
  · exact k.mono h
theorem zpc {N : Nm → Prop} {x : AV} (h : x.flat = true) : OkF0 N x := by
  unfold OkF0
  split
  · simp [AV.flat, AV.flat1] at h
  · simp [AV.flat, AV.flat1] at h
  · exact h
theorem zik {N : Nm → Prop} {x : AV} {v : Value} (h : Rep E x v) (hf : OkF0 N x) (hn : ∀ q, N q → (cl q).isSome = true) : Rep (E.cut objs cl) x v := by
  unfold OkF0 at hf
  split at hf
  · rename_i q wd l
    have hq := hn q hf; have hro : Rep (E.cut objs cl) (.lst .ro wd l) v := Rep.flat_mono (E := E) (F := E.cut objs cl) (fun _ _ _ h => h) rfl (z7v h); simp only [Rep] at h hro ⊢; obtain ⟨a, len, cap, rfl, hl, hlc, hcm, he1, _, _⟩ := hro; obtain ⟨_, _, _, _, _, _, _, _, _, hk⟩ := h
    refine ⟨a, len, cap, rfl, hl, hlc, hcm, he1, by simp, fun p hp => ?_⟩
    injection hp with hp; subst hp; simp only [E3.cut, hq, if_true]; exact hk _ rfl
  · rename_i q wd
    have hq := hn q hf; simp only [Rep] at h ⊢
    exact ⟨by simp only [E3.cut, hq, if_true]; exact h.1, h.2⟩
  · exact Rep.flat_mono (E := E) (F := E.cut objs cl) (fun _ _ _ h => h) hf h
theorem zc8 {N : Nm → Prop} : ∀ {cs : List AV} {vs : List Value}, RepL E cs vs → (∀ c, c ∈ cs → OkF0 N c) → (∀ q, N q → (cl q).isSome = true) → RepL (E.cut objs cl) cs vs
  | [], vs, h, _, _ => by simpa [RepL] using h
  | c :: cs, vs, h, hf, hn => by
    simp only [RepL] at h ⊢; obtain ⟨v, r, rfl, h1, h2, h3, h4⟩ := h
    exact ⟨v, r, rfl, h1, h2, zik h3 (hf c (by simp)) hn, zc8 h4 (fun c hc => hf c (by simp [hc])) hn⟩
theorem zfb {N : Nm → Prop} {x : AV} {v : Value} (h : Rep E x v) (hf : OkF N x) (hn : ∀ q, N q → (cl q).isSome = true) : Rep (E.cut objs cl) x v := by
  unfold OkF at hf
  split at hf
  · simp only [Rep] at h ⊢
    obtain ⟨vs, rfl, h⟩ := h; exact ⟨vs, rfl, zc8 h hf hn⟩
  · exact zik h hf hn
def GoodN (cl : Cl) (q : Nm) (x : Cs) : Prop := cl q = some x ∧ isAl (some x) = true ∧ ∀ l, x = .row l → l.all AV.flat = true
theorem WI.restrict (h : WI F E objs cl w) {objs' : Os} {cl' : Cl} (ho : ∀ o x, objs' o = some x → objs o = some x) (hc : ∀ q x, cl' q = some x → GoodN cl q x)
    (hf : ∀ o cs, objs' o = some (.live cs) → ∀ c, c ∈ cs → OkF0 (fun q => (cl' q).isSome = true) c) : WI F (E.cut objs' cl') objs' cl' w := by
  have hmu : ∀ {o b}, (E.cut objs' cl').mu o = some b → E.mu o = some b := by
    intro o b hb; simp only [E3.cut] at hb
    split at hb
    · exact hb
    · cases hb
  have hka : ∀ {q x}, (E.cut objs' cl').ka q = some x → E.ka q = some x := by
    intro q b hb; simp only [E3.cut] at hb
    split at hb
    · exact hb
    · cases hb
  have hmu' : ∀ {o x b}, objs' o = some x → E.mu o = some b → (E.cut objs' cl').mu o = some b := by
    intro o x b h1 h2; simp only [E3.cut, h1, Option.isSome_some, if_true]; exact h2
  have hka' : ∀ {q c x}, cl' q = some c → E.ka q = some x → (E.cut objs' cl').ka q = some x := by
    intro q c x h1 h2; simp only [E3.cut, h1, Option.isSome_some, if_true]; exact h2
  have hal : ∀ {q}, isAl (cl' q) = true → ∃ c, cl' q = some c ∧ isAl (cl q) = true := by
    intro q hq
    cases hh : cl' q with
    | none => rw [hh] at hq; cases hq
    | some c =>
      obtain ⟨h1, h2, _⟩ := hc q c hh
      exact ⟨c, rfl, by rw [h1]; exact h2⟩
  refine { agree := h.agree, live := ?_, frz := ?_, claim := ?_, rows := ?_, oo := ?_, cc := ?_, oc := ?_, mdom := ?_, kdom := ?_, step := h.step, base := h.base, sdom := h.sdom, pm := ?_ }
  · intro o cs h1
    obtain ⟨b, t, vs, g1, g2, g3, g4⟩ := h.live o cs (ho _ _ h1); exact ⟨b, t, vs, hmu' h1 g1, g2, zc8 g3 (hf o cs h1) (fun _ h => h), g4⟩
  · intro o cs h1
    obtain ⟨b, vs, g1, g2, g3, g4⟩ := h.frz o cs (ho _ _ h1); exact ⟨b, vs, hmu' h1 g1, g2, RepL.flat_mono (E := E) (F := E.cut objs' cl') (fun _ _ _ h => h) g2 g3, g4⟩
  · intro q hq
    obtain ⟨c, hq', hq⟩ := hal hq; obtain ⟨v, sz, t, n, xs, g1, g2⟩ := h.claim q hq; exact ⟨v, sz, t, n, xs, hka' hq' g1, g2⟩
  · intro q l hq
    obtain ⟨h1, _, h3⟩ := hc q _ hq; obtain ⟨v, sz, t, n, xs, g1, g2, g3, g4⟩ := h.rows q l h1; exact ⟨v, sz, t, n, xs, hka' hq g1, g2, (SrcE.mono (E := E) (E' := E.cut objs' cl') (fun _ _ _ h => h) (g3.toE (h3 l rfl))).toR, g4⟩
  · intro o o' cs cs' b h1 h2 h3 h4
    exact h.oo o o' cs cs' b (ho _ _ h1) (ho _ _ h2) (hmu h3) (hmu h4)
  · intro q q' v v' s s' g h1 h2 h3 h4
    obtain ⟨_, _, h1⟩ := hal h1; obtain ⟨_, _, h2⟩ := hal h2; exact h.cc q q' v v' s s' g h1 h2 (hka h3) (hka h4)
  · intro o cs b q v s h1 h2 h3 h4
    obtain ⟨_, _, h3⟩ := hal h3; exact h.oc o cs b q v s (ho _ _ h1) (hmu h2) h3 (hka h4)
  · intro o b h1 h2
    simp only [E3.cut, h2, Option.isSome_none, Bool.false_eq_true, if_false] at h1
    cases h1
  · intro q x h1 h2
    simp only [E3.cut, h2, Option.isSome_none, Bool.false_eq_true, if_false] at h1
    cases h1
  · intro j b cs h1 h2
    exact hmu' h2 (h.pm j b cs h1 (ho _ _ h2))
theorem z6z {x : AV} (h : x.flat = true) : fitC x = true := by
  unfold fitC
  split
  · rfl
  · simp [AV.flat, AV.flat1] at h
  · exact h
def fitU (v : AV) : Bool := match v with | .agg l => l.all fitC | v => fitC v
theorem z5o {sh : Sh} {nm : Nm} {c : AV} {k k' : AV → Cl → Prop} (h : exp0 (PA M) sh nm c cl k) (hk : ∀ c cl, k c cl → k' c cl) : exp0 (PA M) sh nm c cl k' := by
  unfold exp0 at h ⊢
  split at h <;> try simp only [zb, z4z, zv] at h ⊢
  · exact ⟨h.1, hk _ _ h.2⟩
  · exact ⟨h.1, hk _ _ h.2⟩
  · obtain ⟨h1, l, h2, h3, h4⟩ := h
    exact ⟨h1, l, h2, h3, hk _ _ h4⟩
  · exact ⟨h.1, hk _ _ h.2⟩
  · obtain ⟨h1, l, h2, h3, h4⟩ := h
    exact ⟨h1, l, h2, h3, hk _ _ h4⟩
  · exact hk _ _ h
  · exact ⟨h.1, hk _ _ h.2⟩
  · exact ⟨h.1, hk _ _ h.2⟩
  · exact ⟨h.1, hk _ _ h.2⟩
theorem zc9 {sh : Sh} {nm : Nm} {c : AV} {k : AV → Cl → Prop} (h : exp0 (PA M) sh nm c cl k) : exp0 (PA M) sh nm c cl (fun c' cl' => fitC c' = true ∧ k c' cl') := by
  unfold exp0 at h ⊢
  split at h <;> try simp only [zb, z4z, zv] at h ⊢
  · exact ⟨h.1, rfl, h.2⟩
  · exact ⟨h.1, rfl, h.2⟩
  · obtain ⟨h1, l, h2, h3, h4⟩ := h
    exact ⟨h1, l, h2, h3, h3, h4⟩
  · exact ⟨h.1, rfl, h.2⟩
  · obtain ⟨h1, l, h2, h3, h4⟩ := h
    exact ⟨h1, l, h2, h3, zc2 h3, h4⟩
  · exact ⟨rfl, h⟩
  · exact ⟨h.1, rfl, h.2⟩
  · exact ⟨h.1, z6z h.1, h.2⟩
  · exact ⟨h.1, z6z h.1, h.2⟩
theorem z9p {nm : Nat → Nm} : ∀ {shs : List Sh} {i : Nat} {cs : List AV} {c1 : Cl} {k k' : List AV → Cl → Prop}, expA (PA M) nm shs i cs c1 k → (∀ c cl, k c cl → k' c cl) → expA (PA M) nm shs i cs c1 k'
  | [], i, cs, c1, k, k', h, hk => by simp only [expA, z26] at h ⊢; exact ⟨h.1, hk _ _ h.2⟩
  | sh :: shs, i, cs, c1, k, k', h, hk => by
    simp only [expA, z20, zb] at h ⊢; obtain ⟨c, cr, rfl, ho, h⟩ := h; exact ⟨c, cr, rfl, ho, z5o h fun c' cl' h2 => z9p h2 fun r cl2 hr => hk _ _ hr⟩
theorem zil {nm : Nat → Nm} : ∀ (shs : List Sh) (i : Nat) (cs : List AV) (c1 : Cl) (k : List AV → Cl → Prop), expA (PA M) nm shs i cs c1 k → expA (PA M) nm shs i cs c1 (fun cs' cl' => cs'.all fitC = true ∧ k cs' cl')
  | [], i, cs, c1, k, h => by simp only [expA, z26] at h ⊢; exact ⟨h.1, rfl, h.2⟩
  | sh :: shs, i, cs, c1, k, h => by
    simp only [expA, z20, zb] at h ⊢; obtain ⟨c, cr, rfl, ho, h⟩ := h; refine ⟨c, cr, rfl, ho, z5o (zc9 h) ?_⟩; rintro c' cl' ⟨hf, h2⟩; refine z9p (zil _ _ _ _ _ h2) ?_; rintro r cl2 ⟨hr, hk⟩
    exact ⟨by simp only [List.all_cons, Bool.and_eq_true]; exact ⟨hf, hr⟩, hk⟩
theorem zim {sh : Sh} {nm : Nm} {c : AV} {k : AV → Cl → Prop} (h : exp1 (PA M) sh nm c cl k) : exp1 (PA M) sh nm c cl (fun c' cl' => fitU c' = true ∧ k c' cl') := by
  unfold exp1 at h ⊢
  cases hu : isUqs sh with
  | true =>
    rw [hu] at h; simp only [cond_true, z6b] at h ⊢; obtain ⟨l, rfl, h⟩ := h; exact ⟨l, rfl, z9p (zil _ _ _ _ _ h) fun c cl h => h⟩
  | false =>
    rw [hu] at h; simp only [cond_false] at h ⊢; refine z5o (zie (zc9 h)) ?_; rintro c' cl' ⟨h1, h2, h3⟩; refine ⟨?_, h3⟩; unfold fitU
    split
    · rename_i l
      have := h1 l rfl; rw [List.all_eq_true]; exact fun x hx => z6z (z1z (List.all_eq_true.1 this x hx))
    · exact h2
theorem zpd {nm : Nat → Nm} : ∀ {shs : List Sh} {i : Nat} {cs : List AV} {c1 : Cl} {k k' : List AV → Cl → Prop}, expC (PA M) nm shs i cs c1 k → (∀ c cl, k c cl → k' c cl) → expC (PA M) nm shs i cs c1 k' := by
  intro shs
  induction shs with
  | nil => intro i cs c1 k k' h hk; simp only [expC, z26] at h ⊢; exact ⟨h.1, hk _ _ h.2⟩
  | cons sh shs ih =>
    intro i cs c1 k k' h hk; have step : asC (PA M) cs (fun c cs => lit (PA M) c.one (exp0 (PA M) sh (nm i) c c1 fun c cl => expC (PA M) nm shs (i + 1) cs cl fun r cl => k (c :: r) cl)) →
        asC (PA M) cs (fun c cs => lit (PA M) c.one (exp0 (PA M) sh (nm i) c c1 fun c cl => expC (PA M) nm shs (i + 1) cs cl fun r cl => k' (c :: r) cl)) := by
      intro h; simp only [z20, zb] at h ⊢; obtain ⟨c, cr, rfl, ho, h⟩ := h; exact ⟨c, cr, rfl, ho, z5o h fun c' cl' h2 => ih h2 fun r cl2 hr => hk _ _ hr⟩
    cases sh <;> cases shs <;> first
      | exact step h
      | (simp only [expC, z1f] at h ⊢; exact ⟨h.1, hk _ _ h.2⟩)
theorem zca {nm : Nat → Nm} : ∀ (shs : List Sh) (i : Nat) (cs : List AV) (c1 : Cl) (k : List AV → Cl → Prop), expC (PA M) nm shs i cs c1 k → expC (PA M) nm shs i cs c1 (fun cs' cl' => cs'.all fitC = true ∧ (isArr shs = true → cs'.all AV.flat1 = true) ∧ k cs' cl') := by
  have fl : ∀ (cs : List AV), cs.all AV.flat1 = true → cs.all fitC = true := by
    intro cs h; rw [List.all_eq_true] at h ⊢; exact fun x hx => z6z (z1z (h x hx))
  intro shs
  induction shs with
  | nil => intro i cs c1 k h; simp only [expC, z26] at h ⊢; exact ⟨h.1, rfl, (fun h => by cases h), h.2⟩
  | cons sh shs ih =>
    intro i cs c1 k h; have step : (isArr (sh :: shs) = false) → asC (PA M) cs (fun c cs => lit (PA M) c.one (exp0 (PA M) sh (nm i) c c1 fun c cl => expC (PA M) nm shs (i + 1) cs cl fun r cl => k (c :: r) cl)) →
        asC (PA M) cs (fun c cs => lit (PA M) c.one (exp0 (PA M) sh (nm i) c c1 fun c cl => expC (PA M) nm shs (i + 1) cs cl fun r cl => (c :: r).all fitC = true ∧ (isArr (sh :: shs) = true → (c :: r).all AV.flat1 = true) ∧ k (c :: r) cl)) := by
      intro ha h; simp only [z20, zb] at h ⊢; obtain ⟨c, cr, rfl, ho, h⟩ := h; refine ⟨c, cr, rfl, ho, ?_⟩; refine z5o (zc9 h) ?_; rintro c' cl' ⟨hf, h2⟩; refine zpd (ih _ _ _ _ h2) ?_; rintro r cl2 ⟨hr, _, hk⟩
      exact ⟨by simp only [List.all_cons, Bool.and_eq_true]; exact ⟨hf, hr⟩, (fun h => by rw [ha] at h; cases h), hk⟩
    cases sh <;> cases shs <;> first
      | exact step rfl h
      | (simp only [expC, z1f] at h ⊢; exact ⟨h.1, fl _ h.1, fun _ => h.1, h.2⟩)
theorem zdt {nm : Nm} {c : AV} (h : fitC c = true) : OkF0 (fun q => ∃ x, (q, x) ∈ nm0 nm c) (fr0 nm c) := by
  unfold fitC at h
  split at h
  · exact ⟨_, List.mem_singleton.2 rfl⟩
  · exact ⟨_, List.mem_singleton.2 rfl⟩
  · rw [z52 h]; exact zpc h
theorem z4p {nm : Nat → Nm} : ∀ {cs : List AV} {i : Nat}, cs.all fitC = true → ∀ c, c ∈ frC nm i cs → OkF0 (fun q => ∃ x, (q, x) ∈ nmC nm i cs) c
  | [], i, _, c, hc => by simp [frC] at hc
  | x :: cs, i, h, c, hc => by
    simp only [List.all_cons, Bool.and_eq_true] at h; simp only [frC, List.mem_cons] at hc
    rcases hc with rfl | hc
    · exact (zdt h.1).mono fun q ⟨y, hy⟩ => ⟨y, by simp [nmC, hy]⟩
    · exact (z4p h.2 c hc).mono fun q ⟨y, hy⟩ => ⟨y, by simp [nmC, hy]⟩
theorem zfc {nm : Nm} {c : AV} (h : ∀ l, c ≠ .agg l) : nm1 nm c = nm0 nm c := by
  unfold nm1
  split
  · exact absurd rfl (h _)
  · rfl
theorem z8e {nm : Nm} {c : AV} (h : fitU c = true) : OkF (fun q => ∃ x, (q, x) ∈ nm1 nm c) (fr1 nm c) := by
  by_cases ha : ∃ l, c = .agg l
  · obtain ⟨l, rfl⟩ := ha
    exact z4p h
  · have hna : ∀ l, c ≠ .agg l := fun l e => ha ⟨l, e⟩
    rw [zf8 hna]
    have h0 : fitC c = true := by
      unfold fitU at h
      split at h
      · exact absurd rfl (hna _)
      · exact h
    have h1 := zdt (nm := nm) h0; unfold OkF
    split
    · rename_i cs e
      exfalso; unfold fr0 at e
      split at e
      · cases e
      · exact hna _ e
    · exact h1.mono fun q ⟨x, hx⟩ => ⟨x, by rw [zfc hna]; exact hx⟩
theorem good0 {nm : Nm} {c : AV} (h : Named0 cl nm c) {q : Nm} {x : Cs} (hq : (q, x) ∈ nm0 nm c) : GoodN cl q x := by
  unfold nm0 at hq
  split at hq
  · rename_i q' wd l
    simp only [Named0] at h; simp only [List.mem_singleton, Prod.mk.injEq] at hq; obtain ⟨rfl, rfl⟩ := hq
    exact ⟨h.2, rfl, fun l e => by cases e⟩
  · rename_i wd l
    simp only [Named0] at h; simp only [List.mem_singleton, Prod.mk.injEq] at hq; obtain ⟨rfl, rfl⟩ := hq
    exact ⟨h.1, rfl, fun l e => by cases e; exact h.2⟩
  · cases hq
theorem goodC {nm : Nat → Nm} : ∀ {cs : List AV} {i : Nat}, (∀ (p : Nat) c, cs[p]? = some c → Named0 cl (nm (i + p)) c) → ∀ {q : Nm} {x : Cs}, (q, x) ∈ nmC nm i cs → GoodN cl q x
  | [], i, _, q, x, hq => by simp [nmC] at hq
  | c :: cs, i, h, q, x, hq => by
    simp only [nmC, List.mem_append] at hq
    rcases hq with hq | hq
    · exact good0 (h 0 c rfl) hq
    · exact goodC (fun p y hy => by have := h (p + 1) y (by simpa using hy); rwa [show i + (p + 1) = i + 1 + p from by omega] at this) hq
theorem good1 {nm : Nm} {c : AV} (h : Named1 cl nm c) {q : Nm} {x : Cs} (hq : (q, x) ∈ nm1 nm c) : GoodN cl q x := by
  by_cases ha : ∃ l, c = .agg l
  · obtain ⟨l, rfl⟩ := ha
    exact goodC (nm := subN nm) (fun p y hy => by rw [Nat.zero_add]; exact h p y hy) hq
  · have hna : ∀ l, c ≠ .agg l := fun l e => ha ⟨l, e⟩
    rw [zfc hna] at hq; exact good0 ((z4m hna).1 h) hq
theorem z7g {c c' : Cl} {q : Nm} {x : Cs} (h : c' q = c q) (k : GoodN c q x) : GoodN c' q x := ⟨by rw [h]; exact k.1, k.2⟩
theorem z8f : ∀ {l : List (Nm × Cs)} {q : Nm} {x : Cs}, ofN l q = some x → (q, x) ∈ l
  | [], q, x, h => by cases h
  | (p, c) :: l, q, x, h => by
    simp only [ofN] at h
    cases hb : Nm.beq p q with
    | true =>
      rw [hb] at h; simp only [cond_true, Option.some.injEq] at h; rw [Nm.beq_iff.1 hb, h]; exact List.mem_cons_self ..
    | false =>
      rw [hb] at h; exact List.mem_cons_of_mem _ (z8f h)
theorem z2d : ∀ {l : List (Nm × Cs)} {q : Nm} {x : Cs}, (q, x) ∈ l → (ofN l q).isSome = true
  | [], q, x, h => by cases h
  | (p, c) :: l, q, x, h => by
    simp only [ofN]
    cases hb : Nm.beq p q with
    | true => rfl
    | false =>
      rcases List.mem_cons.1 h with h | h
      · cases h; rw [Nm.beq_iff.2 rfl] at hb; cases hb
      · exact z2d h
end V
namespace V
variable {P : Program} {T : Tab} {M : Meaning} {F : Fr} {E E1 E2 : E3} {objs o1 o2 : Os} {cl c1 c2 : Cl} {w : World}
def startE (E : E3) (kept : Nat → Bool) : E3 := ⟨E.S, fun o => if kept o then E.mu o else none, fun _ => none⟩
theorem Two.start (h : WI F E objs cl w) (kept : Nat → Bool) : Two F E objs cl F (startE E kept) (fun o => if kept o then some .dead else none) (fun _ => none) w := by
  have nolive : ∀ o cs, ¬ ((fun o => if kept o then some Ob.dead else none) o = some (.live cs)) := by
    intro o cs ho; dsimp only at ho
    split at ho <;> cases ho
  refine ⟨h, ?_, rfl, fun _ h => h, fun o o' cs cs' g _ ho => absurd ho (nolive _ _), fun o cs g q v s _ _ hq => (by cases hq), fun o cs g q v s ho => absurd ho (nolive _ _), fun q q' v v' s s' g _ hq => (by cases hq)⟩
  refine { agree := h.agree, live := fun o cs ho => absurd ho (nolive _ _), frz := ?_, claim := fun q hq => (by cases hq), rows := fun q l hq => (by cases hq), oo := fun o o' cs cs' b ho => absurd ho (nolive _ _), cc := fun q q' v v' s s' g hq => (by cases hq), oc := fun o cs b q v s ho => absurd ho (nolive _ _), mdom := ?_, kdom := fun q x hq => (by cases hq), step := h.step, base := h.base, sdom := h.sdom, pm := fun j b cs _ ho => absurd ho (nolive _ _) }
  · intro o cs ho
    split at ho <;> cases ho
  · intro o b ho
    simp only [startE] at ho ⊢
    split at ho
    · rename_i hk; simp [hk]
    · cases ho
theorem Two.keep_frz (h : Two F E o1 c1 F E2 o2 c2 w) {o : Nat} {cs : List AV} (ho : o1 o = some (.frz cs)) (hm : ∀ b, E.mu o = some b → E2.mu o = some b) : Two F E o1 c1 F E2 (upd o2 o (.frz cs)) c2 w := by
  obtain ⟨b, vs, k1, k2, k3, k4⟩ := h.a.frz o cs ho
  have hold : ∀ {p : Nat} {c : List AV}, upd o2 o (.frz cs) p = some (.live c) → p ≠ o ∧ o2 p = some (.live c) := by
    intro p c hp
    rcases z51 hp with ⟨_, e⟩ | h
    · cases e
    · exact h
  refine ⟨h.a, ?_, h.S, h.own, ?_, h.oc, ?_, h.cc⟩
  · refine { h.b with live := ?_, frz := ?_, oo := ?_, oc := ?_, mdom := ?_, pm := ?_, claim := h.b.claim }
    · intro p c hp; exact h.b.live p c (hold hp).2
    · intro p c hp
      by_cases hop : o = p
      · subst hop
        rw [zk] at hp
        cases hp
        exact ⟨b, vs, hm _ k1, k2, RepL.flat_mono (E := E) (F := E2) (eS h.S) k2 k3, fun j hj => by rw [h.S]; exact k4 j hj⟩
      · rw [zf _ _ hop] at hp; exact h.b.frz p c hp
    · intro p p' c c' g hp hp'; exact h.b.oo p p' c c' g (hold hp).2 (hold hp').2
    · intro p c g q v s hp; exact h.b.oc p c g q v s (hold hp).2
    · intro p b' hp
      by_cases hop : o = p
      · subst hop; rw [zk]; simp
      · rw [zf _ _ hop]; exact h.b.mdom p b' hp
    · intro p b' c hj hp; exact h.b.pm p b' c hj (hold hp).2
  · intro p p' c c' g hp hp'; exact h.oo p p' c c' g hp (hold hp').2
  · intro p c g q v s hp; exact h.co p c g q v s (hold hp).2
def fitR (kept : Nat → Bool) (N : Nm → Prop) (x : AV) : Prop := OkF N x ∨ ∃ o i, x = .ref o i ∧ kept o = true
theorem fitR.mono {kept : Nat → Bool} {N N' : Nm → Prop} (h : ∀ q, N q → N' q) {x : AV} (k : fitR kept N x) : fitR kept N' x := k.imp (fun k => k.mono h) id
theorem inP_L {t t' : Nat} {q : Nm} (h : inP (.L t) q) (h' : inP (.L t') q) : t = t' := by
  rcases h with rfl | ⟨i, rfl⟩ <;> rcases h' with e | ⟨i', e⟩ <;> simp_all [subN]
theorem zxx {t o i : Nat} (h : inP (.L t) (.O o i)) : False := by
  rcases h with h | ⟨i, h⟩ <;> simp [subN] at h
theorem z5f {x : Nat} {l : List Nat} (h : nodupN (x :: l) = true) : (∀ y, y ∈ l → x ≠ y) ∧ nodupN l = true := by
  simp only [nodupN, Bool.and_eq_true, Bool.not_eq_true'] at h; refine ⟨fun y hy e => ?_, h.2⟩; have := List.any_eq_false.1 h.1 y hy; subst e; simp at this
def KeepsE (F : Fr) (E : E3) (objs o2 : Os) (w : World) (a : Act) (kept : Nat → Bool) (E2 : E3) (c2 : Cl) (l : List (Nat × Sh)) (k : List AV → Cl → Prop) : Prop :=
  ∃ es c1' E2' c2', k es c1' ∧ Two F E objs c1' F E2' o2 c2' w ∧ E2'.mu = E2.mu ∧ E2.le E2' ∧ (∀ t x, (t, x) ∈ zipE l es → t < a.tmps.size ∧ Rep E2' x (a.tmps.getD t undef) ∧ fitR kept (fun q => ∃ c, (q, c) ∈ nmsE l es) x) ∧ (∀ q c, (q, c) ∈ nmsE l es → GoodN c2' q c) ∧ (∀ q, c2 q ≠ none → c2' q = c2 q) ∧ (∀ o i, c2' (.O o i) = c2 (.O o i))
theorem z9q {kept : Nat → Bool} {env : Ev} {a : Act} (hE : EnvOK E env a) : ∀ (l : List (Nat × Sh)) (c1 : Cl) (E2 : E3) (c2 : Cl) (k : List AV → Cl → Prop), Two F E objs c1 F E2 o2 c2 w → (∀ p, p ∈ l → ∀ q, inP (.L p.1) q → c2 q = none) → nodupN (l.map (·.1)) = true →
    (∀ o b, kept o = true → E.mu o = some b → E2.mu o = some b) → keepE (PA M) kept l env c1 k →
    KeepsE F E objs o2 w a kept E2 c2 l k
  | [], c1, E2, c2, k, h, _, _, _, hx => ⟨[], c1, E2, c2, hx, h, rfl, E3.le.refl E2, fun _ _ h => (by cases h), fun _ _ h => (by simp [nmsE] at h), fun _ _ => rfl, fun _ _ => rfl⟩
  | (t, sh) :: l, c1, E2, c2, k, h, hc, hnd, hmu, hx => by
    simp only [List.map_cons] at hnd; obtain ⟨hnt, hnd⟩ := z5f hnd; simp only [keepE, zi] at hx; obtain ⟨v, hv, hx⟩ := hx; obtain ⟨g1, g2⟩ := hE t v hv
    have plain : (∀ v vs, zipE ((t, sh) :: l) (v :: vs) = (t, frS sh (.L t) v) :: zipE l vs) → (∀ v vs, nmsE ((t, sh) :: l) (v :: vs) = nmS sh (.L t) v ++ nmsE l vs) → exp1 (PA M) sh (.L t) v c1 (fun v cl => keepE (PA M) kept l env cl fun es cl => k (v :: es) cl) → KeepsE F E objs o2 w a kept E2 c2 ((t, sh) :: l) k := fun hz hzn hx => by
      obtain ⟨v', c1', E2', c2', q0, q2, q3, q4, q5, q6, q7, _, q9, q10⟩ := zc4 h (hc _ (List.mem_cons_self ..)) g2 (zim hx); obtain ⟨qf, q1⟩ := q0
      obtain ⟨es, c1'', E2'', c2'', s1, s2, s3, s4, s5, s6, s7, s8⟩ := z9q hE l c1' E2' c2' _ q2 (fun p hp q hq => by
          rw [q7 q (fun e => hnt p.1 (List.mem_map_of_mem hp) (inP_L e hq))]
          exact hc p (List.mem_cons_of_mem _ hp) q hq) hnd (fun o b hk hb => by rw [q4]; exact hmu o b hk hb) q1
      have pers : ∀ q, c2 q ≠ none → c2' q = c2 q := fun q hq => q7 q (fun e => hq (hc _ (List.mem_cons_self ..) q e))
      refine ⟨_, c1'', E2'', c2'', s1, s2, s3.trans q4, q3.trans s4, ?_, ?_, fun q hq => by rw [s7 q (by rw [pers q hq]; exact hq), pers q hq], fun o i => by rw [s8, q7 _ zxx]⟩
      · intro t' x hx
        rw [hz] at hx; rw [hzn, q10]
        rcases List.mem_cons.1 hx with hx | hx
        · cases hx
          rw [q9]; exact ⟨g1, q5.mono s4, .inl ((z8e qf).mono fun q ⟨c, hc⟩ => ⟨c, List.mem_append.2 (.inl hc)⟩)⟩
        · obtain ⟨r1, r2, r3⟩ := s5 t' x hx
          exact ⟨r1, r2, r3.mono fun q ⟨c, hc⟩ => ⟨c, List.mem_append.2 (.inr hc)⟩⟩
      · intro q c hq
        rw [hzn, q10] at hq
        rcases List.mem_append.1 hq with hq | hq
        · have hg := good1 q6 hq
          exact z7g (s7 q (by rw [hg.1]; simp)) hg
        · exact s6 q c hq
    split at hx
    · rename_i o i
      simp only [zb, Bool.and_eq_true] at hx; obtain ⟨⟨hr, hk⟩, hx⟩ := hx
      have hv' : v = .ref o i := by
        unfold isRef at hr
        split at hr
        · simp only [Bool.and_eq_true, Nat.beq_eq] at hr
          rw [hr.1, hr.2]
        · cases hr
      subst hv'; obtain ⟨es, c1'', E2'', c2'', s1, s2, s3, s4, s5, s6, s7, s8⟩ := z9q hE l c1 E2 c2 _ h (fun p hp => hc p (List.mem_cons_of_mem _ hp)) hnd hmu hx; refine ⟨_, c1'', E2'', c2'', s1, s2, s3, s4, ?_, ?_, s7, s8⟩
      · intro t' x hx
        simp only [zipE] at hx
        rcases List.mem_cons.1 hx with hx | hx
        · cases hx
          refine ⟨g1, ?_, .inr ⟨_, _, rfl, hk⟩⟩; simp only [Rep] at g2 ⊢; obtain ⟨b, hb, e⟩ := g2; exact ⟨b, s4.mu _ _ (hmu o b hk hb), e⟩
        · exact s5 t' x hx
      · intro q c hq
        simp only [nmsE] at hq; exact s6 q c hq
    · rename_i hne
      refine plain (fun v vs => ?_) (fun v vs => ?_) hx
      · cases sh <;> first | rfl | exact absurd rfl (hne _ _)
      · cases sh <;> first | rfl | exact absurd rfl (hne _ _)
theorem z9r : ∀ (l : List (Nat × List Sh)) (o1 : Os) (c1 : Cl) (E2 : E3) (o2 : Os) (c2 : Cl) (k : List (List AV) → Cl → Prop), Two F E o1 c1 F E2 o2 c2 w → (∀ p, p ∈ l → o1 p.1 = objs p.1) → (∀ p i, p ∈ l → c2 (.O p.1 i) = none) → nodupN (l.map (·.1)) = true →
    (∀ p b, p ∈ l → E.mu p.1 = some b → E2.mu p.1 = some b) → keepO (PA M) l objs c1 k →
    ∃ os c1' o1' E2' o2' c2', k os c1' ∧ Two F E o1' c1' F E2' o2' c2' w ∧ E2'.mu = E2.mu ∧ E2.le E2' ∧ (∀ o, (∃ x, ofL (zipO l os) o = some x ∧ o2' o = some x) ∨ (ofL (zipO l os) o = none ∧ (∀ p, p ∈ l → p.1 ≠ o) ∧ o2' o = o2 o)) ∧ (∀ q c, (q, c) ∈ nmsO l os → GoodN c2' q c) ∧ (∀ q, c2 q ≠ none → c2' q = c2 q) ∧
      (∀ o cs, (o, .live cs) ∈ zipO l os → ∀ x, x ∈ cs → OkF0 (fun q => ∃ c, (q, c) ∈ nmsO l os) x) ∧ (∀ o x, (o, x) ∈ zipO l os → ∃ p, p ∈ l ∧ p.1 = o)
  | [], o1, c1, E2, o2, c2, k, h, _, _, _, _, hx => ⟨[], c1, o1, E2, o2, c2, hx, h, rfl, E3.le.refl E2, fun o => .inr ⟨rfl, fun _ h => (by cases h), rfl⟩, fun _ _ h => (by simp [nmsO] at h), fun _ _ => rfl, fun _ _ h => (by simp [zipO] at h), fun _ _ h => (by simp [zipO] at h)⟩
  | (o, shs) :: l, o1, c1, E2, o2, c2, k, h, hsame, hc, hnd, hmu, hx => by
    simp only [List.map_cons] at hnd; obtain ⟨hnt, hnd⟩ := z5f hnd; have ho1 : o1 o = objs o := hsame _ (List.mem_cons_self ..); have hne : ∀ p, p ∈ l → o ≠ p.1 := fun p hp => hnt p.1 (List.mem_map_of_mem hp); simp only [keepO] at hx
    split at hx
    · rename_i cs ho
      rw [← ho1] at ho; simp only [zb, Bool.not_eq_true'] at hx; obtain ⟨hfz, hx⟩ := hx; obtain ⟨b, t, vs, k1, k2, k3, k4⟩ := h.a.live o cs ho
      obtain ⟨cs', c1', E2', c2', q0, q2, q3, q4, q5, q6, q7, q8⟩ := z8b (nm := Nm.O o) (fun i j e => by injection e) shs 0 cs c1 vs E2 c2 _ h (fun j _ => hc _ j (List.mem_cons_self ..)) k3 (zca _ _ _ _ _ hx)
      obtain ⟨qf, qa, q1⟩ := q0
      have hbif : (bif isArr shs then cs' else frC (Nm.O o) 0 cs') = frC (Nm.O o) 0 cs' := by
        cases ha : isArr shs with
        | true => rw [z6d (qa ha)]; rfl
        | false => rfl
      have hz : ∀ os, zipO ((o, shs) :: l) (cs' :: os) = (o, .live (frC (Nm.O o) 0 cs')) :: zipO l os := fun os => by simp only [zipO, hfz, cond_false, hbif]
      have hzn : ∀ os, nmsO ((o, shs) :: l) (cs' :: os) = nmC (Nm.O o) 0 cs' ++ nmsO l os := fun os => by
        simp only [nmsO, hfz, Bool.false_or]
        cases ha : isArr shs with
        | true => rw [zc3 (qa ha)]; rfl
        | false => rfl
      have hm2 : E2'.mu o = some b := by rw [q4]; exact hmu _ b (List.mem_cons_self ..) k1
      have g := q2.move_obj ho k1 hm2 k2 q5 (fun b' hb' => by
        have := h.a.pm o b' cs hb' ho
        rw [k1] at this; injection this with this; exact this.symm)
      obtain ⟨os, c1'', o1'', E2'', o2'', c2'', s1, s2, s3, s4, s5, s6, s7, s8, s9⟩ := z9r l _ c1' E2' _ c2' _ g (fun p hp => by rw [zf _ _ (hne p hp)]; exact hsame p (List.mem_cons_of_mem _ hp))
        (fun p i hp => by
          rw [q7 _ (fun j _ e => by injection e with e _; exact hne p hp e.symm)]
          exact hc p i (List.mem_cons_of_mem _ hp)) hnd (fun p b hp hb => by rw [q4]; exact hmu p b (List.mem_cons_of_mem _ hp) hb) q1
      have pers : ∀ q, c2 q ≠ none → c2' q = c2 q := fun q hq => q7 q (fun j _ e => hq (by rw [e]; exact hc _ j (List.mem_cons_self ..)))
      refine ⟨cs' :: os, c1'', o1'', E2'', o2'', c2'', s1, s2, s3.trans q4, q3.trans s4, ?_, ?_, fun q hq => by rw [s7 q (by rw [pers q hq]; exact hq), pers q hq], ?_, ?_⟩
      · intro o'
        rw [hz]
        by_cases hoo : o = o'
        · subst hoo
          left
          refine ⟨.live (frC (Nm.O o) 0 cs'), by simp [ofL], ?_⟩
          rcases s5 o with ⟨x, hx1, hx2⟩ | ⟨_, _, hx2⟩
          · exfalso
            obtain ⟨p, hp, e⟩ := s9 o x (z46 hx1); exact hne p hp e.symm
          · rw [hx2, zk]
        · have hb : Nat.beq o o' = false := by rw [Bool.eq_false_iff]; intro e; exact hoo (Nat.eq_of_beq_eq_true e)
          simp only [ofL, hb, cond_false]
          rcases s5 o' with h1 | ⟨h1, h2, h3⟩
          · exact .inl h1
          · refine .inr ⟨h1, ?_, by rw [h3, zf _ _ hoo]⟩
            intro p hp
            rcases List.mem_cons.1 hp with rfl | hp
            · exact hoo
            · exact h2 p hp
      · intro q c hq
        rw [hzn] at hq
        rcases List.mem_append.1 hq with hq | hq
        · have hg := goodC q6 hq
          exact z7g (s7 q (by rw [hg.1]; simp)) hg
        · exact s6 q c hq
      · intro o' cs2 hm
        rw [hz] at hm; rw [hzn]
        rcases List.mem_cons.1 hm with hm | hm
        · cases hm
          exact fun x hx => (z4p qf x hx).mono fun q ⟨c, hc⟩ => ⟨c, List.mem_append.2 (.inl hc)⟩
        · exact fun x hx => (s8 o' cs2 hm x hx).mono fun q ⟨c, hc⟩ => ⟨c, List.mem_append.2 (.inr hc)⟩
      · intro o' x hm
        rw [hz] at hm
        rcases List.mem_cons.1 hm with hm | hm
        · cases hm; exact ⟨_, List.mem_cons_self .., rfl⟩
        · obtain ⟨p, hp, e⟩ := s9 o' x hm
          exact ⟨p, List.mem_cons_of_mem _ hp, e⟩
    · rename_i cs ho
      rw [← ho1] at ho; simp only [zb] at hx; obtain ⟨hfz, hx⟩ := hx
      have hz : ∀ cs os, zipO ((o, shs) :: l) (cs :: os) = (o, .frz cs) :: zipO l os := fun cs os => by simp [zipO, hfz]
      have hzn : ∀ cs os, nmsO ((o, shs) :: l) (cs :: os) = nmsO l os := fun cs os => by simp [nmsO, hfz]
      have g := h.keep_frz ho (hmu _ · (List.mem_cons_self ..))
      obtain ⟨os, c1'', o1'', E2'', o2'', c2'', s1, s2, s3, s4, s5, s6, s7, s8, s9⟩ := z9r l _ c1 E2 _ c2 _ g (fun p hp => hsame p (List.mem_cons_of_mem _ hp)) (fun p i hp => hc p i (List.mem_cons_of_mem _ hp)) hnd (fun p b hp hb => hmu p b (List.mem_cons_of_mem _ hp) hb) hx; refine ⟨_, c1'', o1'', E2'', o2'', c2'', s1, s2, s3, s4, ?_, ?_, s7, ?_, ?_⟩
      · intro o'
        rw [hz]
        by_cases hoo : o = o'
        · subst hoo
          left
          refine ⟨.frz cs, by simp [ofL], ?_⟩
          rcases s5 o with ⟨x, hx1, hx2⟩ | ⟨_, _, hx2⟩
          · exfalso
            obtain ⟨p, hp, e⟩ := s9 o x (z46 hx1); exact hne p hp e.symm
          · rw [hx2, zk]
        · have hb : Nat.beq o o' = false := by rw [Bool.eq_false_iff]; intro e; exact hoo (Nat.eq_of_beq_eq_true e)
          simp only [ofL, hb, cond_false]
          rcases s5 o' with h1 | ⟨h1, h2, h3⟩
          · exact .inl h1
          · refine .inr ⟨h1, ?_, by rw [h3, zf _ _ hoo]⟩
            intro p hp
            rcases List.mem_cons.1 hp with rfl | hp
            · exact hoo
            · exact h2 p hp
      · intro q c hq
        rw [hzn] at hq; exact s6 q c hq
      · intro o' cs2 hm
        rw [hz] at hm; rw [hzn]
        rcases List.mem_cons.1 hm with hm | hm
        · cases hm
        · exact s8 o' cs2 hm
      · intro o' x hm
        rw [hz] at hm
        rcases List.mem_cons.1 hm with hm | hm
        · cases hm; exact ⟨_, List.mem_cons_self .., rfl⟩
        · obtain ⟨p, hp, e⟩ := s9 o' x hm
          exact ⟨p, List.mem_cons_of_mem _ hp, e⟩
    · exact hx.elim
theorem z1q {sp : Spec} {env : Ev} {a : Act} {k : List AV → List (List AV) → Prop} (hI : WI F E objs cl w) (hE : EnvOK E env a) (h : flatV (PA M) sp env objs cl k) :
    ∃ E' vs os, k vs os ∧ WI F E' (ofL (zipO sp.2 os)) (clZ sp vs os) w ∧ EnvOK E' (ofL (zipE sp.1 vs)) a := by
  simp only [flatV, zb, Bool.and_eq_true] at h; obtain ⟨⟨hn1, hn2⟩, h⟩ := h
  let kept : Nat → Bool := fun o => sp.2.any fun p => Nat.beq p.1 o
  have hkept : ∀ p, p ∈ sp.2 → kept p.1 = true := fun p hp => List.any_eq_true.2 ⟨p, hp, by simp⟩
  obtain ⟨es, c1', E2', c2', g1, g2, g3, g4, g5, g6, g7, g8⟩ := z9q (kept := kept) hE sp.1 cl _ _ _ (Two.start hI kept) (fun _ _ _ _ => rfl) hn1 (fun o b hk hb => by simp only [startE, hk, if_true]; exact hb) h
  obtain ⟨os, c1'', o1'', E2'', o2'', c2'', s1, s2, s3, s4, s5, s6, s7, s8, s9⟩ := z9r sp.2 objs c1' E2' _ c2' _ g2 (fun _ _ => rfl) (fun p i _ => by rw [g8]) hn2 (fun p b hp hb => by rw [g3]; simp only [startE, hkept p hp, if_true]; exact hb) g1
  have hnames : ∀ q c, (q, c) ∈ nmsE sp.1 es ++ nmsO sp.2 os → GoodN c2'' q c := by
    intro q c hq
    rcases List.mem_append.1 hq with hq | hq
    · have hg := g6 q c hq
      exact z7g (s7 q (by rw [hg.1]; simp)) hg
    · exact s6 q c hq
  have hW := s2.b.restrict (objs' := ofL (zipO sp.2 os)) (cl' := clZ sp es os) (fun o x ho => by
      rcases s5 o with ⟨y, h1, h2⟩ | ⟨h1, _⟩
      · rw [ho] at h1; cases h1; exact h2
      · rw [ho] at h1; cases h1)
    (fun q x hq => hnames q x (z8f hq))
    (fun o cs ho x hx => (s8 o cs (z46 ho) x hx).mono fun q ⟨c, hc⟩ => z2d (List.mem_append.2 (.inr hc)))
  refine ⟨_, _, _, s1, hW, ?_⟩; intro t x hx; have hm := z46 hx; obtain ⟨h1, h2, h3⟩ := g5 t x hm; refine ⟨h1, ?_⟩; have h2 := h2.mono s4
  rcases h3 with h3 | ⟨o, i, rfl, hk⟩
  · exact zfb h2 h3 fun q ⟨c, hc⟩ => z2d (List.mem_append.2 (.inl hc))
  · simp only [Rep] at h2 ⊢
    obtain ⟨b, hb, e⟩ := h2; refine ⟨b, ?_, e⟩; simp only [E3.cut]
    rcases s5 o with ⟨y, k1, _⟩ | ⟨_, k2, _⟩
    · simp [k1, hb]
    · exfalso
      obtain ⟨p, hp, e⟩ := List.any_eq_true.1 hk; exact k2 p hp (Nat.eq_of_beq_eq_true e)
end V
namespace V
variable {P : Program} {L : LoopM} {T : Tab} {M : Meaning} {F : Fr} {E : E3} {objs : Os} {cl : Cl} {w : World}
def Xt.exit' : Xt → Exit
  | .normal => .normal
  | .exit id => .exit id
  | .ret => .ret
def codeOK (n : Nat) : Code → Bool
  | .skip => true
  | .region _ ops draw => dstIn n ops && (!draw || Region.noSelect ops)
  | .seq a b => codeOK n a && codeOK n b
  | .cond _ a b => codeOK n a && codeOK n b
  | .block _ a => codeOK n a
  | .loop a => isL (firstR a) && codeOK n a
  | .exit _ => true
  | .ret => true
  | _ => false
def loopsIn (an : Ann) (B : Nat → Code) : Code → Prop
  | .seq a b => loopsIn an B a ∧ loopsIn an B b ∧ (an.meet (firstR b) = true → B (bid (firstR b)) = b)
  | .cond _ a b => loopsIn an B a ∧ loopsIn an B b
  | .block _ a => loopsIn an B a
  | .loop a => B (firstR a) = a ∧ loopsIn an B a
  | _ => True
def InLoop (P : Program) (c : Code) (Q : Exit → Act → World → Prop) (a : Act) (w : World) : Prop :=
  ∀ (b : Frame) (k : List Item) (cs : List Frame), ∃ e a' w', Q e a' w' ∧ Arrives P (lone (b.at a (.code c :: .inLoop c :: k)) cs w) b k cs e a' w'
theorem z9s {c : Code} {Q : Exit → Act → World → Prop} {a : Act} (h : c.wp P (Exit.then (InLoop P c Q) Q) a w) : InLoop P c Q a w := by
  intro b k cs; obtain ⟨e, a₁, w₁, hq, harr⟩ := h b (.inLoop c :: k) cs
  cases e with
  | normal =>
    obtain ⟨e₂, a₂, w₂, hq₂, harr₂⟩ := hq b k cs; exact ⟨e₂, a₂, w₂, hq₂, .of_steps (Steps.trans harr (.one step_inLoop)) harr₂⟩
  | exit id => exact ⟨_, a₁, w₁, hq, .pass (x := .inLoop c) rfl (fun _ _ => .inl (by simp)) harr⟩
  | goto l => exact ⟨_, a₁, w₁, hq, .pass (x := .inLoop c) rfl (fun _ _ => .inl (by simp)) harr⟩
  | ret => exact ⟨_, a₁, w₁, hq, .pass (x := .inLoop c) rfl (fun _ _ => .inl (by simp)) harr⟩
  | panic ch => exact ⟨_, a₁, w₁, hq, .pass (x := .inLoop c) rfl (fun _ _ => .inl (by simp)) harr⟩
  | outgrown => exact ⟨_, a₁, w₁, hq, .pass (x := .inLoop c) rfl (fun _ _ => .inl (by simp)) harr⟩
theorem zdu {c : Code} {Q : Exit → Act → World → Prop} {a : Act} (h : InLoop P c Q a w) : (Code.loop c).wp P Q a w := by
  intro b k cs; obtain ⟨e, a', w', hq, harr⟩ := h b k cs; exact ⟨e, a', w', hq, .of_steps (.one step_loop) harr⟩
def getX : List (Option Nat × Spec) → Nat → Option (Option Nat × Spec)
  | [], _ => none
  | (x, sp) :: l, j => bif Nat.beq j (xcode x) then some (x, sp) else getX l j
theorem z9t {k : Option Nat → Spec → Prop} : ∀ {out : List (Option Nat × Spec)} {j : Nat}, pickX (PA M) out j k → ∃ x sp, getX out j = some (x, sp) ∧ k x sp
  | [], j, h => h.elim
  | (x, sp) :: l, j, h => by
    simp only [pickX, getX] at h ⊢
    cases hb : Nat.beq j (xcode x) with
    | true => rw [hb] at h; exact ⟨x, sp, rfl, h⟩
    | false => rw [hb] at h; exact z9t h
theorem z47 {k : Spec → Prop} : ∀ {out : List (Option Nat × Spec)} {y : Option Nat}, findX (PA M) out y k → ∃ sp, getX out (xcode y) = some (y, sp) ∧ k sp
  | [], j, h => h.elim
  | (x, sp) :: l, y, h => by
    simp only [findX, getX] at h ⊢
    cases hb : Nat.beq (xcode y) (xcode x) with
    | true =>
      rw [hb] at h; have := Nat.eq_of_beq_eq_true hb
      have hxy : x = y := by cases x <;> cases y <;> simp [xcode] at this ⊢; exact this.symm
      subst hxy; exact ⟨sp, rfl, h⟩
    | false => rw [hb] at h; exact z47 h
theorem zin {sh : Sh} {nm : Nm} {v : AV} {k : AV → Prop} (h : shN (PA M) sh nm v k) : k v := by
  unfold shN at h
  split at h
  · unfold asOwn at h
    split at h
    · simp only [zb, Nat.beq_eq] at h
      obtain ⟨h1, h2, h3⟩ := h; rw [h1, Nm.beq_iff.1 h2]; exact h3
    · exact h.elim
  · exact z21 h
theorem z8g : ∀ {l : List (Nat × Sh)} {vs : List AV} {k : List AV → Prop}, shE (PA M) l vs k → k vs
  | [], vs, k, h => by simp only [shE, z26] at h; obtain ⟨rfl, h⟩ := h; exact h
  | (t, sh) :: l, vs, k, h => by
    simp only [shE] at h
    split at h
    · exact z8g h
    · simp only [z20] at h
      obtain ⟨v, r, rfl, h⟩ := h; exact z8g (k := fun r => k (v :: r)) (zin h)
theorem zsa {nm : Nat → Nm} : ∀ {shs : List Sh} {i : Nat} {cs : List AV} {k : List AV → Prop}, shC (PA M) nm i shs cs k → k cs := by
  intro shs
  induction shs with
  | nil => intro i cs k h; simp only [shC, z26] at h; obtain ⟨rfl, h⟩ := h; exact h
  | cons sh shs ih =>
    intro i cs k h
    have step : asC (PA M) cs (fun v cs => shN (PA M) sh (nm i) v fun v => shC (PA M) nm (i + 1) shs cs fun r => k (v :: r)) → k cs := by
      intro h2; simp only [z20] at h2; obtain ⟨v, r, e, h3⟩ := h2; rw [e]; exact ih (k := fun r => k (v :: r)) (zin h3)
    cases sh <;> cases shs <;> first
      | exact step h
      | exact h
theorem zcb : ∀ {l : List (Nat × List Sh)} {os : List (List AV)} {k : List (List AV) → Prop}, shO (PA M) l os k → k os
  | [], os, k, h => by simp only [shO, z26] at h; obtain ⟨rfl, h⟩ := h; exact h
  | (o, shs) :: l, os, k, h => by
    simp only [shO, z20] at h; obtain ⟨cs, r, rfl, h⟩ := h; exact zcb (k := fun r => k (cs :: r)) (zsa h)
def Enters (P : Program) (id : Nat) (c : Code) (Q : Exit → Act → World → Prop) (a : Act) (w : World) : Prop := bif isL id then InLoop P c Q a w else c.wp P Q a w
def LSem (P : Program) (n : Nat) (an : Ann) (B : Nat → Code) : LoopM := fun id vs os Q =>
  ∀ (F : Fr) (E : E3) (a : Act) (w : World) (Qx : Exit → Act → World → Prop), (∀ c a w, ¬ Qx (.panic c) a w) → WI F E (ofL (zipO (an.loop id).2 os)) (clZ (an.loop id) vs os) w → EnvOK E (ofL (zipE (an.loop id).1 vs)) a → a.defers = [] → a.tmps.size = n →
    (∀ j x sp vs' os' E' a' w', getX (an.out id) j = some (x, sp) → Q j vs' os' → WI F E' (ofL (zipO sp.2 os')) (clZ sp vs' os') w' → EnvOK E' (ofL (zipE sp.1 vs')) a' → a'.defers = [] → a'.tmps.size = n → Qx (xt x).exit' a' w') → Enters P id (B id) Qx a w
theorem LSem.mono {n : Nat} {an : Ann} {B : Nat → Code} {id : Nat} {vs : List AV} {os : List (List AV)} {Q Q' : Nat → List AV → List (List AV) → Prop} (h : LSem P n an B id vs os Q) (hq : ∀ j vs os, Q j vs os → Q' j vs os) : LSem P n an B id vs os Q' :=
  fun F E a w Qx h1 h2 h3 h4 h5 h6 => h F E a w Qx h1 h2 h3 h4 h5 fun j x sp vs' os' E' a' w' g1 g2 => h6 j x sp vs' os' E' a' w' g1 (hq _ _ _ g2)
def Post (F : Fr) (n : Nat) (k : Xt → Ev → Os → Cl → Prop) (Q : Exit → Act → World → Prop) : Prop :=
  ∀ x E env objs cl a w, k x env objs cl → WI F E objs cl w → EnvOK E env a → a.defers = [] → a.tmps.size = n → Q x.exit' a w
def Sound (P : Program) (T : Tab) (an : Ann) (L : LoopM) (n : Nat) (c : Code) : Prop :=
  ∀ (F : Fr) (E : E3) (env : Ev) (objs : Os) (cl : Cl) (a : Act) (w : World) (k : Xt → Ev → Os → Cl → Prop) (Q : Exit → Act → World → Prop), (∀ c a w, ¬ Q (.panic c) a w) → WI F E objs cl w → EnvOK E env a → a.defers = [] → a.tmps.size = n →
    run (PA (SM P L)) T an c env objs cl k → Post F n k Q → c.wp P Q a w
theorem z5s {k : Os → Prop} : ∀ {l : List Nat} {E : E3} {objs : Os}, WI F E objs cl w → freezeV (PA M) l objs k → ∃ E' objs', k objs' ∧ E.le E' ∧ WI F E' objs' cl w
  | [], E, objs, hI, h => ⟨E, objs, h, E3.le.refl E, hI⟩
  | o :: l, E, objs, hI, h => by
    unfold freezeV at h
    split at h
    · rename_i cs ho
      simp only [zb] at h; obtain ⟨b, vs, _, _, _, g4, g5⟩ := hI.freeze ho h.1; obtain ⟨E', objs', k1, k2, k3⟩ := z5s g5 h.2; exact ⟨E', objs', k1, g4.trans k2, k3⟩
    · exact z5s hI h
theorem zsb (hT : TabOK P T) (an : Ann) : TabOK P (tabAt T an) := fun t => ⟨(hT t).desc, (hT t).info, (hT t).eq⟩
theorem zgc {an : Ann} {L : LoopM} {n : Nat} {c : Code} (hS : Sound P T an L n c) : ∀ (m : Nat) (F : Fr) (E : E3) (env : Ev) (objs : Os) (cl : Cl) (a : Act) (w : World) (k : Xt → Ev → Os → Cl → Prop) (Q : Exit → Act → World → Prop), (∀ c a w, ¬ Q (.panic c) a w) → WI F E objs cl w → EnvOK E env a → a.defers = [] → a.tmps.size = n →
    unrV (PA (SM P L)) (run (PA (SM P L)) T an c) m env objs cl k → Post F n k Q → InLoop P c Q a w
  | 0, F, E, env, objs, cl, a, w, k, Q, hq, hI, hE, hdf, hn, h, hP => h.elim
  | m + 1, F, E, env, objs, cl, a, w, k, Q, hq, hI, hE, hdf, hn, h, hP => by
    simp only [unrV] at h; refine z9s (hS F E env objs cl a w _ _ ?_ hI hE hdf hn h ?_)
    · intro c a w hh; exact hq _ _ _ hh
    · intro x E' env' objs' cl' a' w' g1 g2 g3 g4 g5
      cases x with
      | normal => exact zgc hS m F E' env' objs' cl' a' w' k Q hq g2 g3 g4 g5 g1 hP
      | exit i => exact hP (.exit i) E' env' objs' cl' a' w' g1 g2 g3 g4 g5
      | ret => exact hP .ret E' env' objs' cl' a' w' g1 g2 g3 g4 g5
theorem blt_f {a b : Nat} (h : b ≤ a) : Nat.blt a b = false := by
  rw [Bool.eq_false_iff, ne_eq, Nat.blt_eq]; omega
theorem zlv (r : Nat) : isL (bid r) = false := blt_f (Nat.le_add_left _ _)
theorem z2e (hT : TabOK P T) (hF : FnOK P T) (hm : P.follows .mixedOrders = true) {an : Ann} {n : Nat} {B : Nat → Code} : ∀ (c : Code), codeOK n c = true → loopsIn an B c → Sound P T an (LSem P n an B) n c
  | .skip, _, _ => fun F E env objs cl a w k Q hq hI hE hdf hn h hP => wp_skip (hP .normal E env objs cl a w h hI hE hdf hn)
  | .region id ops draw, hc, _ => fun F E env objs cl a w k Q hq hI hE hdf hn h hP => by
    simp only [codeOK, Bool.and_eq_true] at hc; obtain ⟨hd, hs⟩ := hc; simp only [run] at h; obtain ⟨E1, objs1, h, hle1, hI⟩ := z5s hI h; have hE := hE.mono hle1; obtain ⟨E2, env2, objs2, cl2, h, hle2, hI, hE⟩ := z6h hI hE h; have hT := zsb hT an; have hF : FnOK P (tabAt T an) := hF
    cases draw with
    | true =>
      cases hrd : rdR (tabAt T an) ops with
      | true =>
        simp only [hrd, Bool.not_true, Bool.and_false, cond_false] at h
        split at h
        · exact zds hT hm hd hrd hI hE hdf hn h (fun E' env' objs' cl' a' w' g1 g2 g3 g4 g5 => hP .normal E' env' objs' cl' a' w' g1 g2 g3 g4 g5)
        · exact zla hT hm hd hrd hI hE hdf hn h (fun E' env' a' w' g1 g2 g3 g4 g5 => hP .normal E' env' objs2 cl2 a' w' g1 g2 g3 g4 g5)
      | false =>
      simp only [hrd, Bool.not_false, Bool.and_true, cond_true] at h
      exact zbi hT hF hm hd (by simpa using hs) hq hI hE hdf hn h (fun E' env' objs' cl' a' w' g1 g2 g3 g4 g5 => hP .normal E' env' objs' cl' a' w' g1 g2 g3 g4 g5)
    | false =>
      simp only [Bool.false_and, cond_false] at h
      split at h
      · exact zii hT hF hd hI hE hdf hn h (fun E' env' objs' cl' a' w' g1 g2 g3 g4 g5 => hP .normal E' env' objs' cl' a' w' g1 g2 g3 g4 g5)
      · exact zl9 hT hF hd hI hE hdf hn h (fun E' env' a' w' g1 g2 g3 g4 g5 => hP .normal E' env' objs2 cl2 a' w' g1 g2 g3 g4 g5)
  | .seq c d, hc, hl => fun F E env objs cl a w k Q hq hI hE hdf hn h hP => by
    simp only [codeOK, Bool.and_eq_true] at hc; simp only [loopsIn] at hl; simp only [run] at h; refine wp_seq (z2e hT hF hm c hc.1 hl.1 F E env objs cl a w _ _ ?_ hI hE hdf hn h ?_)
    · intro c a w hh; exact hq _ _ _ hh
    · intro x E' env' objs' cl' a' w' g1 g2 g3 g4 g5
      cases x with
      | normal =>
        dsimp only at g1
        cases hmt : an.meet (firstR d) with
        | false =>
          rw [hmt] at g1; exact z2e hT hF hm d hc.2 hl.2.1 F E' env' objs' cl' a' w' _ _ hq g2 g3 g4 g5 g1 hP
        | true =>
          rw [hmt] at g1; have hB := hl.2.2 hmt; have hid := zlv (firstR d); generalize bid (firstR d) = r at g1 hB hid; simp only [cond_true, loopV] at g1; obtain ⟨E2, vs, os, s1, s2, s3⟩ := z1q g2 g3 g1; have s1 : LSem P n an B r vs os _ := s1
          have key := s1 F E2 a' w' Q hq s2 s3 g4 g5 (fun j x sp vs' os' E' a' w' g1 g2 g3 g4 g5 g6 => by
            obtain ⟨x2, sp2, e, hk⟩ := z9t g2; rw [g1] at e; injection e with e; injection e with e1 e2
            subst e1; subst e2; have hk := zcb (z8g hk); exact hP (xt x) E' _ _ _ a' w' hk g3 g4 g5 g6)
          rw [hB] at key; unfold Enters at key; rw [hid] at key; exact key
      | exit id => exact hP (.exit id) E' env' objs' cl' a' w' g1 g2 g3 g4 g5
      | ret => exact hP .ret E' env' objs' cl' a' w' g1 g2 g3 g4 g5
  | .cond c x y, hc, hl => fun F E env objs cl a w k Q hq hI hE hdf hn h hP => by
    simp only [codeOK, Bool.and_eq_true] at hc; simp only [loopsIn] at hl; simp only [run, zi, z3u] at h; obtain ⟨v, hv, b, rfl, h⟩ := h; have hb := zls hE hv; simp only [Rep] at hb
    have he : ∀ b, opv env c = some (.bool b) → condE env c b = env := by
      intro b hv
      cases c with
      | tmp t => exact z6x hv
      | _ => rfl
    cases b with
    | true =>
      simp only [cond_true, he true hv] at h; exact wp_cond_true hb (z2e hT hF hm x hc.1 hl.1 F E env objs cl a w _ _ hq hI hE hdf hn h hP)
    | false =>
      simp only [cond_false, he false hv] at h; exact wp_cond_false hb (z2e hT hF hm y hc.2 hl.2 F E env objs cl a w _ _ hq hI hE hdf hn h hP)
  | .block id c, hc, hl => fun F E env objs cl a w k Q hq hI hE hdf hn h hP => by
    simp only [codeOK] at hc; simp only [loopsIn] at hl; simp only [run] at h; refine wp_block (z2e hT hF hm c hc hl F E env objs cl a w _ _ ?_ hI hE hdf hn h ?_)
    · intro c a w hh; exact hq _ _ _ hh
    · intro x E' env' objs' cl' a' w' g1 g2 g3 g4 g5
      cases x with
      | normal => exact hP .normal E' env' objs' cl' a' w' g1 g2 g3 g4 g5
      | exit j =>
        dsimp only at g1
        show (if j = id then Q .normal a' w' else Q (.exit j) a' w')
        cases hb : Nat.beq j id with
        | true =>
          rw [hb] at g1; rw [if_pos (Nat.eq_of_beq_eq_true hb)]; exact hP .normal E' env' objs' cl' a' w' g1 g2 g3 g4 g5
        | false =>
          rw [hb] at g1
          rw [if_neg (fun e => by subst e; simp at hb)]
          exact hP (.exit j) E' env' objs' cl' a' w' g1 g2 g3 g4 g5
      | ret => exact hP .ret E' env' objs' cl' a' w' g1 g2 g3 g4 g5
  | .loop c, hc, hl => fun F E env objs cl a w k Q hq hI hE hdf hn h hP => by
    simp only [codeOK, Bool.and_eq_true] at hc; simp only [loopsIn] at hl; simp only [run] at h
    split at h
    rotate_left
    · exact zdu (zgc (z2e hT hF hm c hc.2 hl.2) _ F E env objs cl a w k Q hq hI hE hdf hn h hP)
    simp only [loopV] at h; obtain ⟨E2, vs, os, s1, s2, s3⟩ := z1q hI hE h; have s1 : LSem P n an B (firstR c) vs os _ := s1
    have key := s1 F E2 a w Q hq s2 s3 hdf hn (fun j x sp vs' os' E' a' w' g1 g2 g3 g4 g5 g6 => by
      obtain ⟨x2, sp2, e, hk⟩ := z9t g2; rw [g1] at e; injection e with e; injection e with e1 e2
      subst e1; subst e2; have hk := zcb (z8g hk); exact hP (xt x) E' _ _ _ a' w' hk g3 g4 g5 g6)
    rw [hl.1] at key; unfold Enters at key; rw [hc.1] at key; exact zdu key
  | .exit id, _, _ => fun F E env objs cl a w k Q hq hI hE hdf hn h hP => wp_exit (hP (.exit id) E env objs cl a w h hI hE hdf hn)
  | .ret, _, _ => fun F E env objs cl a w k Q hq hI hE hdf hn h hP => wp_ret (hP .ret E env objs cl a w h hI hE hdf hn)
  | .label _, hc, _ => by simp [codeOK] at hc
  | .goto _, hc, _ => by simp [codeOK] at hc
  | .scope _, hc, _ => by simp [codeOK] at hc
  | .rangeFunc _ _ _ _, hc, _ => by simp [codeOK] at hc
theorem zng (hT : TabOK P T) (hF : FnOK P T) (hm : P.follows .mixedOrders = true) {an : Ann} {n : Nat} {B : Nat → Code} {id : Nat} (hc : codeOK n (B id) = true) (hl : loopsIn an B (B id)) {vs : List AV} {os : List (List AV)} {Q : Nat → List AV → List (List AV) → Prop}
    (h : roundV (PA (SM P (LSem P n an B))) id (an.loop id) (an.out id) (fun env objs cl k => run (PA (SM P (LSem P n an B))) T an (B id) env objs cl k) vs os (fun vs os => LSem P n an B id vs os Q) Q) : LSem P n an B id vs os Q := by
  intro F E a w Qx hq hI hE hdf hn hX; unfold roundV at h; unfold Enters
  cases hid : isL id with
  | false =>
    rw [hid] at h; refine z2e hT hF hm (B id) hc hl F E _ _ _ a w _ _ hq hI hE hdf hn h ?_; intro x E' env' objs' cl' a' w' g1 g2 g3 g4 g5
    cases x with
    | normal =>
      obtain ⟨sp, e, g1⟩ := z47 g1; obtain ⟨E2, vs2, os2, s1, s2, s3⟩ := z1q g2 g3 g1; exact hX 50001 (some 50000) sp vs2 os2 E2 a' w' e s1 s2 s3 g4 g5
    | exit i =>
      simp only [zb, Nat.blt_eq] at g1; obtain ⟨hi, g1⟩ := g1; obtain ⟨sp, e, g1⟩ := z47 g1; obtain ⟨E2, vs2, os2, s1, s2, s3⟩ := z1q g2 g3 g1; have hx := hX (i + 1) (some i) sp vs2 os2 E2 a' w' e s1 s2 s3 g4 g5
      have e2 : xt (some i) = .exit i := by
        unfold xt; dsimp only
        rw [show Nat.beq i 50000 = false by rw [Bool.eq_false_iff]; intro h; rw [Nat.beq_eq] at h; omega]
        rfl
      rw [e2] at hx; exact hx
    | ret =>
      obtain ⟨sp, e, g1⟩ := z47 g1; obtain ⟨E2, vs2, os2, s1, s2, s3⟩ := z1q g2 g3 g1; exact hX 0 none sp vs2 os2 E2 a' w' e s1 s2 s3 g4 g5
  | true =>
  rw [hid] at h; have s0 : ∀ (vs : List AV) (os : List (List AV)), LSem P n an B id vs os Q → ∀ (F : Fr) (E : E3) (a : Act) (w : World) (Qx : Exit → Act → World → Prop), (∀ c a w, ¬ Qx (.panic c) a w) → WI F E (ofL (zipO (an.loop id).2 os)) (clZ (an.loop id) vs os) w → EnvOK E (ofL (zipE (an.loop id).1 vs)) a → a.defers = [] → a.tmps.size = n →
    (∀ j x sp vs' os' E' a' w', getX (an.out id) j = some (x, sp) → Q j vs' os' → WI F E' (ofL (zipO sp.2 os')) (clZ sp vs' os') w' → EnvOK E' (ofL (zipE sp.1 vs')) a' → a'.defers = [] → a'.tmps.size = n → Qx (xt x).exit' a' w') → InLoop P (B id) Qx a w := by
    intro vs os hh F E a w Qx h1 h2 h3 h4 h5 h6; have := hh F E a w Qx h1 h2 h3 h4 h5 h6; unfold Enters at this; rw [hid] at this; exact this
  refine z9s (z2e hT hF hm (B id) hc hl F E _ _ _ a w _ _ ?_ hI hE hdf hn h ?_)
  · intro c a w hh; exact hq _ _ _ hh
  · intro x E' env' objs' cl' a' w' g1 g2 g3 g4 g5
    cases x with
    | normal =>
      obtain ⟨E2, vs2, os2, s1, s2, s3⟩ := z1q g2 g3 g1; exact s0 _ _ s1 F E2 a' w' Qx hq s2 s3 g4 g5 hX
    | exit i =>
      simp only [zb, Nat.blt_eq] at g1; obtain ⟨hi, g1⟩ := g1; obtain ⟨sp, e, g1⟩ := z47 g1; obtain ⟨E2, vs2, os2, s1, s2, s3⟩ := z1q g2 g3 g1; have hx := hX (i + 1) (some i) sp vs2 os2 E2 a' w' e s1 s2 s3 g4 g5
      have e2 : xt (some i) = .exit i := by
        unfold xt; dsimp only
        rw [show Nat.beq i 50000 = false by rw [Bool.eq_false_iff]; intro h; rw [Nat.beq_eq] at h; omega]
        rfl
      rw [e2] at hx; exact hx
    | ret =>
      obtain ⟨sp, e, g1⟩ := z47 g1; obtain ⟨E2, vs2, os2, s1, s2, s3⟩ := z1q g2 g3 g1; exact hX 0 none sp vs2 os2 E2 a' w' e s1 s2 s3 g4 g5
end V
namespace V
variable {P : Program} {T : Tab} {M : Meaning} {F : Fr} {E E1 E2 : E3} {objs o1 o2 : Os} {cl c1 c2 : Cl} {w : World}
def OutsOK (outs : List (Nat × List AV)) (o2 : Os) (c2 : Cl) : Prop :=
  ∀ j cs, (j, cs) ∈ outs → o2 j = some (.live (frC (Nm.E j) 0 cs)) ∧ cs.all fitC = true ∧ NamedC c2 (Nm.E j) cs
theorem zio : ∀ (l : List (Nat × List Sh)) (o1 : Os) (c1 : Cl) (E2 : E3) (o2 : Os) (c2 : Cl) (k : List (Nat × List AV) → Os → Cl → Prop), Two F E o1 c1 F E2 o2 c2 w → (∀ p i, p ∈ l → c2 (.E p.1 i) = none) → nodupN (l.map (·.1)) = true →
    (∀ p b, p ∈ l → E.mu p.1 = some b → E2.mu p.1 = some b) → expO (PA M) l o1 c1 k →
    ∃ outs o1' c1' E2' o2' c2', k outs o1' c1' ∧ Two F E o1' c1' F E2' o2' c2' w ∧ E2'.mu = E2.mu ∧ E2.le E2' ∧ OutsOK outs o2' c2' ∧ outs.map (·.1) = l.map (·.1) ∧ (∀ o, (∀ p, p ∈ l → p.1 ≠ o) → o2' o = o2 o) ∧ (∀ q, (∀ p i, p ∈ l → q ≠ .E p.1 i) → c2' q = c2 q)
  | [], o1, c1, E2, o2, c2, k, h, _, _, _, hx => ⟨[], o1, c1, E2, o2, c2, hx, h, rfl, E3.le.refl E2, fun _ _ h => (by cases h), rfl, fun _ _ => rfl, fun _ _ => rfl⟩
  | (j, shs) :: l, o1, c1, E2, o2, c2, k, h, hc, hnd, hmu, hx => by
    simp only [List.map_cons] at hnd; obtain ⟨hnt, hnd⟩ := z5f hnd; have hne : ∀ p, p ∈ l → j ≠ p.1 := fun p hp => hnt p.1 (List.mem_map_of_mem hp); simp only [expO] at hx
    split at hx
    · rename_i cs ho
      obtain ⟨b, t, vs, k1, k2, k3, k4⟩ := h.a.live j cs ho
      obtain ⟨cs', c1', E2', c2', q0, q2, q3, q4, q5, q6, q7, q8⟩ := z8b (nm := Nm.E j) (fun i j e => by injection e) shs 0 cs c1 vs E2 c2 _ h (fun i _ => hc _ i (List.mem_cons_self ..)) k3 (zca _ _ _ _ _ hx)
      obtain ⟨qf, _, q1⟩ := q0
      have hm2 : E2'.mu j = some b := by rw [q4]; exact hmu _ b (List.mem_cons_self ..) k1
      have g := q2.move_obj ho k1 hm2 k2 q5 (fun b' hb' => by
        have := h.a.pm j b' cs hb' ho
        rw [k1] at this; injection this with this; exact this.symm)
      obtain ⟨outs, o1'', c1'', E2'', o2'', c2'', s1, s2, s3, s4, s5, s6, s7, s8⟩ := zio l _ c1' E2' _ c2' _ g
        (fun p i hp => by
          rw [q7 _ (fun i' _ e => by injection e with e _; exact hne p hp e.symm)]
          exact hc p i (List.mem_cons_of_mem _ hp)) hnd (fun p b hp hb => by rw [q4]; exact hmu p b (List.mem_cons_of_mem _ hp) hb) q1
      refine ⟨_, o1'', c1'', E2'', o2'', c2'', s1, s2, s3.trans q4, q3.trans s4, ?_, by simp [s6], ?_, ?_⟩
      · intro j' cs2 hm
        rcases List.mem_cons.1 hm with hm | hm
        · cases hm
          refine ⟨by rw [s7 _ (fun p hp => Ne.symm (hne p hp)), zk], qf, fun i x e => ?_⟩
          have := q6 i x e; rw [Nat.zero_add] at this
          exact z1a (s8 _ (fun p i' hp e3 => by injection e3 with e3 _; exact hne p hp e3)) this
        · exact s5 j' cs2 hm
      · intro o hno
        rw [s7 o (fun p hp => hno p (List.mem_cons_of_mem _ hp)), zf _ _ (hno _ (List.mem_cons_self ..))]
      · intro q hq
        rw [s8 q (fun p i hp => hq p i (List.mem_cons_of_mem _ hp)), q7 q (fun i _ => hq _ i (List.mem_cons_self ..))]
    · exact hx.elim
def fitV (outs : List (Nat × List AV)) (x : AV) : Prop := fitU x = true ∨ ∃ o i, x = .ref o i ∧ ∃ cs, (o, cs) ∈ outs
theorem fitV.more {outs : List (Nat × List AV)} {x : AV} {p : Nat × List AV} (h : fitV outs x) : fitV (p :: outs) x := by
  rcases h with h | ⟨o, i, e, cs, h⟩
  · exact .inl h
  · exact .inr ⟨o, i, e, cs, List.mem_cons_of_mem _ h⟩
def ExpR (F : Fr) (E : E3) (w : World) (r : Nat) (us : List Value) (E2 : E3) (o2 : Os) (c2 : Cl) (k : List AV → List (Nat × List AV) → Cl → Prop) : Prop :=
    ∃ res outs o1' c1' E2' o2' c2', k res outs c1' ∧ Two F E o1' c1' F E2' o2' c2' w ∧ E2.le E2' ∧ RepT E2' (frR r res) us ∧ (∀ x, x ∈ res → fitV outs x) ∧ (∀ (p : Nat) v, res[p]? = some v → Named1 c2' (.R (r + p)) v) ∧ OutsOK outs o2' c2' ∧ (∀ j cs, (j, cs) ∈ outs → 64 + r ≤ j) ∧ (outs.map (·.1)).Nodup ∧
      (∀ o, (∀ r', r ≤ r' → o ≠ 64 + r') → o2' o = o2 o) ∧ (∀ q, (∀ r', r ≤ r' → ¬ inP (.R r') q ∧ ∀ i, q ≠ .E (64 + r') i) → c2' q = c2 q)
theorem zcc : ∀ (shs : List Sh) (r : Nat) (vs : List AV) (us : List Value) (o1 : Os) (c1 : Cl) (E2 : E3) (o2 : Os) (c2 : Cl) (k : List AV → List (Nat × List AV) → Cl → Prop), Two F E o1 c1 F E2 o2 c2 w → RepT E vs us → (∀ r', r ≤ r' → o2 (64 + r') = none ∧ F.mu0 (64 + r') = none) → (∀ r' i, r ≤ r' → c2 (.E (64 + r') i) = none) → (∀ r' q, r ≤ r' → inP (.R r') q → c2 q = none) → expR (PA M) r shs vs o1 c1 k → ExpR F E w r us E2 o2 c2 k
  | [], r, vs, us, o1, c1, E2, o2, c2, k, h, hv, ho, hc, hr, hx => by
    simp only [expR, z26] at hx; obtain ⟨rfl, hx⟩ := hx; simp only [RepT] at hv; subst hv
    exact ⟨[], [], o1, c1, E2, o2, c2, hx, h, E3.le.refl E2, by simp [RepT, frR], fun _ h => (by cases h), fun p v e => (by simp at e), fun _ _ h => (by cases h), fun _ _ h => (by cases h), by simp, fun _ _ => rfl, fun _ _ => rfl⟩
  | sh :: shs, r, vs, us, o1, c1, E2, o2, c2, k, h, hv, ho, hc, hr, hx => by
    simp only [expR, z20] at hx; obtain ⟨v, vr, rfl, hx⟩ := hx; simp only [RepT] at hv; obtain ⟨u, ur, rfl, hv1, hv2⟩ := hv
    have plain : exp1 (PA M) sh (.R r) v c1 (fun v cl => expR (PA M) (r + 1) shs vr o1 cl fun vs outs cl => k (v :: vs) outs cl) → ExpR F E w r (u :: ur) E2 o2 c2 k := fun hx => by
      obtain ⟨v', c1', E2', c2', q0, q2, q3, q4, q5, q6, q7, _, _, _⟩ := zc4 h (fun q hq => hr r q (Nat.le_refl _) hq) hv1 (zim hx); obtain ⟨qf, q1⟩ := q0
      obtain ⟨res, outs, o1', c1'', E2'', o2', c2'', s1, s2, s3, s4, s5, s6, s7, s8, s9, s10, s11⟩ := zcc shs (r + 1) vr ur o1 c1' E2' o2 c2' _ q2 hv2 (fun r' hr' => ho r' (by omega)) (fun r' i hr' => by rw [q7 _ z4n]; exact hc r' i (by omega))
        (fun r' q hr' hq => by rw [q7 q (fun hq' => by have := inP_R hq hq'; omega)]; exact hr r' q (by omega) hq) q1
      refine ⟨_, outs, o1', c1'', E2'', o2', c2'', s1, s2, q3.trans s3, ?_, ?_, ?_, s7, fun j cs hm => by have := s8 j cs hm; omega, s9, fun o hno => s10 o (fun r' hr' => hno r' (by omega)), fun q hq => ?_⟩
      · simp only [frR, RepT]
        exact ⟨u, ur, rfl, q5.mono s3, s4⟩
      · intro x hm
        rcases List.mem_cons.1 hm with rfl | hm
        · exact .inl qf
        · exact s5 x hm
      · intro p x e
        cases p with
        | zero =>
          simp at e; subst e
          exact z3h (fun q hq => s11 q (fun r' hr' => ⟨fun hq' => by have := inP_R hq hq'; omega, fun i e => z4n (e ▸ hq)⟩)) q6
        | succ p =>
          simp at e; have := s6 p x e
          rwa [show r + 1 + p = r + (p + 1) from by omega] at this
      · rw [s11 q (fun r' hr' => hq r' (by omega)), q7 q (hq r (Nat.le_refl _)).1]
    split at hx
    · rename_i os
      split at hx
      · rename_i o
        split at hx
        · rename_i cs hoc
          obtain ⟨b, t, ws, k1, k2, k3, k4⟩ := h.a.live o cs hoc; obtain ⟨n1, n2⟩ := h.name (j := 64 + r) (b := b) (ho r (Nat.le_refl _)).1
          obtain ⟨cs', c1', E2', c2', q0, q2, q3, q4, q5, q6, q7, q8⟩ := z8b (nm := Nm.E (64 + r)) (fun i j e => by injection e) os 0 cs c1 ws _ c2 _ n2 (fun i _ => hc r i (Nat.le_refl _)) k3 (zca _ _ _ _ _ hx)
          obtain ⟨qf, _, q1⟩ := q0
          have hm2 : E2'.mu (64 + r) = some b := by rw [q4]; exact zk _ _ _
          have g := q2.move_obj hoc k1 hm2 k2 q5 (fun b' hb' => by rw [(ho r (Nat.le_refl _)).2] at hb'; cases hb')
          obtain ⟨res, outs, o1', c1'', E2'', o2', c2'', s1, s2, s3, s4, s5, s6, s7, s8, s9, s10, s11⟩ := zcc shs (r + 1) vr ur _ c1' E2' _ c2' _ g hv2
            (fun r' hr' => ⟨by rw [zf _ _ (by omega), zf _ _ (by omega)]; exact (ho r' (by omega)).1, (ho r' (by omega)).2⟩)
            (fun r' i hr' => by rw [q7 _ (fun i' _ e => by injection e with e _; omega)]; exact hc r' i (by omega))
            (fun r' q hr' hq => by rw [q7 _ (fun i' _ e => z4n (e ▸ hq))]; exact hr r' q (by omega) hq) q1
          refine ⟨_, _, o1', c1'', E2'', o2', c2'', s1, s2, (n1.trans q3).trans s3, ?_, ?_, ?_, ?_, ?_, ?_, fun o' hno => ?_, fun q hq => ?_⟩
          · simp only [frR, RepT]
            refine ⟨u, ur, rfl, ?_, s4⟩; simp only [fr1, fr0, Rep] at hv1 ⊢; obtain ⟨b', hb', rfl⟩ := hv1
            rw [k1] at hb'; cases hb'
            exact ⟨b, s3.mu _ _ hm2, rfl⟩
          · intro x hm
            rcases List.mem_cons.1 hm with rfl | hm
            · exact .inr ⟨_, _, rfl, cs', List.mem_cons_self ..⟩
            · exact (s5 x hm).more
          · intro p x e
            cases p with
            | zero => simp at e; subst e; trivial
            | succ p =>
              simp at e; have := s6 p x e
              rwa [show r + 1 + p = r + (p + 1) from by omega] at this
          · intro j cs2 hm
            rcases List.mem_cons.1 hm with hm | hm
            · cases hm
              refine ⟨by rw [s10 _ (fun r' hr' e => by omega), zk], qf, fun i x e => ?_⟩
              have := q6 i x e; rw [Nat.zero_add] at this
              exact z1a (s11 _ (fun r' hr' => ⟨fun hq => z4n hq, fun i' e => by injection e with e _; omega⟩)) this
            · exact s7 j cs2 hm
          · intro j cs2 hm
            rcases List.mem_cons.1 hm with hm | hm
            · cases hm; exact Nat.le_refl _
            · have := s8 j cs2 hm; omega
          · simp only [List.map_cons, List.nodup_cons]
            refine ⟨fun hm => ?_, s9⟩; obtain ⟨⟨j, cs2⟩, hm, e⟩ := List.mem_map.1 hm; have := s8 j cs2 hm; dsimp only at e; omega
          · rw [s10 o' (fun r' hr' => hno r' (by omega)), zf _ _ (Ne.symm (hno r (Nat.le_refl _))), zf _ _ (Ne.symm (hno r (Nat.le_refl _)))]
          · rw [s11 q (fun r' hr' => hq r' (by omega)), q7 q (fun i _ => (hq r (Nat.le_refl _)).2 i)]
        · exact hx.elim
      · exact hx.elim
    · exact plain hx
end V
end Go.Proofs.YtgkiakemfcbgiaaGreat
