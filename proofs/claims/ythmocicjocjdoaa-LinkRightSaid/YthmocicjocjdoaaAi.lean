/- Operations are sound: those that are no calls of functions. -/
import Derived.Test.YthmocicjocjdoaaAh
import Derived.Lib.ConvBytes
set_option linter.unusedVariables false
set_option linter.unusedSimpArgs false
namespace Go.Proofs.Ythmocicjocjdoaa.V
open Go
variable {P : Program} {T : Tab} {M : Meaning} {F : Fr} {E : E3} {objs : Os} {cl : Cl} {w : World}

/-- What an operation comes to. -/
def Does (P : Program) (F : Fr) (E : E3) (ρ : Operand → Value) (o : Oper) (w : World) (k : AV → Os → Cl → Prop) : Prop :=
  ∃ E' x v objs' cl' w', k x objs' cl' ∧ E.le E' ∧ Rep E' x v ∧ WI F E' objs' cl' w' ∧
    ((execOp ρ o).run P w = .ok (.value v) w' ∨ ((execOp ρ o).run P w = .ok .skip w' ∧ v = undef))

theorem zero_of (hT : TabOK P T) {t : Nat} (hk : (T.ty t).known = true) (hz : (T.ty t).zero.isEmpty = false) :
    ∃ i z, P.info? t = some i ∧ i.size = (T.ty t).size ∧ i.bytes = (T.ty t).bytes ∧ i.zero = some z ∧ z.cells.size = i.size ∧ (∀ E, RepL E (T.ty t).zero z.cells.toList) ∧ ((T.ty t).isAgg = true → ∃ cs, z = .agg cs) ∧ ((T.ty t).isAgg = false → (T.ty t).size = 1 ∧ z.oneCell' = true) := by
  obtain ⟨i, h1, h2, h3, h4⟩ := (hT t).info hk
  obtain ⟨z, h5, h6, h7, h8, h9⟩ := h4 hz
  exact ⟨i, z, h1, h2, h3, h5, by rw [h6, h2], h9, h7, h8⟩
theorem known_of_agg {td : TD} (h : td.isAgg = true) : td.known = true := by
  unfold TD.isAgg at h; unfold TD.known; split at h <;> simp_all

theorem repT_nil {us : List Value} (h : RepT E [] us) : us = [] := by simpa [RepT] using h

theorem fresh_iff {β : Type} {f : Nat → Option β} {d : Nat} {x : Prop} : fresh (PA M) f d x ↔ f d = none ∧ x := by
  unfold fresh; cases f d <;> simp
theorem freshN_iff {f : Cl} {d : Nm} {x : Prop} : freshN (PA M) f d x ↔ f d = none ∧ x := by
  unfold freshN; cases f d <;> simp

theorem alloc_sound (hT : TabOK P T) (hI : WI F E objs cl w) {ρ : Operand → Value} {dst : Option Tmp} {t ty : TypeId} {pos : String} {after : Array Edge} {gd : Option (Nat × Bool)} {d : Nat} {k : AV → Os → Cl → Prop}
    (hk : (T.ty t).known = true) (hz : (T.ty t).zero.isEmpty = false) (hd : objs (ob d) = none) (h : k (.ref (ob d) 0) (upd objs (ob d) (.live (T.ty t).zero)) cl) :
    Does P F E ρ ⟨dst, .alloc t, ty, pos, after, gd⟩ w k := by
  obtain ⟨i, z, h1, h2, h3, h4, h5, h6, _, _⟩ := zero_of hT hk hz
  obtain ⟨hle, hW⟩ := hI.new_obj (t := t) (by unfold ob; omega) hd (h6 E)
  refine ⟨_, _, .pointer (some ⟨w.heap.size, 0, none⟩), _, _, _, h, hle, ?_, hW, .inl ?_⟩
  · simp only [Rep]; exact ⟨w.heap.size, upd_same _ _ _, rfl⟩
  · simp [execOp, Instr.alloc, zeroValue, typeInfo, h1, h4, newVar, newRow, Value.cells]

theorem box_sound (hI : WI F E objs cl w) {ρ : Operand → Value} {dst : Option Tmp} {t ty : TypeId} {pos : String} {after : Array Edge} {gd : Option (Nat × Bool)} {d : Nat} {k : AV → Os → Cl → Prop} {a : Operand} {x : AV}
    (hx : Rep E x (ρ a)) (h : cellsAs (PA M) (T.ty t) x fun cs => fresh (PA M) objs (ob d) (k (.ref (ob d) 0) (upd objs (ob d) (.live cs)) cl)) :
    Does P F E ρ ⟨dst, .box t a, ty, pos, after, gd⟩ w k := by
  obtain ⟨cs, h, hk, hr, hs, _⟩ := cellsAs_sound hx h
  obtain ⟨hd, h⟩ := fresh_iff.1 h
  obtain ⟨hle, hW⟩ := hI.new_obj (t := t) (by unfold ob; omega) hd hr
  refine ⟨_, _, .pointer (some ⟨w.heap.size, 0, none⟩), _, _, _, h, hle, ?_, hW, .inl ?_⟩
  · simp only [Rep]; exact ⟨w.heap.size, upd_same _ _ _, rfl⟩
  · simp [execOp, Instr.box, newVar, newRow]

theorem store_sound (hT : TabOK P T) (hI : WI F E objs cl w) {ρ : Operand → Value} {dst : Option Tmp} {t ty : TypeId} {pos : String} {after : Array Edge} {gd : Option (Nat × Bool)} {k : AV → Os → Cl → Prop} {a b : Operand} {ob i : Nat} {x : AV} {l : List AV}
    (ha : Rep E (.ref ob i) (ρ a)) (hx : Rep E x (ρ b)) (ho : objs ob = some (.live l))
    (h : cellsAs (PA M) (T.ty t) x fun cs => (PA M).chk (Nat.ble (i + cs.length) l.length) (k (.tup []) (upd objs ob (.live (setAt l i cs))) cl)) :
    Does P F E ρ ⟨dst, .store t a b, ty, pos, after, gd⟩ w k := by
  obtain ⟨cs, h, hk, hr, hs, hln, _⟩ := cellsAs_sound hx h
  simp only [PA_chk, Nat.ble_eq] at h
  obtain ⟨hfit, h⟩ := h
  simp only [Rep] at ha
  obtain ⟨g, hg, ha⟩ := ha
  obtain ⟨g', t', vs, h1, h2, h3, h4, h5⟩ := hI.live ob l ho
  rw [hg] at h1; cases h1
  have hvl := h3.length
  have hcl := hr.length
  have hW := hI.store (cs' := setAt l i cs) (vs := setAt vs i (ρ b).cells.toList) ho hg ⟨_, h2⟩ (repL_setAt h3 hr hfit)
  refine ⟨E, _, undef, _, _, _, h, E3.le.refl E, by simp only [Rep]; exact ⟨[], rfl, by simp [RepT]⟩, hW, .inr ⟨?_, rfl⟩⟩
  have hst := run_storeCells_at P g i t' (ρ b).cells.toList 0 vs.toArray w h2 (by simp at hcl ⊢; omega) (hr.all_one)
  simp only [Nat.add_zero] at hst
  have hse : (storeCells ⟨g, i, none⟩ (ρ b).cells.toList).run P w = .ok () (w.setRow g (setAt vs i (ρ b).cells.toList).toArray) := by
    rw [hst, setAt_eq _ _ _ (by simp at hcl ⊢; omega)]
  simp [execOp, Instr.storeAt, ha, Instr.sureAddr, storeVar, hT.sizeAt hk, hs, hse]

theorem capsV_sound {k : List AV → Os → Prop} : ∀ (vs : List AV) (us : List Value) (E : E3) (objs : Os), WI F E objs cl w → RepT E vs us → capsV (PA M) vs objs k →
    ∃ E' cs objs', k cs objs' ∧ E.le E' ∧ WI F E' objs' cl w ∧ RepL E' cs us ∧ cs.all AV.flat1 = true
  | [], us, E, objs, hI, hv, h => by
    have := repT_nil hv
    subst this
    exact ⟨E, [], objs, h, E3.le.refl E, hI, by simp [RepL], rfl⟩
  | v :: vs, us, E, objs, hI, hv, h => by
    simp only [RepT] at hv
    obtain ⟨u, r, rfl, h1, h2⟩ := hv
    unfold capsV at h
    split at h
    · rename_i o
      split at h
      · rename_i cs ho
        simp only [PA_lit] at h
        obtain ⟨hf, h⟩ := h
        obtain ⟨b, vs', g1, g2, g3, g4, g5⟩ := hI.freeze ho hf
        obtain ⟨E', cs', objs', k1, k2, k3, k4, k5⟩ := capsV_sound vs r _ _ g5 (h2.mono g4) h
        refine ⟨E', _, objs', k1, g4.trans k2, k3, ?_, by rw [List.all_cons, k5]; rfl⟩
        simp only [Rep] at h1
        obtain ⟨b', hb', rfl⟩ := h1
        rw [g1] at hb'; cases hb'
        simp only [RepL]
        refine ⟨_, _, rfl, rfl, rfl, ?_, k4⟩
        simp only [Rep]
        exact ⟨b, 0, rfl, hf, vs', g2.mono k2, fun j hj => by rw [Nat.zero_add]; exact S_some k2.S (get_isSome hj) (g3 j hj)⟩
      · rename_i cs ho
        obtain ⟨E', cs', objs', k1, k2, k3, k4, k5⟩ := capsV_sound vs r E objs hI h2 h
        refine ⟨E', _, objs', k1, k2, k3, ?_, by rw [List.all_cons, k5]; rfl⟩
        simp only [Rep] at h1
        obtain ⟨b', hb', rfl⟩ := h1
        obtain ⟨b, vs', g1, g2, g3, g4⟩ := hI.frz o cs ho
        obtain rfl : b = b' := by rw [g1] at hb'; exact Option.some.inj hb'
        simp only [RepL]
        refine ⟨_, _, rfl, rfl, rfl, ?_, k4⟩
        simp only [Rep]
        exact ⟨b, 0, rfl, g2, vs', g3.mono k2, fun j hj => by rw [Nat.zero_add]; exact S_some k2.S (get_isSome hj) (g4 j hj)⟩
      · cases h
    · rename_i cs
      obtain ⟨E', cs', objs', k1, k2, k3, k4, k5⟩ := capsV_sound vs r E objs hI h2 h
      refine ⟨E', _, objs', k1, k2, k3, ?_, by rw [List.all_cons, k5]; rfl⟩
      have h3 := h1.mono k2
      simp only [RepL]
      refine ⟨u, r, rfl, rfl, ?_, h3, k4⟩
      exact (rep_one_cell h3 rfl).1
    · cases h

theorem rep_nilw {w w' : Nat} {l : List AV} {v : Value} (h : Rep E (.lst .nil w l) v) : Rep E (.lst .ro w' l) v := by
  simp only [Rep] at h ⊢
  obtain ⟨a, len, cap, h1, h2, h3, h4, _, h6, _⟩ := h
  obtain ⟨_, _, rfl⟩ := h6 trivial
  exact ⟨a, len, cap, h1, h2, h3, h4, fun h => absurd rfl h, by simp, by simp⟩
theorem rep_demS1 {sh : Sh} {x : AV} {v : Value} (h : Rep E x v) : Rep E (demS1 sh x) v := by
  unfold demS1
  split
  · exact rep_nilw h
  · exact rep_nilw h
  · exact rep_dem1 h
theorem one_demS1 {sh : Sh} {x : AV} (h : x.one = true) : (demS1 sh x).one = true := by
  unfold demS1
  split <;> first | rfl | exact one_dem1 h
theorem repL_demSL : ∀ {shs : List Sh} {l : List AV} {vs : List Value}, RepL E l vs → RepL E (demSL shs l) vs
  | [], l, vs, h => by simpa [demSL] using repL_dem1 h
  | sh :: shs, [], vs, h => by simpa [demSL] using h
  | sh :: shs, x :: l, vs, h => by
    simp only [RepL, demSL] at h ⊢
    obtain ⟨v, r, rfl, h1, h2, h3, h4⟩ := h
    exact ⟨v, r, rfl, one_demS1 h1, h2, rep_demS1 h3, repL_demSL h4⟩
theorem rep_demS {sh : Sh} {x : AV} {v : Value} (h : Rep E x v) : Rep E (demS sh x) v := by
  unfold demS
  split
  · rename_i l
    simp only [Rep] at h
    obtain ⟨vs, rfl, h⟩ := h
    split
    · simp only [Rep]; exact ⟨vs, rfl, repL_demSL h⟩
    · simp only [Rep]; exact ⟨vs, rfl, repL_dem1 h⟩
  · exact rep_demS1 h

theorem SrcE.set {sz : Nat} {r : List AV} {ns : List Value} (h : SrcE E sz r ns) {i : Nat} (hi : i < r.length) {x : AV} {u : Value} (hx : x.flat = true) (hr : Rep E x u) (hs : u.cells.size = sz) :
    SrcE E sz (r.set i x) (setAt ns (i * sz) u.cells.toList) := by
  have hfit : i * sz + u.cells.toList.length ≤ ns.length := by
    rw [h.size]
    have : (i + 1) * sz ≤ r.length * sz := Nat.mul_le_mul_right _ hi
    rw [Nat.add_mul] at this
    simp [hs]
    omega
  refine ⟨by simp [setAt_length, h.size], fun k y hy => ?_⟩
  rw [List.getElem?_set] at hy
  split at hy
  · rename_i e
    subst e
    injection hy with hy
    subst hy
    refine ⟨hx, u, hr, hs, fun j hj => ?_⟩
    rw [setAt_get _ _ _ _ hfit, if_pos ⟨by omega, by simp [hs]; omega⟩]
    simp
  · rename_i hne
    obtain ⟨h1, v, h2, h3, h4⟩ := h.get k y hy
    refine ⟨h1, v, h2, h3, fun j hj => ?_⟩
    rw [setAt_get _ _ _ _ hfit, if_neg, h4 j hj]
    simp only [Array.length_toList, hs]
    rintro ⟨h5, h6⟩
    rcases Nat.lt_or_gt_of_ne hne with h7 | h7
    · have : (i + 1) * sz ≤ k * sz := Nat.mul_le_mul_right _ h7
      rw [Nat.add_mul] at this
      omega
    · have : (k + 1) * sz ≤ i * sz := Nat.mul_le_mul_right _ h7
      rw [Nat.add_mul] at this
      omega
theorem SrcR.set {sz : Nat} {r : List AV} {ns : List Value} (h : SrcR E sz r ns) {i : Nat} (hi : i < r.length) {x : AV} {u : Value} (hx : x.flat = true ∨ holdsRef x = true) (hr : Rep E x u) (hs : u.cells.size = sz) :
    SrcR E sz (r.set i x) (setAt ns (i * sz) u.cells.toList) := by
  have hfit : i * sz + u.cells.toList.length ≤ ns.length := by
    rw [h.size]
    have : (i + 1) * sz ≤ r.length * sz := Nat.mul_le_mul_right _ hi
    rw [Nat.add_mul] at this
    simp [hs]
    omega
  refine ⟨by simp [setAt_length, h.size], fun k y hy => ?_⟩
  rw [List.getElem?_set] at hy
  split at hy
  · rename_i e
    subst e
    injection hy with hy
    subst hy
    refine ⟨hx, u, hr, hs, fun j hj => ?_⟩
    rw [setAt_get _ _ _ _ hfit, if_pos ⟨by omega, by simp [hs]; omega⟩]
    simp
  · rename_i hne
    obtain ⟨h1, v, h2, h3, h4⟩ := h.get k y hy
    refine ⟨h1, v, h2, h3, fun j hj => ?_⟩
    rw [setAt_get _ _ _ _ hfit, if_neg, h4 j hj]
    simp only [Array.length_toList, hs]
    rintro ⟨h5, h6⟩
    rcases Nat.lt_or_gt_of_ne hne with h7 | h7
    · have : (i + 1) * sz ≤ k * sz := Nat.mul_le_mul_right _ h7
      rw [Nat.add_mul] at this
      omega
    · have : (k + 1) * sz ≤ i * sz := Nat.mul_le_mul_right _ h7
      rw [Nat.add_mul] at this
      omega
theorem holdsRef_demS {sh : Sh} {v : AV} (h : holdsRef v = true) : holdsRef (demS sh v) = true := by
  cases v <;> first | (cases h; done) | skip
  cases sh <;> rfl
theorem zero_rep {td : TD} {isz : Nat} {z : Value} (z2 : isz = td.size) (z5 : z.cells.size = isz) (z6 : ∀ E, RepL E td.zero z.cells.toList) (z7 : td.isAgg = true → ∃ cs, z = .agg cs) (z8 : td.isAgg = false → td.size = 1 ∧ z.oneCell' = true) : Rep E (zeroOf td) z := by
  unfold zeroOf
  cases ha : td.isAgg with
  | true =>
    obtain ⟨cs, rfl⟩ := z7 ha
    simp only [cond_true, Rep]
    exact ⟨cs.toList, by simp, by simpa [Value.cells] using z6 E⟩
  | false =>
    obtain ⟨hs1, hzo⟩ := z8 ha
    have hl := (z6 E).length
    have hone : td.zero.length = 1 := by rw [hl]; simp [z5, z2, hs1]
    obtain ⟨x0, hx0⟩ := List.length_eq_one_iff.1 hone
    have hr := z6 E
    rw [hx0] at hr ⊢
    simp only [RepL] at hr
    obtain ⟨v, r, hv0, o1, o2, o3, rfl⟩ := hr
    simp only [cond_false, List.headD_cons]
    have hzc : z.cells = #[z] := by cases z <;> simp_all [Value.cells, Value.oneCell']
    rw [hzc] at hv0
    injection hv0 with hv0 _
    rw [hv0]
    exact o3
theorem elemsV_sound {uq : Bool} {td : TD} {ρ : Operand → Value} {k : List AV → Prop} : ∀ (ps : List (Nat × Operand)) (vs z : List AV) (zc : Array Value), SrcR E td.size z zc.toList → RepT E vs (ps.map fun p => ρ p.2) → elemsV (PA M) uq td z ps vs k →
    ∃ z' zc', k z' ∧ SrcR E td.size z' zc'.toList ∧ (uq = false → z.all AV.flat = true → z'.all AV.flat = true) ∧ z'.length = z.length ∧ Instr.fill (fun i => some (i * td.size, td.size)) zc (ps.map fun p => (p.1, ρ p.2)) = some zc'
  | [], vs, z, zc, hz, hv, h => by
    cases vs with
    | nil => exact ⟨z, zc, h, hz, fun _ h => h, rfl, rfl⟩
    | cons v vs => simp [RepT] at hv
  | (i, x) :: ps, vs, z, zc, hz, hv, h => by
    cases vs with
    | nil => simp [RepT] at hv
    | cons v vs =>
      simp only [List.map_cons, RepT] at hv
      obtain ⟨u, r, he, hv1, hv2⟩ := hv
      injection he with he1 he2
      subst he1; subst he2
      simp only [elemsV, PA_lit, Bool.and_eq_true, Bool.or_eq_true, Nat.blt_eq] at h
      obtain ⟨⟨hf, hi⟩, h⟩ := h
      obtain ⟨cs, h, hk, hcs, hsz, hln, _⟩ := cellsAs_sound (rep_demS (sh := td.sh) hv1) h
      have hset := hz.set hi (hf.imp id fun h => holdsRef_demS h.2) (rep_demS (sh := td.sh) hv1) hsz
      obtain ⟨z', zc', h1, h2, hff, h3, h4⟩ := elemsV_sound ps vs _ ((setAt zc.toList (i * td.size) (ρ x).cells.toList).toArray) (by simpa using hset) hv2 h
      refine ⟨z', zc', h1, h2, fun hu hzf => hff hu ?_, by simpa using h3, ?_⟩
      · rw [List.all_eq_true] at hzf ⊢
        intro y hy
        rcases List.mem_or_eq_of_mem_set hy with hy | rfl
        · exact hzf y hy
        · rcases hf with hf | hf
          · exact hf
          · rw [hu] at hf; cases hf.1
      simp only [List.map_cons, Instr.fill]
      have hfit : i * td.size + (ρ x).cells.size ≤ zc.size := by
        have h5 := hz.size
        have : (i + 1) * td.size ≤ z.length * td.size := Nat.mul_le_mul_right _ hi
        rw [Nat.add_mul] at this
        simp at h5
        omega
      have hb' : ¬ (((ρ x).cells.size ≠ td.size || decide (i * td.size + (ρ x).cells.size > zc.size)) = true) := by
        simp [hsz]; omega
      have hf := foldl_setAt (ρ x).cells.toList (i * td.size) 0 zc
      simp only [Nat.add_zero] at hf
      have hf' : (Array.foldl (fun cs (y : Value × Nat) => cs.setIfInBounds (i * td.size + y.2) y.1) zc (ρ x).cells.zipIdx) = (setAt zc.toList (i * td.size) (ρ x).cells.toList).toArray := by
        rw [← hf, ← Array.foldl_toList]
        simp
      rw [if_neg hb', hf']
      exact h4

theorem buildSlice_sound (hT : TabOK P T) (hI : WI F E objs cl w) {ρ : Operand → Value} {dst : Option Tmp} {t e ty len : Nat} {pos : String} {after : Array Edge} {gd : Option (Nat × Bool)} {d : Nat} {k : AV → Os → Cl → Prop} {parts : Array (Nat × Operand)} {vs : List AV}
    (ht : (T.ty t).k = .slice e) (hv : RepT E vs (parts.toList.map fun p => ρ p.2)) (hlen0 : 0 < len) (h1 : len * (T.ty e).size ≤ 16777216) (h2 : 0 < (T.ty e).size) (hk : (T.ty e).known = true) (hz : (T.ty e).zero.isEmpty = false) (hzf : (demS (T.ty e).sh (zeroOf (T.ty e))).flat = true)
    (h : elemsV (PA M) (T.uq d) (T.ty e) (List.replicate len (demS (T.ty e).sh (zeroOf (T.ty e)))) parts.toList vs fun es => freshN (PA M) cl (.T d) (bif T.uq d then k (.sq (.T d) (T.ty e).size) objs (updN cl (.T d) (.row es)) else k (.lst (.own (.T d)) (T.ty e).size es) objs (updN cl (.T d) .own))) :
    Does P F E ρ ⟨dst, .buildSlice t len parts, ty, pos, after, gd⟩ w k := by
  obtain ⟨i, z, z1, z2, z3, z4, z5, z6, z7, z8⟩ := zero_of hT hk hz
  have hzr : Rep E (zeroOf (T.ty e)) z := by
    unfold zeroOf
    cases ha : (T.ty e).isAgg with
    | true =>
      obtain ⟨cs, rfl⟩ := z7 ha
      simp only [cond_true, Rep]
      exact ⟨cs.toList, by simp, by simpa [Value.cells] using z6 E⟩
    | false =>
      obtain ⟨hs1, hzo⟩ := z8 ha
      have hl := (z6 E).length
      have hone : (T.ty e).zero.length = 1 := by rw [hl]; simp [z5, z2, hs1]
      obtain ⟨x0, hx0⟩ := List.length_eq_one_iff.1 hone
      have hr := z6 E
      rw [hx0] at hr ⊢
      simp only [RepL] at hr
      obtain ⟨v, r, hv0, o1, o2, o3, rfl⟩ := hr
      simp only [cond_false, List.headD_cons]
      have hzc : z.cells = #[z] := by cases z <;> simp_all [Value.cells, Value.oneCell']
      rw [hzc] at hv0
      injection hv0 with hv0 _
      rw [hv0]
      exact o3
  have hz0 : SrcE E (T.ty e).size (List.replicate len (demS (T.ty e).sh (zeroOf (T.ty e)))) ((Array.range (len * (T.ty e).size)).map (fun j => z.cells[j % z.cells.size]!)).toList := by
    refine ⟨by simp, fun j x hx => ?_⟩
    rw [List.getElem?_replicate] at hx
    split at hx
    · rename_i hj
      injection hx with hx
      subst hx
      refine ⟨hzf, z, rep_demS hzr, by rw [z5, z2], fun q hq => ?_⟩
      have hlt : j * (T.ty e).size + q < len * (T.ty e).size := by
        have : (j + 1) * (T.ty e).size ≤ len * (T.ty e).size := Nat.mul_le_mul_right _ hj
        rw [Nat.add_mul] at this
        omega
      have hm : (j * (T.ty e).size + q) % z.cells.size = q := by
        rw [z5, z2, Nat.add_comm, Nat.add_mul_mod_self_right, Nat.mod_eq_of_lt hq]
      have hql : q < z.cells.size := by rw [z5, z2]; exact hq
      simp [hlt, hm, hql]
    · cases hx
  obtain ⟨es, ec, g1, g2, gf, g3, g4⟩ := elemsV_sound parts.toList vs _ _ hz0.toR hv h
  obtain ⟨hd, g1⟩ := freshN_iff.1 g1
  have hel : es.length = len := by simpa using g3
  have hec : ec.size = len * (T.ty e).size := by have := g2.size; rw [hel] at this; simpa using this
  have hmax : len ≤ maxLen := by
    have : len ≤ len * (T.ty e).size := Nat.le_mul_of_pos_right _ h2
    simp only [maxLen]; omega
  obtain ⟨E', x', cl', g1', q1, q2, q3⟩ : ∃ E' x' cl', k x' objs cl' ∧ E.le E' ∧ Rep E' x' (.slice (some ⟨w.heap.size, 0, none⟩) len len) ∧ WI F E' objs cl' (w.alloc (.cells ec e)) := by
    cases hb : T.uq d with
    | true =>
      rw [hb] at g1
      obtain ⟨E', q1, q2, q3⟩ := hI.new_rowR (q := .T d) (e := e) (N := len) (cap := len) hd h2 (Nat.le_refl _) hmax hec hel (by
        rw [List.take_of_length_le (by simp [hec])]
        exact g2)
      exact ⟨E', _, _, g1, q1, q2, q3⟩
    | false =>
      rw [hb] at g1
      obtain ⟨E', q1, q2, q3⟩ := hI.new_row (q := .T d) (e := e) (N := len) (cap := len) hd h2 (Nat.le_refl _) hmax hec hel (by
        rw [List.take_of_length_le (by simp [hec])]
        exact g2.toE (gf hb (by rw [List.all_eq_true]; intro y hy; rw [(List.mem_replicate.1 hy).2]; exact hzf)))
      exact ⟨E', _, _, g1, q1, q2, q3⟩
  refine ⟨E', _, _, _, _, _, g1', q1, q2, q3, .inl ?_⟩
  have hu := hT.slice ht
  have hsz := hT.sizeAt hk w
  have hn : ¬ (16777216 < len * (T.ty e).size) := by omega
  have hfill : Instr.fill (fun i => some (i * (T.ty e).size, (T.ty e).size)) ((Array.range (len * (T.ty e).size)).map (fun j => z.cells[j % z.cells.size]!)) (parts.map fun (i, x) => (i, ρ x)).toList = some ec := by
    rw [← g4]; simp
  have h0 : ¬ len * (T.ty e).size = 0 := Nat.ne_of_gt (Nat.mul_pos hlen0 h2)
  simp only [execOp, Instr.buildSlice, Sem.run_bind, run_underlying hu, Result.andThen_ok, hsz]
  simp [hn, h0, zeroValue, typeInfo, z1, z4, newRow] at hfill ⊢
  simp [hfill]

theorem buildSlice0_sound (hT : TabOK P T) (hI : WI F E objs cl w) {ρ : Operand → Value} {dst : Option Tmp} {t e ty : Nat} {pos : String} {after : Array Edge} {gd : Option (Nat × Bool)} {d : Nat} {k : AV → Os → Cl → Prop}
    (ht : (T.ty t).k = .slice e) (h2 : 0 < (T.ty e).size) (hk : (T.ty e).known = true) (h : freshN (PA M) cl (.T d) (bif T.uq d then k (.sq (.T d) (T.ty e).size) objs (updN cl (.T d) (.row [])) else k (.lst (.own (.T d)) (T.ty e).size []) objs (updN cl (.T d) .own))) :
    Does P F E ρ ⟨dst, .buildSlice t 0 #[], ty, pos, after, gd⟩ w k := by
  obtain ⟨hd, g1⟩ := freshN_iff.1 h
  obtain ⟨E', x', cl', g1', q1, q2, q3⟩ : ∃ E' x' cl', k x' objs cl' ∧ E.le E' ∧ Rep E' x' (.slice (some ⟨w.heap.size, 0, none⟩) 0 0) ∧ WI F E' objs cl' (w.alloc (.cells #[] e)) := by
    cases hb : T.uq d with
    | true =>
      rw [hb] at g1
      obtain ⟨E', q1, q2, q3⟩ := hI.new_rowR (q := .T d) (arr := #[]) (e := e) (N := 0) (cap := 0) (r := []) hd h2 (Nat.le_refl _) (Nat.zero_le _) (by simp) rfl (by simpa using SrcR.nil E (T.ty e).size)
      exact ⟨E', _, _, g1, q1, q2, q3⟩
    | false =>
      rw [hb] at g1
      obtain ⟨E', q1, q2, q3⟩ := hI.new_row (q := .T d) (arr := #[]) (e := e) (N := 0) (cap := 0) (r := []) hd h2 (Nat.le_refl _) (Nat.zero_le _) (by simp) rfl (by simpa using SrcE.nil E (T.ty e).size)
      exact ⟨E', _, _, g1, q1, q2, q3⟩
  refine ⟨E', _, _, _, _, _, g1', q1, q2, q3, .inl ?_⟩
  have hu := hT.slice ht
  have hsz := hT.sizeAt hk w
  simp only [execOp, Instr.buildSlice, Sem.run_bind, run_underlying hu, Result.andThen_ok, hsz]
  simp [newRow, Instr.fill]
  congr 2
  exact Array.eq_empty_of_size_eq_zero (by simp)

theorem bytes_sound (hT : TabOK P T) (hI : WI F E objs cl w) {ρ : Operand → Value} {dst : Option Tmp} {s t ty : Nat} {pos : String} {after : Array Edge} {gd : Option (Nat × Bool)} {a : Operand} {k : AV → Os → Cl → Prop} {b : List UInt8}
    (hx : Rep E (.str b) (ρ a)) (hu : isU8 T t = true) (hk : (T.ty s).known = true) (h : k (.lst .ro 1 (encB b)) objs cl) : Does P F E ρ ⟨dst, .convert s t a, ty, pos, after, gd⟩ w k := by
  obtain ⟨e, _, h1, h2, _⟩ := isU8_spec hT hu
  obtain ⟨ds, hs⟩ := known_some hT hk
  simp only [Rep] at hx
  obtain ⟨hx, hlen⟩ := hx
  have hsz : (ByteArray.mk b.toArray).size = b.length := by simp [ByteArray.size]
  have hrun := Lib.run_convert_string_bytes w s t e ⟨b.toArray⟩ hs h1 h2
  have hge := grownCap_ge w (ByteArray.mk b.toArray).size 0 e
  have hcm : grownCap w (ByteArray.mk b.toArray).size 0 e ≤ maxLen := grownCap_le_maxLen w _ 0 e (by rw [hsz]; exact hlen)
  generalize hW : Lib.bytesWorld w e ⟨b.toArray⟩ = W at hrun
  have hold : ∀ j, j < w.heap.size → W.heap[j]? = w.heap[j]? := fun j hj => by rw [← hW]; exact Lib.bytesWorld_at_old w e _ j hj
  have hstep : Step F W := by
    refine ⟨?_, ?_, ?_, ?_, fun i hi ho => ?_⟩
    · rw [← hW]; exact hI.step.os
    · rw [← hW]; exact hI.step.tape
    · rw [← hW]; exact hI.step.output
    · rw [← hW, Lib.bytesWorld_size]; have := hI.step.size; omega
    · rw [hold i (by have := hI.step.size; omega)]; exact hI.step.block i hi ho
  have hW1 := hI.world hstep (fun b' i v hv => by
      have hc := hI.agree b' i v hv
      rw [cell_heap (hold b' (by have := World.block_lt_of_cell? w _ hc; simpa using this))]
      exact hc)
    (fun o cs b' ho hm => hold b' (hI.lt_of_live ho hm)) (fun q v s' g hq hk' hg => hold g (hI.lt_of_claim hq hk' hg))
  have hcell : ∀ (j : Nat) (v : Value), (b.map fun c => Value.int .u8 (c.toNat : Int))[j]? = some v → W.cell? ⟨w.heap.size, 0 + j, none⟩ = some v := by
    intro j v hj
    have hjl : j < b.length := by have := (List.getElem?_eq_some_iff.1 hj).1; simpa using this
    rw [Nat.zero_add, ← hW, Lib.bytesWorld_cell w e _ j (by rw [hsz]; exact hjl)]
    rw [← hj]
    simp [hjl, List.getD]
  have hA := hW1.addS (b := w.heap.size) (lo := 0) (vs := b.map fun c => Value.int .u8 (c.toNat : Int)) (hI.own_new (Nat.le_refl _)) hcell
    (fun o cs ho hm => by have := hI.lt_of_live ho hm; omega) (fun q' v s' t n xs hq' hk' hg _ _ => by have := hI.lt_of_claim hq' hk' hg; omega) (fun q' l v s' hq' hk' hg => by have := hI.lt_of_claim (isAl_row hq') hk' hg; omega)
  refine ⟨_, _, .slice (some ⟨w.heap.size, 0, none⟩) (ByteArray.mk b.toArray).size (grownCap w (ByteArray.mk b.toArray).size 0 e), _, _, W, h, addS_le E _ _ _, ?_, hA, .inl ?_⟩
  · simp only [Rep]
    refine ⟨_, _, _, rfl, by rw [hsz]; simp [encB], hge, hcm, fun _ => ⟨w.heap.size, 0, rfl, ?_⟩, by simp, by simp⟩
    refine SrcE.repE (srcE_enc b) fun j hj => ?_
    exact addS_at (fun i v hv => hW1.agree _ i v hv) hcell j hj
  · simp [execOp, hx, hrun]

theorem src_of_list (hI : WI F E objs cl w) {m : Md} {sz : Nat} {r : List AV} {y : Value} (hy : Rep E (.lst m sz r) y) (hsz : 0 < sz) : ∃ news, Src P w sz r.length y news ∧ SrcE E sz r news := by
  simp only [Rep] at hy
  obtain ⟨a, len, cap, rfl, hl, hlc, hcm, he1, _, _⟩ := hy
  subst hl
  cases hr : r with
  | nil =>
    subst hr
    refine ⟨[], ⟨fun W _ => by simp [Builtin.lenOf], fun W _ => ?_, by simp, by simp⟩, SrcE.nil E sz⟩
    cases a <;> simp [Builtin.firstCells, loadCells, loadCellsFrom]
  | cons x r0 =>
    rw [← hr]
    obtain ⟨b, off, rfl, hE⟩ := he1 (by rw [hr]; simp)
    obtain ⟨ns, n1, n2⟩ := srcE_of_repE hE
    refine ⟨ns, ⟨fun W _ => by simp [Builtin.lenOf], fun W hW => ?_, n1.size, n1.one hsz⟩, n1⟩
    refine run_firstCells_some W sz r.length _ _ _ ns n1.size fun j v hj => ?_
    rw [add_off]
    have hc := hI.agree b (off + j) v ((n2 j (List.getElem?_eq_some_iff.1 hj).1).trans hj)
    simpa [World.cell?, hW] using hc
theorem src_of_nil {wd : Nat} {r : List AV} {y : Value} (sz : Nat) (hy : Rep E (.lst .nil wd r) y) : Src P w sz r.length y [] ∧ SrcE E sz r [] := by
  simp only [Rep] at hy
  obtain ⟨a, len, cap, rfl, hl, _, _, _, hn, _⟩ := hy
  obtain ⟨rfl, rfl, rfl⟩ := hn trivial
  simp only [List.length_nil] at hl
  subst hl
  exact ⟨⟨fun W _ => by simp [Builtin.lenOf], fun W _ => by simp [Builtin.firstCells], by simp, by simp⟩, SrcE.nil E sz⟩
theorem src_of_str {s : List UInt8} {y : Value} (hy : Rep E (.str s) y) : Src P w 1 (encB s).length y (s.map fun b => .int .u8 (b.toNat : Int)) ∧ SrcE E 1 (encB s) (s.map fun b => .int .u8 (b.toNat : Int)) := by
  simp only [Rep] at hy
  obtain ⟨rfl, _⟩ := hy
  have hsz : (ByteArray.mk s.toArray).size = s.length := by simp [ByteArray.size]
  refine ⟨⟨fun W _ => by simp [Builtin.lenOf, hsz, encB], fun W _ => ?_, by simp [encB], ?_⟩, srcE_enc s⟩
  · simp only [Builtin.firstCells]
    have : (ByteArray.mk s.toArray).extract 0 (encB s).length = ⟨s.toArray⟩ := by
      apply ByteArray.ext
      rw [ByteArray.data_extract]
      simp [encB]
    rw [this]
    simp
  · intro u hu
    simp only [List.mem_map] at hu
    obtain ⟨b, _, rfl⟩ := hu
    rfl

theorem rep_nil {wd : Nat} {l : List AV} {s : Value} (hs : Rep E (.lst .nil wd l) s) : s = .slice none 0 0 ∧ l = [] := by
  simp only [Rep] at hs
  obtain ⟨a, len, cap, rfl, hl, _, _, _, hn, _⟩ := hs
  obtain ⟨rfl, rfl, rfl⟩ := hn trivial
  simp only [List.length_nil] at hl
  subst hl
  exact ⟨rfl, rfl⟩
theorem src_of_row (hI : WI F E objs cl w) {q : Nm} {sz : Nat} {l : List AV} {v : Value} (hv : Rep E (.sq q sz) v) (hq : cl q = some (.row l)) : ∃ news, Src P w sz l.length v news ∧ SrcR E sz l news := by
  simp only [Rep] at hv
  obtain ⟨hk, _⟩ := hv
  obtain ⟨t, xs, k1, k2, k3, k4⟩ := row_block hI hq hk
  refine ⟨xs, ⟨fun W _ => ?_, fun W hW => ?_, k2.size, fun u hu => ?_⟩, k2⟩
  · rcases k1.2 with ⟨rfl, h0⟩ | ⟨g, cap, cur, rfl, _⟩
    · simp [Builtin.lenOf, h0]
    · simp [Builtin.lenOf]
  · rcases k1.2 with ⟨rfl, h0⟩ | ⟨g, cap, cur, rfl, _⟩
    · have : xs = [] := List.eq_nil_of_length_eq_zero (by rw [k1.1, h0]; simp)
      subst this
      simp [Builtin.firstCells]
    · refine run_firstCells_some W sz l.length _ _ _ xs k1.1 fun j v hj => ?_
      have := k1.cells (g := g) rfl j v hj
      simpa [World.cell?, hW] using this
  · obtain ⟨j, hj⟩ := List.getElem?_of_mem hu
    have hjl : j < l.length * sz := by rw [← k1.1]; exact (List.getElem?_eq_some_iff.1 hj).1
    have hi : j / sz < l.length := Nat.div_lt_of_lt_mul (by rw [Nat.mul_comm]; exact hjl)
    obtain ⟨h1, u', h2, h3, h4⟩ := k2.get (j / sz) l[j / sz] (by simp [hi])
    have hm : j % sz < sz := Nat.mod_lt _ k3
    have e := h4 (j % sz) hm
    rw [Nat.mul_comm, Nat.div_add_mod, hj] at e
    rcases h1 with h1 | h1
    · exact (flat_cells h1 h2).1.all_one u (List.mem_of_getElem? (i := j % sz) (by simpa using e.symm))
    · have ho : (l[j / sz]).one = true := by
        generalize l[j / sz] = x at h1
        cases x <;> first | rfl | cases h1
      obtain ⟨g1, g2⟩ := rep_one_cell h2 ho
      rw [g2] at e
      have : u = u' := by
        cases hjm : j % sz with
        | zero => rw [hjm] at e; simpa using e
        | succ n => rw [hjm] at e; simp at e
      rw [this]; exact g1
theorem srcV_sound (hI : WI F E objs cl w) {sz : Nat} {y : AV} {v : Value} {k : List AV → Prop} (hv : Rep E y v) (hsz : 0 < sz) (h : srcV (PA M) sz y cl k) :
    ∃ r news, k r ∧ Src P w sz r.length v news ∧ SrcE E sz r news := by
  unfold srcV at h
  split at h
  · rename_i m' w' r
    simp only [PA_lit, Bool.or_eq_true, Nat.beq_eq] at h
    obtain ⟨hw, h⟩ := h
    rcases hw with rfl | hm
    · obtain ⟨news, h1, h2⟩ := src_of_list hI hv hsz
      exact ⟨r, news, h, h1, h2⟩
    · have : m' = .nil := by cases m' <;> simp_all [isNil]
      subst this
      have h0 := src_of_nil (P := P) (w := w) sz hv
      exact ⟨r, [], h, h0.1, h0.2⟩
  · rename_i q w'
    simp only [PA_lit, PA_asRow, Nat.beq_eq] at h
    obtain ⟨rfl, r, hq, hf, h⟩ := h
    obtain ⟨news, h1, h2⟩ := src_of_row hI hv hq
    exact ⟨r, news, h, h1, h2.toE hf⟩
  · exact h.elim
theorem appV_sound (hT : TabOK P T) (hI : WI F E objs cl w) {ρ : Operand → Value} {dst : Option Tmp} {ty : TypeId} {pos : String} {after : Array Edge} {gd : Option (Nat × Bool)} {k : AV → Os → Cl → Prop} {args : Array Operand} {ats : Array TypeId} {x y : AV} {t u : Nat} {ts : List Nat} {d : Nat} {uq : Bool}
    (hv : RepT E [x, y] (args.toList.map ρ)) (hts : ats.toList = t :: u :: ts) {e : Nat} (ht : (T.ty t).k = .slice e) {n : Nat} {r : List AV} (hr : r.length = n)
    (hu : (∃ d, P.underlying u = some d ∧ ((∃ e2, d = .slice e2) ∨ d = .string))) (hk : (T.ty e).known = true) (hz : (T.ty e).zero.isEmpty = false) (hsz : 0 < (T.ty e).size) (hby : 0 < (T.ty e).bytes)
    (hsrc : ∀ v, Rep E y v → ∃ news, Src P w (T.ty e).size r.length v news ∧ SrcE E (T.ty e).size r news)
    (h : appV (PA M) uq d (T.ty e).size x r objs cl (fun m y => (PA M).chk (decide ((m + n) * (T.ty e).bytes ≤ 140737488355328)) y) k) :
    Does P F E ρ ⟨dst, .call { callee := .builtin .append, args := args, argTypes := ats }, ty, pos, after, gd⟩ w k := by
  obtain ⟨sv, yv, he, hxr, hyr⟩ := repT_two hv
  obtain ⟨d', hd, hdd⟩ := hu
  obtain ⟨i, z, z1, z2, z3, z4, z5, _, _, _⟩ := zero_of hT hk hz
  obtain ⟨news, s1, s2⟩ := hsrc yv hyr
  rw [← z2] at s1 s2 hsz h
  rw [← z3] at hby h
  subst hr
  have hargs : args.map ρ = #[sv, yv] := by
    apply Array.ext'
    simpa using he
  have h0 : ∀ {v w'}, (Builtin.append_ #[t, u] ty #[sv, yv]).run P w = .ok v w' → (execOp ρ ⟨dst, .call { callee := .builtin .append, args := args, argTypes := ats }, ty, pos, after, gd⟩).run P w = .ok (.value v) w' := by
    intro v w' hrun
    have e1 : Builtin.append_ ats ty #[sv, yv] = Builtin.append_ #[t, u] ty #[sv, yv] := by
      have g0 : ats[0]? = some t := by rw [← Array.getElem?_toList, hts]; rfl
      have g1 : ats[1]? = some u := by rw [← Array.getElem?_toList, hts]; rfl
      unfold Builtin.append_
      simp only [g0, g1]
      rfl
    simp [execOp, resolve, invoke, builtin, hargs, e1, hrun]
  unfold appV at h
  split at h
  · obtain ⟨rfl, rfl⟩ := rep_nil hxr
    simp only [PA_chk, decide_eq_true_eq, Nat.zero_add] at h
    obtain ⟨hb, h⟩ := h
    cases huq : uq with
    | true =>
      rw [huq] at h
      obtain ⟨hd', h⟩ := freshN_iff.1 h
      obtain ⟨E', v, w', g1, g2, g3, g4⟩ := app_noneR hI (hT.slice ht) hd hdd z1 z4 z5 hsz hby hd' s1 s2.toR hb
      exact ⟨E', _, v, objs, _, w', h, g2, g3, g4, .inl (h0 g1)⟩
    | false =>
      rw [huq] at h
      obtain ⟨hd', h⟩ := freshN_iff.1 h
      obtain ⟨E', v, w', g1, g2, g3, g4⟩ := app_none hI (hT.slice ht) hd hdd z1 z4 z5 hsz hby hd' s1 s2 hb
      exact ⟨E', _, v, objs, _, w', h, g2, g3, g4, .inl (h0 g1)⟩
  · rename_i q wd l
    simp only [PA_chk, PA_lit, decide_eq_true_eq, Bool.and_eq_true, Nat.beq_eq] at h
    obtain ⟨hb, ⟨rfl, hq⟩, h⟩ := h
    obtain ⟨hd', h⟩ := freshN_iff.1 h
    have hq : cl q = some .own := by unfold isOwn at hq; split at hq <;> simp_all
    obtain ⟨E', v, w', g1, g2, g3, g4⟩ := app_own hI (hT.slice ht) hd hdd z1 z4 z5 hsz hby hq hd' hxr s1 s2 hb
    exact ⟨E', _, v, objs, _, w', h, g2, g3, g4, .inl (h0 g1)⟩
  · rename_i q wd
    simp only [PA_asRow, PA_chk, PA_lit, decide_eq_true_eq, Nat.beq_eq] at h
    obtain ⟨l, hq, hb, rfl, h⟩ := h
    obtain ⟨hd', h⟩ := freshN_iff.1 h
    obtain ⟨E', v, w', g1, g2, g3, g4⟩ := app_row hI (hT.slice ht) hd hdd z1 z4 z5 hsz hby hq hd' hxr s1 s2.toR hb
    exact ⟨E', _, v, objs, _, w', h, g2, g3, g4, .inl (h0 g1)⟩
  · exact h.elim

/-! Whole rows: looked into and written. -/
theorem row_some (hI : WI F E objs cl w) {q : Nm} {sz : Nat} {l : List AV} {v : Value} (hv : Rep E (.sq q sz) v) (hq : cl q = some (.row l)) :
    (v = .slice none 0 0 ∧ l = []) ∨ ∃ g cap, v = .slice (some ⟨g, 0, none⟩) l.length cap := by
  simp only [Rep] at hv
  obtain ⟨hk, _⟩ := hv
  obtain ⟨t, xs, k1, k2, k3, k4⟩ := row_block hI hq hk
  rcases k1.2 with ⟨rfl, h0⟩ | ⟨g, cap, cur, rfl, _⟩
  · exact .inl ⟨rfl, List.eq_nil_of_length_eq_zero h0⟩
  · exact .inr ⟨g, cap, rfl⟩
theorem indexRow_sound (hT : TabOK P T) (hI : WI F E objs cl w) {ρ : Operand → Value} {dst : Option Tmp} {t e ty : TypeId} {pos : String} {after : Array Edge} {gd : Option (Nat × Bool)} {k : AV → Os → Cl → Prop} {a b : Operand} {q : Nm} {wd : Nat} {ik : IntKind} {n : Int} {l : List AV}
    (ha : Rep E (.sq q wd) (ρ a)) (hx : Rep E (.int ik n) (ρ b)) (ht : (T.ty t).k = .slice e) (hw : wd = (T.ty e).size) (hk : (T.ty e).known = true) (hq : cl q = some (.row l)) (h0 : 0 ≤ n) (h1 : n < (l.length : Int))
    (h : k (.ua q wd n.toNat 0) objs cl) : Does P F E ρ ⟨dst, .indexAddr t a b, ty, pos, after, gd⟩ w k := by
  have hu := hT.slice ht
  have hsz := hT.sizeAt hk w
  rcases row_some hI ha hq with ⟨e1, rfl⟩ | ⟨g, cap, e1⟩
  · simp at h1; omega
  · simp only [Rep] at ha hx
    refine ⟨E, _, .pointer (some ⟨g, n.toNat * wd + 0, none⟩), objs, cl, w, h, E3.le.refl E, ?_, hI, .inl ?_⟩
    · simp only [Rep]
      exact ⟨g, l.length, cap, by rw [← e1]; exact ha.1, by omega, rfl⟩
    · have : n < (l.length : Int) := h1
      simp [execOp, e1, hx, Instr.indexAt, asIntOf, run_underlying hu, h0, this, hsz, add_off, hw]
theorem lenRow_sound (hT : TabOK P T) (hI : WI F E objs cl w) {ρ : Operand → Value} {dst : Option Tmp} {t e ty : TypeId} {pos : String} {after : Array Edge} {gd : Option (Nat × Bool)} {k : AV → Os → Cl → Prop} {args : Array Operand} {ats : Array TypeId} {q : Nm} {wd : Nat} {l : List AV}
    (hv : RepT E [.sq q wd] (args.toList.map ρ)) (hts : ats.toList = [t]) (ht : (T.ty t).k = .slice e) (hq : cl q = some (.row l)) (h : l.length ≤ maxL → k (.int .i64 l.length) objs cl) :
    Does P F E ρ ⟨dst, .call { callee := .builtin .len, args := args, argTypes := ats }, ty, pos, after, gd⟩ w k := by
  obtain ⟨u, e, hx⟩ := repT_one hv
  have hc : l.length ≤ maxL := by
    simp only [Rep] at hx
    obtain ⟨_, xs, k1, _⟩ := row_block hI hq hx.1
    rcases k1.2 with ⟨_, h0⟩ | ⟨g, cap, cur, _, _, _, hnc, hcm, _⟩
    · rw [h0]; exact Nat.zero_le _
    · exact Nat.le_trans hnc hcm
  have h1 : (args.map ρ)[0]? = some u := by
    rw [← Array.getElem?_toList, Array.toList_map, e]; rfl
  have h2 : ats[0]? = some t := by
    rw [← Array.getElem?_toList, hts]; rfl
  refine ⟨E, _, .int .i64 l.length, objs, cl, w, h hc, E3.le.refl E, rep_int, hI, .inl ?_⟩
  have hr : (Builtin.len_ ats ty (args.map ρ)).run P w = .ok (.int .i64 l.length) w := by
    simp only [Builtin.len_, h1, h2, Sem.run_bind, run_underlying (hT.slice ht), Result.andThen_ok]
    rcases row_some hI hx hq with ⟨rfl, rfl⟩ | ⟨g, cap, rfl⟩ <;> rfl
  simp [execOp, resolve, invoke, builtin, hr]
theorem makeSlice_sound (hT : TabOK P T) (hI : WI F E objs cl w) {ρ : Operand → Value} {dst : Option Tmp} {t e ty : TypeId} {pos : String} {after : Array Edge} {gd : Option (Nat × Bool)} {d : Nat} {k : AV → Os → Cl → Prop} {a b : Operand} {n c : Int}
    (ha : Rep E (.int .i64 n) (ρ a)) (hb : Rep E (.int .i64 c) (ρ b)) (ht : (T.ty t).k = .slice e) (h2 : 0 < (T.ty e).size) (hby : 0 < (T.ty e).bytes) (hk : (T.ty e).known = true) (hz : (T.ty e).zero.isEmpty = false) (hzf : (demS (T.ty e).sh (zeroOf (T.ty e))).flat = true)
    (h0 : 0 ≤ n) (hnc : n ≤ c) (hc : c * (T.ty e).bytes ≤ 140737488355328) (hd : cl (.T d) = none) (h : k (.sq (.T d) (T.ty e).size) objs (updN cl (.T d) (.row (List.replicate n.toNat (demS (T.ty e).sh (zeroOf (T.ty e))))))) :
    Does P F E ρ ⟨dst, .makeSlice t a b, ty, pos, after, gd⟩ w k := by
  obtain ⟨i, z, z1, z2, z3, z4, z5, z6, z7, z8⟩ := zero_of hT hk hz
  have hzr := zero_rep (E := E) z2 z5 z6 z7 z8
  have hc63 : c ≤ 140737488355328 := by
    have h1 : (1 : Int) ≤ ((T.ty e).bytes : Int) := by omega
    have h2 : c * 1 ≤ c * ((T.ty e).bytes : Int) := Int.mul_le_mul_of_nonneg_left h1 (by omega)
    omega
  have hrun := run_make (P := P) w t e i z (hT.slice ht) z1 z4 .i64 .i64 n c h0 hnc (by rw [z3, Int.mul_comm]; omega) (by omega)
  have hsz2 : (madeCells z.cells (c.toNat * i.size)).size = c.toNat * (T.ty e).size := by rw [size_madeCells, z2]
  obtain ⟨E', q1, q2, q3⟩ := hI.new_rowR (q := .T d) (e := e) (N := n.toNat) (cap := c.toNat) (r := List.replicate n.toNat (demS (T.ty e).sh (zeroOf (T.ty e)))) hd h2 (by omega) (by simp only [maxLen]; omega) hsz2 (by simp) (SrcE.toR (by
    have hmul : n.toNat * (T.ty e).size ≤ c.toNat * (T.ty e).size := Nat.mul_le_mul_right _ (by omega)
    refine ⟨by rw [List.length_take, Array.length_toList, size_madeCells, z2, List.length_replicate]; omega, fun j x hx => ?_⟩
    rw [List.getElem?_replicate] at hx
    split at hx
    · rename_i hj
      injection hx with hx
      subst hx
      refine ⟨hzf, z, rep_demS hzr, by rw [z5, z2], fun q hq => ?_⟩
      have hlt : j * (T.ty e).size + q < n.toNat * (T.ty e).size := by
        have : (j + 1) * (T.ty e).size ≤ n.toNat * (T.ty e).size := Nat.mul_le_mul_right _ hj
        rw [Nat.add_mul] at this
        omega
      have hm : (j * (T.ty e).size + q) % z.cells.size = q := by
        rw [z5, z2, Nat.add_comm, Nat.add_mul_mod_self_right, Nat.mod_eq_of_lt hq]
      have hql : q < z.cells.size := by rw [z5, z2]; exact hq
      have hlt2 : j * (T.ty e).size + q < c.toNat * (T.ty e).size := by omega
      rw [List.getElem?_take, if_pos hlt]
      simp [madeCells, z2, hlt2, hm, hql]
    · cases hx))
  simp only [Rep] at ha hb
  refine ⟨E', _, _, objs, _, _, h, q1, q2, q3, .inl ?_⟩
  simp [execOp, ha, hb, hrun]
theorem strRow_sound (hT : TabOK P T) (hI : WI F E objs cl w) {ρ : Operand → Value} {dst : Option Tmp} {s t ty : TypeId} {pos : String} {after : Array Edge} {gd : Option (Nat × Bool)} {k : AV → Os → Cl → Prop} {a : Operand} {q : Nm} {l : List AV} {b : List UInt8}
    (ha : Rep E (.sq q 1) (ρ a)) (ht : (T.ty t).k = .str) (hu : isU8 T s = true) (hq : cl q = some (.row l)) (hb : bytesOf l = some b) (h : k (.str b) objs cl) : Does P F E ρ ⟨dst, .convert s t a, ty, pos, after, gd⟩ w k := by
  have hf : l.all AV.flat = true := by
    obtain ⟨ns, rfl, _⟩ := bytesOf_get _ hb
    rw [List.all_eq_true]
    intro x hx
    obtain ⟨n, _, rfl⟩ := List.mem_map.1 hx
    rfl
  obtain ⟨E', h1, h2, h3, h4, h5⟩ := hI.row_still hq hf
  have hr := h5 1 _ ha
  have hcv : conv (PA ⟨fun _ _ _ _ => False, fun _ _ _ _ => False⟩) T s t (.lst .ro 1 l) fun v => v = .str b := by
    unfold conv
    simp only [ht, PA_lit, PA_orFail, hu, hb]
    exact ⟨by simp, b, rfl, rfl⟩
  obtain ⟨x', v', g1, g2, g3⟩ := conv_sound (P := P) (W := (· = w)) hT (by rintro w' rfl; exact h4.known) hr hcv
  subst g1
  refine ⟨E, _, v', objs, cl, w, h, E3.le.refl E, ?_, hI, .inl ?_⟩
  · simpa only [Rep] using g2
  · simp [execOp, g3 w rfl]
theorem cells_elem (hI : WI F E objs cl w) {q : Nm} {sz : Nat} {l : List AV} {v : Value} (hk : E.ka q = some (v, sz)) (hq : cl q = some (.row l)) {i : Nat} {e : AV} (he : l[i]? = some e) :
    ∃ g cap t cur u, v = .slice (some ⟨g, 0, none⟩) l.length cap ∧ w.heap[g]? = some (.cells cur t (0, 0)) ∧ l.length * sz ≤ cur.size ∧ (e.flat = true ∨ holdsRef e = true) ∧ Rep E e u ∧ u.cells.size = sz ∧ RepL E e.cells u.cells.toList ∧ (∀ j, j < sz → cur[i * sz + j]? = u.cells[j]?) ∧ SrcR E sz l (cur.toList.take (l.length * sz)) := by
  obtain ⟨t, xs, k1, k2, k3, k4⟩ := row_block hI hq hk
  have hi : i < l.length := (List.getElem?_eq_some_iff.1 he).1
  rcases k1.2 with ⟨rfl, h0⟩ | ⟨g, cap, cur, rfl, _, hg, hnc, hcm, hcs, htake⟩
  · omega
  · obtain ⟨h1, u, h2, h3, h4⟩ := k2.get i e he
    have hle : l.length * sz ≤ cur.size := by rw [hcs]; exact Nat.mul_le_mul_right _ hnc
    refine ⟨g, cap, t, cur, u, rfl, hg, hle, h1, h2, h3, ?_, fun j hj => ?_, by rw [htake]; exact k2⟩
    · rcases h1 with h1 | h1
      · exact (flat_cells h1 h2).1
      · have ho : e.one = true := by cases e <;> first | rfl | cases h1
        have hc : e.cells = [e] := by cases e <;> first | rfl | cases h1
        obtain ⟨g1, g2⟩ := rep_one_cell h2 ho
        rw [hc, g2]
        simp only [RepL]
        exact ⟨u, [], rfl, ho, g1, h2, rfl⟩
    · rw [← h4 j hj, ← htake, List.getElem?_take, if_pos]
      · simp
      · have : (i + 1) * sz ≤ l.length * sz := Nat.mul_le_mul_right _ hi
        rw [Nat.add_mul] at this
        omega
theorem loadRow_sound (hT : TabOK P T) (hI : WI F E objs cl w) {ρ : Operand → Value} {dst : Option Tmp} {t ty : TypeId} {pos : String} {after : Array Edge} {gd : Option (Nat × Bool)} {k : AV → Os → Cl → Prop} {a : Operand} {q : Nm} {wd i j : Nat} {l : List AV} {e : AV}
    (ha : Rep E (.ua q wd i j) (ρ a)) (hq : cl q = some (.row l)) (he : l[i]? = some e) (h : part (PA M) (T.ty t) e.cells j fun v => k v objs cl) : Does P F E ρ ⟨dst, .load t a, ty, pos, after, gd⟩ w k := by
  simp only [Rep] at ha
  obtain ⟨b, n, cap, h1, h2, h3⟩ := ha
  obtain ⟨g, cap', tt, cur, u, e1, e2, e3, e4, e5, e6, e7, e8, e9⟩ := cells_elem hI h1 hq he
  cases e1
  obtain ⟨x', v', g1, g2, g3⟩ := part_sound (W := (· = w)) (off := i * wd) (b := b) hT e7 (fun w' hw' j v hj => by
    subst hw'
    rw [cell_of_row _ b (i * wd + j) cur tt (0, 0) e2, e8 j (by have := (List.getElem?_eq_some_iff.1 hj).1; simpa [e6] using this)]
    simpa using hj) h
  refine ⟨E, x', v', objs, cl, w, g1, E3.le.refl E, g2, hI, .inl ?_⟩
  simp [execOp, h3, Instr.loadAt, Instr.sureAddr, g3 w rfl]
theorem putC_sound {x : AV} {cs : List AV} {k : AV → Prop} {u : Value} {us : List Value} (h : putC (PA M) x cs k) (hx : Rep E x u) (hc : RepL E cs us) (hone : (∃ l, x = .agg l) ∨ x.one = true) : ∃ x' u', k x' ∧ Rep E x' u' ∧ u'.cells.toList = us := by
  unfold putC at h
  split at h
  · rename_i l
    refine ⟨_, .agg us.toArray, h, ?_, by simp [Value.cells]⟩
    simp only [Rep]
    exact ⟨us, rfl, hc⟩
  · simp only [PA_asC, PA_asN] at h
    obtain ⟨c, r, rfl, rfl, h⟩ := h
    simp only [RepL] at hc
    obtain ⟨v, r, rfl, h1, h2, h3, rfl⟩ := hc
    exact ⟨c, v, h, h3, by rw [(rep_one_cell h3 h1).2]⟩
theorem storeRow_sound (hT : TabOK P T) (hI : WI F E objs cl w) {ρ : Operand → Value} {dst : Option Tmp} {t ty : TypeId} {pos : String} {after : Array Edge} {gd : Option (Nat × Bool)} {k : AV → Os → Cl → Prop} {a b : Operand} {q : Nm} {wd i j : Nat} {l : List AV} {e x : AV}
    (ha : Rep E (.ua q wd i j) (ρ a)) (hx : Rep E x (ρ b)) (hq : cl q = some (.row l)) (he : l[i]? = some e)
    (h : cellsAs (PA M) (T.ty t) x fun cs => (PA M).chk (Nat.ble (j + cs.length) e.cells.length) (putC (PA M) e (setAt e.cells j cs) fun e' => (PA M).chk e'.flat (k (.tup []) objs (updN cl q (.row (l.set i e')))))) :
    Does P F E ρ ⟨dst, .store t a b, ty, pos, after, gd⟩ w k := by
  obtain ⟨cs, h, hk, hr, hs, hln, _⟩ := cellsAs_sound hx h
  simp only [PA_chk, Nat.ble_eq] at h
  obtain ⟨hfit, h⟩ := h
  simp only [Rep] at ha
  obtain ⟨g, n, cap, h1, h2, h3⟩ := ha
  obtain ⟨g', cap', tt, cur, u, e1, e2, e3, e4, e5, e6, e7, e8, e9⟩ := cells_elem hI h1 hq he
  cases e1
  have hil : i < l.length := (List.getElem?_eq_some_iff.1 he).1
  have hcl := hr.length
  have hel := e7.length
  obtain ⟨e', u', hp, hu', huc⟩ := putC_sound h e5 (repL_setAt e7 hr hfit) (by
    rcases e4 with e4 | e4
    · cases e <;> first | exact .inl ⟨_, rfl⟩ | exact .inr rfl | (simp [AV.flat, AV.flat1] at e4; done)
    · exact .inr (by cases e <;> first | rfl | cases e4))
  obtain ⟨hfl, hp⟩ : e'.flat = true ∧ k (.tup []) objs (updN cl q (.row (l.set i e'))) := hp
  have hmul : (i + 1) * wd ≤ l.length * wd := Nat.mul_le_mul_right _ hil
  rw [Nat.add_mul, Nat.one_mul] at hmul
  have husz : u'.cells.size = wd := by
    have : u'.cells.toList.length = (setAt u.cells.toList j (ρ b).cells.toList).length := by rw [huc]
    rw [setAt_length] at this
    simpa [e6] using this
  have hset := e9.set hil (.inl hfl) hu' husz
  have hjfit : j + (ρ b).cells.toList.length ≤ wd := by
    rw [← hcl]
    have : e.cells.length = wd := by rw [hel]; simpa using e6
    omega
  have hcur : (setAt cur.toList (i * wd + j) (ρ b).cells.toList).take (l.length * wd) = setAt (cur.toList.take (l.length * wd)) (i * wd) u'.cells.toList := by
    have f1 : i * wd + j + (ρ b).cells.toList.length ≤ cur.toList.length := by simp only [Array.length_toList]; omega
    have f2 : i * wd + u'.cells.toList.length ≤ (cur.toList.take (l.length * wd)).length := by simp only [Array.length_toList, List.length_take, husz]; omega
    have f3 : j + (ρ b).cells.toList.length ≤ u.cells.toList.length := by simp only [Array.length_toList] at hjfit ⊢; omega
    apply List.ext_getElem?
    intro m
    rw [List.getElem?_take, setAt_get _ _ _ _ f1, setAt_get _ _ _ _ f2, huc, setAt_get _ _ _ _ f3, List.getElem?_take]
    simp only [setAt_length, Array.length_toList]
    simp only [Array.length_toList] at hjfit
    by_cases c1 : m < l.length * wd
    · rw [if_pos c1, if_pos c1]
      by_cases c2 : i * wd ≤ m ∧ m < i * wd + u.cells.size
      · rw [if_pos c2]
        by_cases c3 : i * wd + j ≤ m ∧ m < i * wd + j + (ρ b).cells.size
        · rw [if_pos c3, if_pos (by omega)]
          congr 1
          omega
        · rw [if_neg c3, if_neg (by omega)]
          have := e8 (m - i * wd) (by omega)
          rw [show i * wd + (m - i * wd) = m from by omega] at this
          simpa using this
      · rw [if_neg c2, if_neg (by omega)]
    · rw [if_neg c1, if_neg c1, if_neg (by omega)]
  have hW := hI.row_set (l' := l.set i e') hq h1 (cur' := (setAt cur.toList (i * wd + j) (ρ b).cells.toList).toArray) e2 (by simp [setAt_length]) (by simp) (by rw [List.toList_toArray, hcur]; exact hset)
  refine ⟨E, _, undef, _, _, _, hp, E3.le.refl E, by simp only [Rep]; exact ⟨[], rfl, by simp [RepT]⟩, hW, .inr ⟨?_, rfl⟩⟩
  have hst := run_storeCells_at P g (i * wd + j) tt (ρ b).cells.toList 0 cur w e2 (by simp only [Array.length_toList] at hjfit ⊢; omega) (hr.all_one)
  simp only [Nat.add_zero] at hst
  have hse : (storeCells ⟨g, i * wd + j, none⟩ (ρ b).cells.toList).run P w = .ok () (w.setRow g (setAt cur.toList (i * wd + j) (ρ b).cells.toList).toArray) := by
    rw [hst, setAt_eq _ _ _ (by simp only [Array.length_toList] at hjfit ⊢; omega)]
  simp [execOp, Instr.storeAt, h3, Instr.sureAddr, storeVar, hT.sizeAt hk, hs, hse]
/-- Elements that are copied: so many of the first ones as there is room for. -/
structure SrcM (P : Program) (w : World) (size n : Nat) (y : Value) (news : List Value) : Prop where
  len : (Builtin.lenOf y).run P w = .ok n w
  cells : ∀ m, m ≤ n → (Builtin.firstCells size m y).run P w = .ok (news.take (m * size)).toArray w
  one : ∀ u ∈ news, u.oneCell' = true
theorem srcM_slice {sz n cap : Nat} {a : Option Addr} {news : List Value} (hs : news.length = n * sz) (h1 : ∀ u ∈ news, u.oneCell' = true) (hc : n ≠ 0 → ∃ b off, a = some ⟨b, off, none⟩ ∧ ∀ j v, news[j]? = some v → w.cell? ⟨b, off + j, none⟩ = some v) :
    SrcM P w sz n (.slice a n cap) news := by
  refine ⟨by simp [Builtin.lenOf], fun m hm => ?_, h1⟩
  by_cases hn : n = 0
  · subst hn
    obtain rfl : m = 0 := by omega
    cases a <;> simp [Builtin.firstCells, loadCells, loadCellsFrom]
  · obtain ⟨b, off, rfl, hc2⟩ := hc hn
    have hmul : m * sz ≤ n * sz := Nat.mul_le_mul_right _ hm
    refine run_firstCells_some w sz m _ _ _ _ (by rw [List.length_take, hs]; omega) fun j v hj => ?_
    rw [List.getElem?_take] at hj
    split at hj
    · rw [add_off]; exact hc2 j v hj
    · cases hj
theorem srcM_of (hI : WI F E objs cl w) {sz : Nat} {y : AV} {v : Value} {k : List AV → Prop} (hv : Rep E y v) (hsz : 0 < sz) (h : srcV (PA M) sz y cl k) :
    ∃ r news, k r ∧ SrcM P w sz r.length v news ∧ SrcE E sz r news := by
  unfold srcV at h
  split at h
  · rename_i m' w' r
    simp only [PA_lit, Bool.or_eq_true, Nat.beq_eq] at h
    obtain ⟨hw, h⟩ := h
    have hv' : Rep E (.lst .ro sz r) v := by
      rcases hw with rfl | hm
      · exact rep_ro hv
      · have : m' = .nil := by cases m' <;> simp_all [isNil]
        subst this
        exact rep_nilw hv
    simp only [Rep] at hv'
    obtain ⟨a, len, cap, rfl, hl, hlc, hcm, he1, _, _⟩ := hv'
    subst hl
    by_cases hr : r = []
    · subst hr
      exact ⟨[], [], h, srcM_slice (by simp) (by simp) (fun h => absurd rfl h), SrcE.nil E sz⟩
    · obtain ⟨b, off, rfl, hE⟩ := he1 hr
      obtain ⟨ns, n1, n2⟩ := srcE_of_repE hE
      exact ⟨r, ns, h, srcM_slice n1.size (n1.one hsz) (fun _ => ⟨b, off, rfl, fun j v hj => hI.agree _ _ _ ((n2 j (List.getElem?_eq_some_iff.1 hj).1).trans hj)⟩), n1⟩
  · rename_i q w'
    simp only [PA_lit, PA_asRow, Nat.beq_eq] at h
    obtain ⟨rfl, r, hq, hf, h⟩ := h
    obtain ⟨news, h1, h2⟩ := src_of_row (P := P) hI hv hq
    simp only [Rep] at hv
    obtain ⟨t, xs, k1, k2, k3, k4⟩ := row_block hI hq hv.1
    rcases k1.2 with ⟨rfl, h0⟩ | ⟨g, cap, cur, rfl, _, hg, hnc, hcm, hcs, htake⟩
    · have hr : r = [] := List.eq_nil_of_length_eq_zero h0
      subst hr
      exact ⟨[], [], h, srcM_slice (by simp) (by simp) (fun h => absurd rfl h), SrcE.nil E _⟩
    · exact ⟨r, xs, h, srcM_slice k1.1 ((k2.toE hf).one k3) (fun _ => ⟨g, 0, rfl, fun j v hj => by
        have := k1.cells (g := g) rfl j v hj
        rw [add_off] at this
        simpa using this⟩), k2.toE hf⟩
  · exact h.elim
theorem SrcR.take {sz : Nat} {r : List AV} {ns : List Value} (h : SrcR E sz r ns) (m : Nat) : SrcR E sz (r.take m) (ns.take (m * sz)) := by
  refine ⟨by rw [List.length_take, List.length_take, h.size]; rcases Nat.le_total m r.length with hm | hm
             · rw [Nat.min_eq_left hm, Nat.min_eq_left (Nat.mul_le_mul_right _ hm)]
             · rw [Nat.min_eq_right hm, Nat.min_eq_right (Nat.mul_le_mul_right _ hm)], fun i x hx => ?_⟩
  rw [List.getElem?_take] at hx
  split at hx
  · rename_i hi
    obtain ⟨h1, u, h2, h3, h4⟩ := h.get i x hx
    refine ⟨h1, u, h2, h3, fun j hj => ?_⟩
    rw [List.getElem?_take, if_pos, h4 j hj]
    have : (i + 1) * sz ≤ m * sz := Nat.mul_le_mul_right _ hi
    rw [Nat.add_mul] at this
    omega
  · cases hx
theorem SrcR.drop {sz : Nat} {r : List AV} {ns : List Value} (h : SrcR E sz r ns) (m : Nat) : SrcR E sz (r.drop m) (ns.drop (m * sz)) := by
  refine ⟨by rw [List.length_drop, List.length_drop, h.size, Nat.sub_mul], fun i x hx => ?_⟩
  rw [List.getElem?_drop] at hx
  obtain ⟨h1, u, h2, h3, h4⟩ := h.get _ x hx
  refine ⟨h1, u, h2, h3, fun j hj => ?_⟩
  rw [List.getElem?_drop, ← h4 j hj]
  congr 1
  rw [Nat.add_mul]
  omega
theorem copyRow_sound (hT : TabOK P T) (hI : WI F E objs cl w) {ρ : Operand → Value} {dst : Option Tmp} {t e ty : TypeId} {pos : String} {after : Array Edge} {gd : Option (Nat × Bool)} {k : AV → Os → Cl → Prop} {args : Array Operand} {ats : Array TypeId} {ts : List Nat} {u : Nat} {q : Nm} {wd : Nat} {y : AV} {l : List AV}
    (hv : RepT E [.sq q wd, y] (args.toList.map ρ)) (hts : ats.toList = t :: u :: ts) (ht : (T.ty t).k = .slice e) (hw : wd = (T.ty e).size) (h2 : 0 < (T.ty e).size) (hk : (T.ty e).known = true) (hq : cl q = some (.row l))
    (h : srcV (PA M) wd y cl fun r => r.all AV.flat = true ∧ k (.int .i64 (min r.length l.length)) objs (updN cl q (.row (r.take l.length ++ l.drop r.length)))) :
    Does P F E ρ ⟨dst, .call { callee := .builtin .copy, args := args, argTypes := ats }, ty, pos, after, gd⟩ w k := by
  obtain ⟨sv, yv, he, hxr, hyr⟩ := repT_two hv
  subst hw
  obtain ⟨r, news, ⟨hrf, h⟩, s1, s2⟩ := srcM_of (P := P) hI hyr h2 h
  have hargs : args.map ρ = #[sv, yv] := by
    apply Array.ext'
    simpa using he
  have g0 : ats[0]? = some t := by rw [← Array.getElem?_toList, hts]; rfl
  have hres : (goInt (Nat.min r.length l.length) : Value) = .int .i64 (min (r.length : Int) l.length) := by
    simp only [goInt]
    congr 1
    rw [show Nat.min r.length l.length = min r.length l.length from rfl]
    omega
  have hx := hxr
  simp only [Rep] at hx
  obtain ⟨tt, xs, k1, k2, k3, k4⟩ := row_block hI hq hx.1
  rcases k1.2 with ⟨rfl, h0⟩ | ⟨g, cap, cur, rfl, _, hg, hnc, hcm, hcs, htake⟩
  · have hl0 : l = [] := List.eq_nil_of_length_eq_zero h0
    subst hl0
    have hsame : updN cl q (.row (r.take ([] : List AV).length ++ ([] : List AV).drop r.length)) = cl := by
      funext p
      by_cases hqp : q = p
      · subst hqp; rw [updN_same]; simpa using hq.symm
      · rw [updN_ne _ _ hqp]
    rw [hsame] at h
    refine ⟨E, _, .int .i64 (min (r.length : Int) ([] : List AV).length), objs, cl, w, h, E3.le.refl E, rep_int, hI, .inl ?_⟩
    have hc := s1.cells 0 (Nat.zero_le _)
    simp only [Nat.zero_mul, List.take_zero] at hc
    have hr : (Builtin.copy_ ats ty #[.slice none 0 0, yv]).run P w = .ok (goInt (Nat.min r.length 0)) w := by
      have hm : Nat.min r.length 0 = 0 := Nat.min_eq_right (Nat.zero_le _)
      simp [Builtin.copy_, g0, run_underlying (hT.slice ht), s1.len, hm, hT.sizeAt hk w, hc]
    rw [← hres]
    simp [execOp, resolve, invoke, builtin, hargs, hr]
  · obtain ⟨m, hm⟩ : ∃ m, m = Nat.min r.length l.length := ⟨_, rfl⟩
    have hm' : m = min r.length l.length := hm
    have hmul : m * (T.ty e).size ≤ l.length * (T.ty e).size := Nat.mul_le_mul_right _ (by omega)
    have hmul2 : m * (T.ty e).size ≤ r.length * (T.ty e).size := Nat.mul_le_mul_right _ (by omega)
    have hns := s2.size
    have hlen : (news.take (m * (T.ty e).size)).length = m * (T.ty e).size := by rw [List.length_take]; omega
    have hle : l.length * (T.ty e).size ≤ cur.size := by rw [hcs]; exact Nat.mul_le_mul_right _ hnc
    have hl' : r.take l.length ++ l.drop r.length = r.take m ++ l.drop m := by
      rcases Nat.le_total r.length l.length with hrl | hrl
      · have : m = r.length := by omega
        subst this
        rw [List.take_of_length_le hrl, List.take_of_length_le (Nat.le_refl _)]
      · have : m = l.length := by omega
        subst this
        rw [List.drop_of_length_le hrl, List.drop_of_length_le (Nat.le_refl _)]
    have hst := run_storeCells_at P g 0 tt (news.take (m * (T.ty e).size)) 0 cur w hg (by rw [hlen]; omega) (fun u hu => s1.one u (List.mem_of_mem_take hu))
    simp only [Nat.add_zero, Nat.zero_add, List.take_zero, List.nil_append, hlen] at hst
    have hW := hI.row_set (l' := r.take l.length ++ l.drop r.length) hq hx.1 (cur' := (news.take (m * (T.ty e).size) ++ cur.toList.drop (m * (T.ty e).size)).toArray) hg (by
        simp only [List.size_toArray, List.length_append, hlen, List.length_drop, Array.length_toList]; omega)
      (by rw [hl']; simp only [List.length_append, List.length_take, List.length_drop]; omega) (by
        rw [hl', List.toList_toArray]
        have : (news.take (m * (T.ty e).size) ++ cur.toList.drop (m * (T.ty e).size)).take (l.length * (T.ty e).size) = news.take (m * (T.ty e).size) ++ xs.drop (m * (T.ty e).size) := by
          rw [List.take_append, hlen, List.take_of_length_le (by rw [hlen]; exact hmul), ← htake, List.drop_take]
        rw [this]
        exact (s2.toR.take m).append (k2.drop m))
    refine ⟨E, _, .int .i64 (min (r.length : Int) l.length), objs, _, _, h, E3.le.refl E, rep_int, hW, .inl ?_⟩
    have hc := s1.cells m (by omega)
    have hr : (Builtin.copy_ ats ty #[.slice (some ⟨g, 0, none⟩) l.length cap, yv]).run P w = .ok (goInt (Nat.min r.length l.length)) (w.setRow g (news.take (m * (T.ty e).size) ++ cur.toList.drop (m * (T.ty e).size)).toArray) := by
      simp only [Builtin.copy_, g0, List.getElem?_toArray, List.getElem?_cons_zero, List.getElem?_cons_succ, Sem.run_bind, run_underlying (hT.slice ht), Result.andThen_ok, s1.len, hT.sizeAt hk w, ← hm, hc]
      simp [hst]
    rw [← hres]
    simp [execOp, resolve, invoke, builtin, hargs, hr]

/-! Rows that stand still. -/
theorem rep_fzV {E' : E3} (hle : E.le E') {q : Nm} {l : List AV} (hs : ∀ sz v, Rep E (.sq q sz) v → Rep E' (.lst .ro sz l) v) {x : AV} {v : Value} (h : Rep E x v) : Rep E' (fzV q l x) v := by
  unfold fzV
  split
  · rename_i q' wd
    cases hb : Nm.beq q q' with
    | true => rw [← Nm.beq_iff.1 hb] at h; exact hs _ _ h
    | false => exact h.mono hle
  · exact h.mono hle
theorem one_fzV {q : Nm} {l : List AV} {x : AV} (h : x.one = true) : (fzV q l x).one = true := by
  unfold fzV
  split
  · rename_i q' wd
    cases Nm.beq q q' <;> rfl
  · exact h
theorem repL_fzV {E' : E3} (hle : E.le E') {q : Nm} {l : List AV} (hs : ∀ sz v, Rep E (.sq q sz) v → Rep E' (.lst .ro sz l) v) : ∀ {cs : List AV} {vs : List Value}, RepL E cs vs → RepL E' (cs.map (fzV q l)) vs
  | [], vs, h => by simpa [RepL] using h
  | x :: cs, vs, h => by
    simp only [RepL, List.map_cons] at h ⊢
    obtain ⟨v, r, rfl, h1, h2, h3, h4⟩ := h
    exact ⟨v, r, rfl, one_fzV h1, h2, rep_fzV hle hs h3, repL_fzV hle hs h4⟩
theorem rep_fzW {E' : E3} (hle : E.le E') {q : Nm} {l : List AV} (hs : ∀ sz v, Rep E (.sq q sz) v → Rep E' (.lst .ro sz l) v) {x : AV} {v : Value} (h : Rep E x v) : Rep E' (fzW q l x) v := by
  unfold fzW
  split
  · simp only [Rep] at h ⊢
    obtain ⟨vs, rfl, h⟩ := h
    exact ⟨vs, rfl, repL_fzV hle hs h⟩
  · rename_i ts
    simp only [Rep] at h ⊢
    obtain ⟨vs, rfl, h⟩ := h
    refine ⟨vs, rfl, ?_⟩
    induction ts generalizing vs with
    | nil => simpa [RepT] using h
    | cons x ts ih =>
      simp only [RepT, List.map_cons] at h ⊢
      obtain ⟨v, r, rfl, h1, h2⟩ := h
      refine ⟨v, r, rfl, ?_, ih _ h2⟩
      split
      · simp only [Rep] at h1 ⊢
        obtain ⟨us, rfl, h1⟩ := h1
        exact ⟨us, rfl, repL_fzV hle hs h1⟩
      · exact rep_fzV hle hs h1
  · exact rep_fzV hle hs h
theorem WI.fz_objs (h : WI F E objs cl w) {q : Nm} {l : List AV} (hs : ∀ sz v, Rep E (.sq q sz) v → Rep E (.lst .ro sz l) v) : WI F E (fun o => fzO q l (objs o)) cl w := by
  have oldo : ∀ {o : Nat} {cs : List AV}, fzO q l (objs o) = some (.live cs) → ∃ cs0, objs o = some (.live cs0) ∧ cs = cs0.map (fzV q l) := by
    intro o cs ho
    unfold fzO at ho
    split at ho
    · rename_i cs0 h0
      injection ho with ho
      injection ho with ho
      exact ⟨cs0, h0, ho.symm⟩
    · rename_i x hx
      exact absurd ho (hx cs)
  refine { h with live := ?_, frz := ?_, oo := ?_, oc := ?_, mdom := ?_, pm := ?_ }
  · intro o cs ho
    obtain ⟨cs0, h0, rfl⟩ := oldo ho
    obtain ⟨b, t, vs, h1, h2, h3, h4⟩ := h.live o cs0 h0
    exact ⟨b, t, vs, h1, h2, repL_fzV (E3.le.refl E) hs h3, h4⟩
  · intro o cs ho
    unfold fzO at ho
    split at ho
    · cases ho
    · exact h.frz o cs ho
  · intro o o' cs cs' b ho ho'
    obtain ⟨c0, h0, _⟩ := oldo ho
    obtain ⟨c1, h1, _⟩ := oldo ho'
    exact h.oo o o' c0 c1 b h0 h1
  · intro o cs b q v s ho
    obtain ⟨c0, h0, _⟩ := oldo ho
    exact h.oc o c0 b q v s h0
  · intro o b hm hn
    unfold fzO at hn
    split at hn
    · cases hn
    · exact h.mdom o b hm hn
  · intro j b cs hj ho
    obtain ⟨c0, h0, _⟩ := oldo ho
    exact h.pm j b c0 hj h0
end Go.Proofs.Ythmocicjocjdoaa.V
