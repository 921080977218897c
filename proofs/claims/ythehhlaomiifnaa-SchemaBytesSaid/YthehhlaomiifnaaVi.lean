/- Operations are sound: those that are no calls of functions. -/
import Derived.Test.YthehhlaomiifnaaVh
import Derived.Lib.ConvBytes
set_option linter.unusedVariables false
set_option linter.unusedSimpArgs false
namespace Go.Proofs.Ythehhlaomiifnaa.V
open Go
variable {P : Program} {T : Tab} {M : Meaning} {F : Fr} {E : E3} {objs : Os} {cl : Cl} {w : World}

/-- What an operation comes to. -/
def Does (P : Program) (F : Fr) (E : E3) (ρ : Operand → Value) (o : Oper) (w : World) (k : AV → Os → Cl → Prop) : Prop :=
  ∃ E' x v objs' cl' w', k x objs' cl' ∧ E.le E' ∧ Rep E' x v ∧ WI F E' objs' cl' w' ∧
    ((execOp ρ o).run P w = .ok (.value v) w' ∨ ((execOp ρ o).run P w = .ok .skip w' ∧ v = undef))

theorem zero_of (hT : TabOK P T) {t : Nat} (hk : (T.ty t).known = true) (hz : (T.ty t).zero.isEmpty = false) :
    ∃ i z, P.info? t = some i ∧ i.size = (T.ty t).size ∧ i.bytes = (T.ty t).bytes ∧ i.zero = some z ∧ z.cells.size = i.size ∧ (∀ E, RepL E (T.ty t).zero z.cells.toList) ∧ ((T.ty t).isAgg = true → ∃ cs, z = .agg cs) ∧ ((T.ty t).isAgg = false → (T.ty t).size = 1 ∧ z.oneCell' = true) := by
  obtain ⟨i, h1, h2, h3, h4⟩ := (hT t).info hk
  obtain ⟨z, h5, h6, h7, h8, h9⟩ := h4 hz
  exact ⟨i, z, h1, h2, h3, h5, by rw [h6, h2], h9, h7, h8⟩
theorem known_of_agg {td : TD} (h : td.isAgg = true) : td.known = true := by
  unfold TD.isAgg at h; unfold TD.known; split at h <;> simp_all

theorem repT_nil {us : List Value} (h : RepT E [] us) : us = [] := by simpa [RepT] using h

theorem fresh_iff {β : Type} {f : Nat → Option β} {d : Nat} {x : Prop} : fresh (PA M) f d x ↔ f d = none ∧ x := by
  unfold fresh; cases f d <;> simp
theorem freshN_iff {f : Cl} {d : Nm} {x : Prop} : freshN (PA M) f d x ↔ f d = none ∧ x := by
  unfold freshN; cases f d <;> simp

theorem alloc_sound (hT : TabOK P T) (hI : WI F E objs cl w) {ρ : Operand → Value} {dst : Option Tmp} {t ty : TypeId} {pos : String} {after : Array Edge} {gd : Option (Nat × Bool)} {d : Nat} {k : AV → Os → Cl → Prop}
    (hk : (T.ty t).known = true) (hz : (T.ty t).zero.isEmpty = false) (hd : objs (ob d) = none) (h : k (.ref (ob d) 0) (upd objs (ob d) (.live (T.ty t).zero)) cl) :
    Does P F E ρ ⟨dst, .alloc t, ty, pos, after, gd⟩ w k := by
  obtain ⟨i, z, h1, h2, h3, h4, h5, h6, _, _⟩ := zero_of hT hk hz
  obtain ⟨hle, hW⟩ := hI.new_obj (t := t) (by unfold ob; omega) hd (h6 E)
  refine ⟨_, _, .pointer (some ⟨w.heap.size, 0, none⟩), _, _, _, h, hle, ?_, hW, .inl ?_⟩
  · simp only [Rep]; exact ⟨w.heap.size, upd_same _ _ _, rfl⟩
  · simp [execOp, Instr.alloc, zeroValue, typeInfo, h1, h4, newVar, newRow, Value.cells]

theorem box_sound (hI : WI F E objs cl w) {ρ : Operand → Value} {dst : Option Tmp} {t ty : TypeId} {pos : String} {after : Array Edge} {gd : Option (Nat × Bool)} {d : Nat} {k : AV → Os → Cl → Prop} {a : Operand} {x : AV}
    (hx : Rep E x (ρ a)) (h : cellsAs (PA M) (T.ty t) x fun cs => fresh (PA M) objs (ob d) (k (.ref (ob d) 0) (upd objs (ob d) (.live cs)) cl)) :
    Does P F E ρ ⟨dst, .box t a, ty, pos, after, gd⟩ w k := by
  obtain ⟨cs, h, hk, hr, hs, _⟩ := cellsAs_sound hx h
  obtain ⟨hd, h⟩ := fresh_iff.1 h
  obtain ⟨hle, hW⟩ := hI.new_obj (t := t) (by unfold ob; omega) hd hr
  refine ⟨_, _, .pointer (some ⟨w.heap.size, 0, none⟩), _, _, _, h, hle, ?_, hW, .inl ?_⟩
  · simp only [Rep]; exact ⟨w.heap.size, upd_same _ _ _, rfl⟩
  · simp [execOp, Instr.box, newVar, newRow]

theorem store_sound (hT : TabOK P T) (hI : WI F E objs cl w) {ρ : Operand → Value} {dst : Option Tmp} {t ty : TypeId} {pos : String} {after : Array Edge} {gd : Option (Nat × Bool)} {k : AV → Os → Cl → Prop} {a b : Operand} {ob i : Nat} {x : AV} {l : List AV}
    (ha : Rep E (.ref ob i) (ρ a)) (hx : Rep E x (ρ b)) (ho : objs ob = some (.live l))
    (h : cellsAs (PA M) (T.ty t) x fun cs => (PA M).chk (Nat.ble (i + cs.length) l.length) (k (.tup []) (upd objs ob (.live (setAt l i cs))) cl)) :
    Does P F E ρ ⟨dst, .store t a b, ty, pos, after, gd⟩ w k := by
  obtain ⟨cs, h, hk, hr, hs, hln, _⟩ := cellsAs_sound hx h
  simp only [PA_chk, Nat.ble_eq] at h
  obtain ⟨hfit, h⟩ := h
  simp only [Rep] at ha
  obtain ⟨g, hg, ha⟩ := ha
  obtain ⟨g', t', vs, h1, h2, h3, h4, h5⟩ := hI.live ob l ho
  rw [hg] at h1; cases h1
  have hvl := h3.length
  have hcl := hr.length
  have hW := hI.store (cs' := setAt l i cs) (vs := setAt vs i (ρ b).cells.toList) ho hg ⟨_, h2⟩ (repL_setAt h3 hr hfit)
  refine ⟨E, _, undef, _, _, _, h, E3.le.refl E, by simp only [Rep]; exact ⟨[], rfl, by simp [RepT]⟩, hW, .inr ⟨?_, rfl⟩⟩
  have hst := run_storeCells_at P g i t' (ρ b).cells.toList 0 vs.toArray w h2 (by simp at hcl ⊢; omega) (hr.all_one)
  simp only [Nat.add_zero] at hst
  have hse : (storeCells ⟨g, i, none⟩ (ρ b).cells.toList).run P w = .ok () (w.setRow g (setAt vs i (ρ b).cells.toList).toArray) := by
    rw [hst, setAt_eq _ _ _ (by simp at hcl ⊢; omega)]
  simp [execOp, Instr.storeAt, ha, Instr.sureAddr, storeVar, hT.sizeAt hk, hs, hse]

theorem capsV_sound {k : List AV → Os → Prop} : ∀ (vs : List AV) (us : List Value) (E : E3) (objs : Os), WI F E objs cl w → RepT E vs us → capsV (PA M) vs objs k →
    ∃ E' cs objs', k cs objs' ∧ E.le E' ∧ WI F E' objs' cl w ∧ RepL E' cs us ∧ cs.all AV.flat1 = true
  | [], us, E, objs, hI, hv, h => by
    have := repT_nil hv
    subst this
    exact ⟨E, [], objs, h, E3.le.refl E, hI, by simp [RepL], rfl⟩
  | v :: vs, us, E, objs, hI, hv, h => by
    simp only [RepT] at hv
    obtain ⟨u, r, rfl, h1, h2⟩ := hv
    unfold capsV at h
    split at h
    · rename_i o
      split at h
      · rename_i cs ho
        simp only [PA_lit] at h
        obtain ⟨hf, h⟩ := h
        obtain ⟨b, vs', g1, g2, g3, g4, g5⟩ := hI.freeze ho hf
        obtain ⟨E', cs', objs', k1, k2, k3, k4, k5⟩ := capsV_sound vs r _ _ g5 (h2.mono g4) h
        refine ⟨E', _, objs', k1, g4.trans k2, k3, ?_, by rw [List.all_cons, k5]; rfl⟩
        simp only [Rep] at h1
        obtain ⟨b', hb', rfl⟩ := h1
        rw [g1] at hb'; cases hb'
        simp only [RepL]
        refine ⟨_, _, rfl, rfl, rfl, ?_, k4⟩
        simp only [Rep]
        exact ⟨b, 0, rfl, hf, vs', g2.mono k2, fun j hj => by rw [Nat.zero_add]; exact S_some k2.S (get_isSome hj) (g3 j hj)⟩
      · rename_i cs ho
        obtain ⟨E', cs', objs', k1, k2, k3, k4, k5⟩ := capsV_sound vs r E objs hI h2 h
        refine ⟨E', _, objs', k1, k2, k3, ?_, by rw [List.all_cons, k5]; rfl⟩
        simp only [Rep] at h1
        obtain ⟨b', hb', rfl⟩ := h1
        obtain ⟨b, vs', g1, g2, g3, g4⟩ := hI.frz o cs ho
        obtain rfl : b = b' := by rw [g1] at hb'; exact Option.some.inj hb'
        simp only [RepL]
        refine ⟨_, _, rfl, rfl, rfl, ?_, k4⟩
        simp only [Rep]
        exact ⟨b, 0, rfl, g2, vs', g3.mono k2, fun j hj => by rw [Nat.zero_add]; exact S_some k2.S (get_isSome hj) (g4 j hj)⟩
      · cases h
    · rename_i cs
      obtain ⟨E', cs', objs', k1, k2, k3, k4, k5⟩ := capsV_sound vs r E objs hI h2 h
      refine ⟨E', _, objs', k1, k2, k3, ?_, by rw [List.all_cons, k5]; rfl⟩
      have h3 := h1.mono k2
      simp only [RepL]
      refine ⟨u, r, rfl, rfl, ?_, h3, k4⟩
      exact (rep_one_cell h3 rfl).1
    · cases h

theorem rep_nilw {w w' : Nat} {l : List AV} {v : Value} (h : Rep E (.lst .nil w l) v) : Rep E (.lst .ro w' l) v := by
  simp only [Rep] at h ⊢
  obtain ⟨a, len, cap, h1, h2, h3, h4, _, h6, _⟩ := h
  obtain ⟨_, _, rfl⟩ := h6 trivial
  exact ⟨a, len, cap, h1, h2, h3, h4, fun h => absurd rfl h, by simp, by simp⟩
theorem rep_demS1 {sh : Sh} {x : AV} {v : Value} (h : Rep E x v) : Rep E (demS1 sh x) v := by
  unfold demS1
  split
  · exact rep_nilw h
  · exact rep_nilw h
  · exact rep_dem1 h
theorem one_demS1 {sh : Sh} {x : AV} (h : x.one = true) : (demS1 sh x).one = true := by
  unfold demS1
  split <;> first | rfl | exact one_dem1 h
theorem repL_demSL : ∀ {shs : List Sh} {l : List AV} {vs : List Value}, RepL E l vs → RepL E (demSL shs l) vs
  | [], l, vs, h => by simpa [demSL] using repL_dem1 h
  | sh :: shs, [], vs, h => by simpa [demSL] using h
  | sh :: shs, x :: l, vs, h => by
    simp only [RepL, demSL] at h ⊢
    obtain ⟨v, r, rfl, h1, h2, h3, h4⟩ := h
    exact ⟨v, r, rfl, one_demS1 h1, h2, rep_demS1 h3, repL_demSL h4⟩
theorem rep_demS {sh : Sh} {x : AV} {v : Value} (h : Rep E x v) : Rep E (demS sh x) v := by
  unfold demS
  split
  · rename_i l
    simp only [Rep] at h
    obtain ⟨vs, rfl, h⟩ := h
    split
    · simp only [Rep]; exact ⟨vs, rfl, repL_demSL h⟩
    · simp only [Rep]; exact ⟨vs, rfl, repL_dem1 h⟩
  · exact rep_demS1 h

theorem SrcE.set {sz : Nat} {r : List AV} {ns : List Value} (h : SrcE E sz r ns) {i : Nat} (hi : i < r.length) {x : AV} {u : Value} (hx : x.flat = true) (hr : Rep E x u) (hs : u.cells.size = sz) :
    SrcE E sz (r.set i x) (setAt ns (i * sz) u.cells.toList) := by
  have hfit : i * sz + u.cells.toList.length ≤ ns.length := by
    rw [h.size]
    have : (i + 1) * sz ≤ r.length * sz := Nat.mul_le_mul_right _ hi
    rw [Nat.add_mul] at this
    simp [hs]
    omega
  refine ⟨by simp [setAt_length, h.size], fun k y hy => ?_⟩
  rw [List.getElem?_set] at hy
  split at hy
  · rename_i e
    subst e
    injection hy with hy
    subst hy
    refine ⟨hx, u, hr, hs, fun j hj => ?_⟩
    rw [setAt_get _ _ _ _ hfit, if_pos ⟨by omega, by simp [hs]; omega⟩]
    simp
  · rename_i hne
    obtain ⟨h1, v, h2, h3, h4⟩ := h.get k y hy
    refine ⟨h1, v, h2, h3, fun j hj => ?_⟩
    rw [setAt_get _ _ _ _ hfit, if_neg, h4 j hj]
    simp only [Array.length_toList, hs]
    rintro ⟨h5, h6⟩
    rcases Nat.lt_or_gt_of_ne hne with h7 | h7
    · have : (i + 1) * sz ≤ k * sz := Nat.mul_le_mul_right _ h7
      rw [Nat.add_mul] at this
      omega
    · have : (k + 1) * sz ≤ i * sz := Nat.mul_le_mul_right _ h7
      rw [Nat.add_mul] at this
      omega
theorem elemsV_sound {td : TD} {ρ : Operand → Value} {k : List AV → Prop} : ∀ (ps : List (Nat × Operand)) (vs z : List AV) (zc : Array Value), SrcE E td.size z zc.toList → RepT E vs (ps.map fun p => ρ p.2) → elemsV (PA M) td z ps vs k →
    ∃ z' zc', k z' ∧ SrcE E td.size z' zc'.toList ∧ z'.length = z.length ∧ Instr.fill (fun i => some (i * td.size, td.size)) zc (ps.map fun p => (p.1, ρ p.2)) = some zc'
  | [], vs, z, zc, hz, hv, h => by
    cases vs with
    | nil => exact ⟨z, zc, h, hz, rfl, rfl⟩
    | cons v vs => simp [RepT] at hv
  | (i, x) :: ps, vs, z, zc, hz, hv, h => by
    cases vs with
    | nil => simp [RepT] at hv
    | cons v vs =>
      simp only [List.map_cons, RepT] at hv
      obtain ⟨u, r, he, hv1, hv2⟩ := hv
      injection he with he1 he2
      subst he1; subst he2
      simp only [elemsV, PA_lit, Bool.and_eq_true, Nat.blt_eq] at h
      obtain ⟨⟨hf, hi⟩, h⟩ := h
      obtain ⟨cs, h, hk, hcs, hsz, hln, _⟩ := cellsAs_sound (rep_demS (sh := td.sh) hv1) h
      have hset := hz.set hi hf (rep_demS (sh := td.sh) hv1) hsz
      obtain ⟨z', zc', h1, h2, h3, h4⟩ := elemsV_sound ps vs _ ((setAt zc.toList (i * td.size) (ρ x).cells.toList).toArray) (by simpa using hset) hv2 h
      refine ⟨z', zc', h1, h2, by simpa using h3, ?_⟩
      simp only [List.map_cons, Instr.fill]
      have hfit : i * td.size + (ρ x).cells.size ≤ zc.size := by
        have h5 := hz.size
        have : (i + 1) * td.size ≤ z.length * td.size := Nat.mul_le_mul_right _ hi
        rw [Nat.add_mul] at this
        simp at h5
        omega
      have hb' : ¬ (((ρ x).cells.size ≠ td.size || decide (i * td.size + (ρ x).cells.size > zc.size)) = true) := by
        simp [hsz]; omega
      have hf := foldl_setAt (ρ x).cells.toList (i * td.size) 0 zc
      simp only [Nat.add_zero] at hf
      have hf' : (Array.foldl (fun cs (y : Value × Nat) => cs.setIfInBounds (i * td.size + y.2) y.1) zc (ρ x).cells.zipIdx) = (setAt zc.toList (i * td.size) (ρ x).cells.toList).toArray := by
        rw [← hf, ← Array.foldl_toList]
        simp
      rw [if_neg hb', hf']
      exact h4

theorem buildSlice_sound (hT : TabOK P T) (hI : WI F E objs cl w) {ρ : Operand → Value} {dst : Option Tmp} {t e ty len : Nat} {pos : String} {after : Array Edge} {gd : Option (Nat × Bool)} {d : Nat} {k : AV → Os → Cl → Prop} {parts : Array (Nat × Operand)} {vs : List AV}
    (ht : (T.ty t).k = .slice e) (hv : RepT E vs (parts.toList.map fun p => ρ p.2)) (hlen0 : 0 < len) (h1 : len * (T.ty e).size ≤ 16777216) (h2 : 0 < (T.ty e).size) (hk : (T.ty e).known = true) (hz : (T.ty e).zero.isEmpty = false) (hzf : (demS (T.ty e).sh (zeroOf (T.ty e))).flat = true)
    (h : elemsV (PA M) (T.ty e) (List.replicate len (demS (T.ty e).sh (zeroOf (T.ty e)))) parts.toList vs fun es => freshN (PA M) cl (.T d) (k (.lst (.own (.T d)) (T.ty e).size es) objs (updN cl (.T d) true))) :
    Does P F E ρ ⟨dst, .buildSlice t len parts, ty, pos, after, gd⟩ w k := by
  obtain ⟨i, z, z1, z2, z3, z4, z5, z6, z7, z8⟩ := zero_of hT hk hz
  have hzr : Rep E (zeroOf (T.ty e)) z := by
    unfold zeroOf
    cases ha : (T.ty e).isAgg with
    | true =>
      obtain ⟨cs, rfl⟩ := z7 ha
      simp only [cond_true, Rep]
      exact ⟨cs.toList, by simp, by simpa [Value.cells] using z6 E⟩
    | false =>
      obtain ⟨hs1, hzo⟩ := z8 ha
      have hl := (z6 E).length
      have hone : (T.ty e).zero.length = 1 := by rw [hl]; simp [z5, z2, hs1]
      obtain ⟨x0, hx0⟩ := List.length_eq_one_iff.1 hone
      have hr := z6 E
      rw [hx0] at hr ⊢
      simp only [RepL] at hr
      obtain ⟨v, r, hv0, o1, o2, o3, rfl⟩ := hr
      simp only [cond_false, List.headD_cons]
      have hzc : z.cells = #[z] := by cases z <;> simp_all [Value.cells, Value.oneCell']
      rw [hzc] at hv0
      injection hv0 with hv0 _
      rw [hv0]
      exact o3
  have hz0 : SrcE E (T.ty e).size (List.replicate len (demS (T.ty e).sh (zeroOf (T.ty e)))) ((Array.range (len * (T.ty e).size)).map (fun j => z.cells[j % z.cells.size]!)).toList := by
    refine ⟨by simp, fun j x hx => ?_⟩
    rw [List.getElem?_replicate] at hx
    split at hx
    · rename_i hj
      injection hx with hx
      subst hx
      refine ⟨hzf, z, rep_demS hzr, by rw [z5, z2], fun q hq => ?_⟩
      have hlt : j * (T.ty e).size + q < len * (T.ty e).size := by
        have : (j + 1) * (T.ty e).size ≤ len * (T.ty e).size := Nat.mul_le_mul_right _ hj
        rw [Nat.add_mul] at this
        omega
      have hm : (j * (T.ty e).size + q) % z.cells.size = q := by
        rw [z5, z2, Nat.add_comm, Nat.add_mul_mod_self_right, Nat.mod_eq_of_lt hq]
      have hql : q < z.cells.size := by rw [z5, z2]; exact hq
      simp [hlt, hm, hql]
    · cases hx
  obtain ⟨es, ec, g1, g2, g3, g4⟩ := elemsV_sound parts.toList vs _ _ hz0 hv h
  obtain ⟨hd, g1⟩ := freshN_iff.1 g1
  have hel : es.length = len := by simpa using g3
  have hec : ec.size = len * (T.ty e).size := by have := g2.size; rw [hel] at this; simpa using this
  have hmax : len ≤ maxLen := by
    have : len ≤ len * (T.ty e).size := Nat.le_mul_of_pos_right _ h2
    simp only [maxLen]; omega
  obtain ⟨E', q1, q2, q3⟩ := hI.new_row (q := .T d) (e := e) (N := len) (cap := len) hd h2 (Nat.le_refl _) hmax hec hel (by
    rw [List.take_of_length_le (by simp [hec])]
    exact g2)
  refine ⟨E', _, _, _, _, _, g1, q1, q2, q3, .inl ?_⟩
  have hu := hT.slice ht
  have hsz := hT.sizeAt hk w
  have hn : ¬ (16777216 < len * (T.ty e).size) := by omega
  have hfill : Instr.fill (fun i => some (i * (T.ty e).size, (T.ty e).size)) ((Array.range (len * (T.ty e).size)).map (fun j => z.cells[j % z.cells.size]!)) (parts.map fun (i, x) => (i, ρ x)).toList = some ec := by
    rw [← g4]; simp
  have h0 : ¬ len * (T.ty e).size = 0 := Nat.ne_of_gt (Nat.mul_pos hlen0 h2)
  simp only [execOp, Instr.buildSlice, Sem.run_bind, run_underlying hu, Result.andThen_ok, hsz]
  simp [hn, h0, zeroValue, typeInfo, z1, z4, newRow] at hfill ⊢
  simp [hfill]

theorem buildSlice0_sound (hT : TabOK P T) (hI : WI F E objs cl w) {ρ : Operand → Value} {dst : Option Tmp} {t e ty : Nat} {pos : String} {after : Array Edge} {gd : Option (Nat × Bool)} {d : Nat} {k : AV → Os → Cl → Prop}
    (ht : (T.ty t).k = .slice e) (h2 : 0 < (T.ty e).size) (hk : (T.ty e).known = true) (h : freshN (PA M) cl (.T d) (k (.lst (.own (.T d)) (T.ty e).size []) objs (updN cl (.T d) true))) :
    Does P F E ρ ⟨dst, .buildSlice t 0 #[], ty, pos, after, gd⟩ w k := by
  obtain ⟨hd, g1⟩ := freshN_iff.1 h
  obtain ⟨E', q1, q2, q3⟩ := hI.new_row (q := .T d) (arr := #[]) (e := e) (N := 0) (cap := 0) (r := []) hd h2 (Nat.le_refl _) (Nat.zero_le _) (by simp) rfl (by simpa using SrcE.nil E (T.ty e).size)
  refine ⟨E', _, _, _, _, _, g1, q1, q2, q3, .inl ?_⟩
  have hu := hT.slice ht
  have hsz := hT.sizeAt hk w
  simp only [execOp, Instr.buildSlice, Sem.run_bind, run_underlying hu, Result.andThen_ok, hsz]
  simp [newRow, Instr.fill]
  congr 2
  exact Array.eq_empty_of_size_eq_zero (by simp)

theorem bytes_sound (hT : TabOK P T) (hI : WI F E objs cl w) {ρ : Operand → Value} {dst : Option Tmp} {s t ty : Nat} {pos : String} {after : Array Edge} {gd : Option (Nat × Bool)} {a : Operand} {k : AV → Os → Cl → Prop} {b : List UInt8}
    (hx : Rep E (.str b) (ρ a)) (hu : isU8 T t = true) (hk : (T.ty s).known = true) (h : k (.lst .ro 1 (encB b)) objs cl) : Does P F E ρ ⟨dst, .convert s t a, ty, pos, after, gd⟩ w k := by
  obtain ⟨e, _, h1, h2, _⟩ := isU8_spec hT hu
  obtain ⟨ds, hs⟩ := known_some hT hk
  simp only [Rep] at hx
  obtain ⟨hx, hlen⟩ := hx
  have hsz : (ByteArray.mk b.toArray).size = b.length := by simp [ByteArray.size]
  have hrun := Lib.run_convert_string_bytes w s t e ⟨b.toArray⟩ hs h1 h2
  have hge := grownCap_ge w (ByteArray.mk b.toArray).size 0 e
  have hcm : grownCap w (ByteArray.mk b.toArray).size 0 e ≤ maxLen := grownCap_le_maxLen w _ 0 e (by rw [hsz]; exact hlen)
  generalize hW : Lib.bytesWorld w e ⟨b.toArray⟩ = W at hrun
  have hold : ∀ j, j < w.heap.size → W.heap[j]? = w.heap[j]? := fun j hj => by rw [← hW]; exact Lib.bytesWorld_at_old w e _ j hj
  have hstep : Step F W := by
    refine ⟨?_, ?_, ?_, ?_, fun i hi ho => ?_⟩
    · rw [← hW]; exact hI.step.os
    · rw [← hW]; exact hI.step.tape
    · rw [← hW]; exact hI.step.output
    · rw [← hW, Lib.bytesWorld_size]; have := hI.step.size; omega
    · rw [hold i (by have := hI.step.size; omega)]; exact hI.step.block i hi ho
  have hW1 := hI.world hstep (fun b' i v hv => by
      have hc := hI.agree b' i v hv
      rw [cell_heap (hold b' (by have := World.block_lt_of_cell? w _ hc; simpa using this))]
      exact hc)
    (fun o cs b' ho hm => hold b' (hI.lt_of_live ho hm)) (fun q v s' g hq hk' hg => hold g (hI.lt_of_claim hq hk' hg))
  have hcell : ∀ (j : Nat) (v : Value), (b.map fun c => Value.int .u8 (c.toNat : Int))[j]? = some v → W.cell? ⟨w.heap.size, 0 + j, none⟩ = some v := by
    intro j v hj
    have hjl : j < b.length := by have := (List.getElem?_eq_some_iff.1 hj).1; simpa using this
    rw [Nat.zero_add, ← hW, Lib.bytesWorld_cell w e _ j (by rw [hsz]; exact hjl)]
    rw [← hj]
    simp [hjl, List.getD]
  have hA := hW1.addS (b := w.heap.size) (lo := 0) (vs := b.map fun c => Value.int .u8 (c.toNat : Int)) (hI.own_new (Nat.le_refl _)) hcell
    (fun o cs ho hm => by have := hI.lt_of_live ho hm; omega) (fun q' v s' t n xs hq' hk' hg _ _ => by have := hI.lt_of_claim hq' hk' hg; omega)
  refine ⟨_, _, .slice (some ⟨w.heap.size, 0, none⟩) (ByteArray.mk b.toArray).size (grownCap w (ByteArray.mk b.toArray).size 0 e), _, _, W, h, addS_le E _ _ _, ?_, hA, .inl ?_⟩
  · simp only [Rep]
    refine ⟨_, _, _, rfl, by rw [hsz]; simp [encB], hge, hcm, fun _ => ⟨w.heap.size, 0, rfl, ?_⟩, by simp, by simp⟩
    refine SrcE.repE (srcE_enc b) fun j hj => ?_
    exact addS_at (fun i v hv => hW1.agree _ i v hv) hcell j hj
  · simp [execOp, hx, hrun]

theorem src_of_list (hI : WI F E objs cl w) {m : Md} {sz : Nat} {r : List AV} {y : Value} (hy : Rep E (.lst m sz r) y) (hsz : 0 < sz) : ∃ news, Src P w sz r.length y news ∧ SrcE E sz r news := by
  simp only [Rep] at hy
  obtain ⟨a, len, cap, rfl, hl, hlc, hcm, he1, _, _⟩ := hy
  subst hl
  cases hr : r with
  | nil =>
    subst hr
    refine ⟨[], ⟨fun W _ => by simp [Builtin.lenOf], fun W _ => ?_, by simp, by simp⟩, SrcE.nil E sz⟩
    cases a <;> simp [Builtin.firstCells, loadCells, loadCellsFrom]
  | cons x r0 =>
    rw [← hr]
    obtain ⟨b, off, rfl, hE⟩ := he1 (by rw [hr]; simp)
    obtain ⟨ns, n1, n2⟩ := srcE_of_repE hE
    refine ⟨ns, ⟨fun W _ => by simp [Builtin.lenOf], fun W hW => ?_, n1.size, n1.one hsz⟩, n1⟩
    refine run_firstCells_some W sz r.length _ _ _ ns n1.size fun j v hj => ?_
    rw [add_off]
    have hc := hI.agree b (off + j) v ((n2 j (List.getElem?_eq_some_iff.1 hj).1).trans hj)
    simpa [World.cell?, hW] using hc
theorem src_of_nil {wd : Nat} {r : List AV} {y : Value} (sz : Nat) (hy : Rep E (.lst .nil wd r) y) : Src P w sz r.length y [] ∧ SrcE E sz r [] := by
  simp only [Rep] at hy
  obtain ⟨a, len, cap, rfl, hl, _, _, _, hn, _⟩ := hy
  obtain ⟨rfl, rfl, rfl⟩ := hn trivial
  simp only [List.length_nil] at hl
  subst hl
  exact ⟨⟨fun W _ => by simp [Builtin.lenOf], fun W _ => by simp [Builtin.firstCells], by simp, by simp⟩, SrcE.nil E sz⟩
theorem src_of_str {s : List UInt8} {y : Value} (hy : Rep E (.str s) y) : Src P w 1 (encB s).length y (s.map fun b => .int .u8 (b.toNat : Int)) ∧ SrcE E 1 (encB s) (s.map fun b => .int .u8 (b.toNat : Int)) := by
  simp only [Rep] at hy
  obtain ⟨rfl, _⟩ := hy
  have hsz : (ByteArray.mk s.toArray).size = s.length := by simp [ByteArray.size]
  refine ⟨⟨fun W _ => by simp [Builtin.lenOf, hsz, encB], fun W _ => ?_, by simp [encB], ?_⟩, srcE_enc s⟩
  · simp only [Builtin.firstCells]
    have : (ByteArray.mk s.toArray).extract 0 (encB s).length = ⟨s.toArray⟩ := by
      apply ByteArray.ext
      rw [ByteArray.data_extract]
      simp [encB]
    rw [this]
    simp
  · intro u hu
    simp only [List.mem_map] at hu
    obtain ⟨b, _, rfl⟩ := hu
    rfl

theorem rep_nil {wd : Nat} {l : List AV} {s : Value} (hs : Rep E (.lst .nil wd l) s) : s = .slice none 0 0 ∧ l = [] := by
  simp only [Rep] at hs
  obtain ⟨a, len, cap, rfl, hl, _, _, _, hn, _⟩ := hs
  obtain ⟨rfl, rfl, rfl⟩ := hn trivial
  simp only [List.length_nil] at hl
  subst hl
  exact ⟨rfl, rfl⟩
theorem append_sound (hT : TabOK P T) (hI : WI F E objs cl w) {ρ : Operand → Value} {dst : Option Tmp} {ty : TypeId} {pos : String} {after : Array Edge} {gd : Option (Nat × Bool)} {k : AV → Os → Cl → Prop} {args : Array Operand} {ats : Array TypeId} {x y : AV} {t u : Nat} {ts : List Nat} {d : Nat}
    (hv : RepT E [x, y] (args.toList.map ρ)) (hts : ats.toList = t :: u :: ts) {e m wd l} (ht : (T.ty t).k = .slice e) (hxe : x = .lst m wd l) {n : Nat} {r : List AV} (hr : r.length = n)
    (hu : (∃ d, P.underlying u = some d ∧ ((∃ e2, d = .slice e2) ∨ d = .string))) (hk : (T.ty e).known = true) (hz : (T.ty e).zero.isEmpty = false) (hsz : 0 < (T.ty e).size) (hby : 0 < (T.ty e).bytes)
    (hsrc : ∀ v, Rep E y v → ∃ news, Src P w (T.ty e).size r.length v news ∧ SrcE E (T.ty e).size r news) (hb : (l.length + n) * (T.ty e).bytes ≤ 140737488355328)
    (h : match m with
      | .nil => cl (.T d) = none ∧ k (.lst (.own (.T d)) (T.ty e).size r) objs (updN cl (.T d) true)
      | .own q => (wd = (T.ty e).size ∧ cl q = some true) ∧ cl (.T d) = none ∧ k (.lst (.own (.T d)) (T.ty e).size (l ++ r)) objs (updN (updN cl q false) (.T d) true)
      | .ro => False) :
    Does P F E ρ ⟨dst, .call { callee := .builtin .append, args := args, argTypes := ats }, ty, pos, after, gd⟩ w k := by
  obtain ⟨sv, yv, he, hxr, hyr⟩ := repT_two hv
  obtain ⟨d, hd, hdd⟩ := hu
  obtain ⟨i, z, z1, z2, z3, z4, z5, _, _, _⟩ := zero_of hT hk hz
  obtain ⟨news, s1, s2⟩ := hsrc yv hyr
  rw [← z2] at s1 s2 hsz h
  rw [← z3] at hby hb
  have hargs : args.map ρ = #[sv, yv] := by
    apply Array.ext'
    simpa using he
  have h0 : ∀ {v w'}, (Builtin.append_ #[t, u] ty #[sv, yv]).run P w = .ok v w' → (execOp ρ ⟨dst, .call { callee := .builtin .append, args := args, argTypes := ats }, ty, pos, after, gd⟩).run P w = .ok (.value v) w' := by
    intro v w' hrun
    have e1 : Builtin.append_ ats ty #[sv, yv] = Builtin.append_ #[t, u] ty #[sv, yv] := by
      have g0 : ats[0]? = some t := by rw [← Array.getElem?_toList, hts]; rfl
      have g1 : ats[1]? = some u := by rw [← Array.getElem?_toList, hts]; rfl
      unfold Builtin.append_
      simp only [g0, g1]
      rfl
    simp [execOp, resolve, invoke, builtin, hargs, e1, hrun]
  subst hxe
  cases m with
  | ro => exact h.elim
  | nil =>
    obtain ⟨rfl, rfl⟩ := rep_nil hxr
    obtain ⟨hd', h⟩ := h
    obtain ⟨E', v, w', g1, g2, g3, g4⟩ := app_none hI (hT.slice ht) hd hdd z1 z4 z5 hsz hby hd' s1 s2 (by simpa [hr] using hb)
    exact ⟨E', _, v, objs, _, w', h, g2, g3, g4, .inl (h0 g1)⟩
  | own q =>
    obtain ⟨⟨rfl, hq⟩, hd', h⟩ := h
    obtain ⟨E', v, w', g1, g2, g3, g4⟩ := app_own hI (hT.slice ht) hd hdd z1 z4 z5 hsz hby hq hd' hxr s1 s2 (by simpa [hr] using hb)
    exact ⟨E', _, v, objs, _, w', h, g2, g3, g4, .inl (h0 g1)⟩
end Go.Proofs.Ythehhlaomiifnaa.V
