/- Pure operations are sound, all together. -/
import Derived.Test.YthmocicjocjdoaaAe
import Derived.Laws.Tables
set_option linter.unusedVariables false
set_option linter.unusedSimpArgs false
namespace Go.Proofs.Ythmocicjocjdoaa.V
open Go
variable {P : Program} {T : Tab} {M : Meaning} {E : E3} {w : World} {W : World → Prop}

theorem setAt_length {β : Type} : ∀ (cs l : List β) (i : Nat), (setAt l i cs).length = l.length
  | [], l, i => by simp [setAt]
  | c :: cs, l, i => by simp [setAt, setAt_length cs]
theorem setAt_get {β : Type} : ∀ (cs l : List β) (i j : Nat), i + cs.length ≤ l.length → (setAt l i cs)[j]? = if i ≤ j ∧ j < i + cs.length then cs[j - i]? else l[j]?
  | [], l, i, j, h => by simp [setAt]; intro h1 h2; omega
  | c :: cs, l, i, j, h => by
    simp only [List.length_cons] at h
    simp only [setAt]
    rw [setAt_get cs (l.set i c) (i + 1) j (by simp; omega)]
    by_cases h1 : i + 1 ≤ j ∧ j < i + 1 + cs.length
    · rw [if_pos h1, if_pos (by simp; omega), show j - i = (j - (i + 1)) + 1 from by omega, List.getElem?_cons_succ]
    · rw [if_neg h1, List.getElem?_set]
      by_cases h2 : i = j
      · subst h2
        rw [if_pos (by simp), if_pos (by omega)]
        simp
      · rw [if_neg h2, if_neg (by simp only [List.length_cons]; omega)]
theorem setAt_eq {β : Type} (cs l : List β) (i : Nat) (h : i + cs.length ≤ l.length) : setAt l i cs = l.take i ++ cs ++ l.drop (i + cs.length) := by
  apply List.ext_getElem?
  intro j
  rw [setAt_get cs l i j h]
  by_cases h1 : i ≤ j
  · by_cases h2 : j < i + cs.length
    · rw [if_pos ⟨h1, h2⟩, List.getElem?_append_left (by simp; omega), List.getElem?_append_right (by simp; omega)]
      simp
      congr 1
      omega
    · rw [if_neg (by omega), List.getElem?_append_right (by simp; omega)]
      simp
      congr 1
      omega
  · rw [if_neg (by omega), List.getElem?_append_left (by simp; omega), List.getElem?_append_left (by simp; omega), List.getElem?_take, if_pos (by omega)]
theorem repL_setAt {l : List AV} {vs : List Value} {i : Nat} {cs : List AV} {us : List Value} (h : RepL E l vs) (hc : RepL E cs us) (hi : i + cs.length ≤ l.length) : RepL E (setAt l i cs) (setAt vs i us) := by
  have e1 := h.length
  have e2 := hc.length
  refine RepL.of_get (by simp [setAt_length, e1]) fun j x v hx hv => ?_
  rw [setAt_get _ _ _ _ hi] at hx
  rw [setAt_get _ _ _ _ (by omega)] at hv
  split at hx
  · rename_i hj
    rw [if_pos (by omega)] at hv
    obtain ⟨v', e, r⟩ := hc.get _ x hx
    rw [hv] at e
    cases e
    exact r
  · rename_i hj
    rw [if_neg (by omega)] at hv
    obtain ⟨v', e, r⟩ := h.get _ x hx
    rw [hv] at e
    cases e
    exact r

theorem cellsAs_sound {td : TD} {x : AV} {u : Value} {k : List AV → Prop} (hx : Rep E x u) (h : cellsAs (PA M) td x k) :
    ∃ cs, k cs ∧ td.known = true ∧ RepL E cs u.cells.toList ∧ u.cells.size = td.size ∧ cs.length = td.size ∧ ((td.isAgg = true ∧ x = .agg cs) ∨ (td.isAgg = false ∧ cs = [x] ∧ x.one = true)) := by
  simp only [cellsAs, PA_lit] at h
  obtain ⟨hk, h⟩ := h
  cases ha : td.isAgg with
  | true =>
    rw [ha] at h
    simp only [cond_true, PA_asA, PA_chk, Nat.beq_eq] at h
    obtain ⟨l, rfl, hl, h⟩ := h
    simp only [Rep] at hx
    obtain ⟨vs, rfl, hv⟩ := hx
    exact ⟨l, h, hk, by simpa [Value.cells] using hv, by simp [Value.cells, ← hv.length, hl], hl, .inl ⟨rfl, rfl⟩⟩
  | false =>
    rw [ha] at h
    simp only [cond_false, PA_lit, Bool.and_eq_true, Nat.beq_eq] at h
    obtain ⟨⟨ho, hs⟩, h⟩ := h
    have hv : u.oneCell' = true ∧ u.cells = #[u] := by
      cases x <;> simp only [Rep] at hx <;> simp only [AV.one] at ho <;> try (cases ho; done)
      · subst hx; exact ⟨rfl, rfl⟩
      · subst hx; exact ⟨rfl, rfl⟩
      · obtain ⟨rfl, _⟩ := hx; exact ⟨rfl, rfl⟩
      · obtain ⟨a, n, c, rfl, _⟩ := hx; exact ⟨rfl, rfl⟩
      · obtain ⟨b, _, rfl⟩ := hx; exact ⟨rfl, rfl⟩
      · obtain ⟨b, o, rfl, _⟩ := hx; exact ⟨rfl, rfl⟩
      · subst hx; exact ⟨rfl, rfl⟩
      · obtain ⟨vs, rfl, _⟩ := hx; exact ⟨rfl, rfl⟩
      · obtain ⟨_, a, n, c, rfl⟩ := hx; exact ⟨rfl, rfl⟩
      · obtain ⟨b, n, c, _, _, rfl⟩ := hx; exact ⟨rfl, rfl⟩
    refine ⟨[x], h, hk, ?_, by rw [hv.2]; simpa using hs.symm, by simpa using hs.symm, .inr ⟨rfl, rfl, ho⟩⟩
    rw [hv.2]
    simp only [RepL]
    exact ⟨u, [], rfl, ho, hv.1, hx, rfl⟩

theorem foldl_setAt : ∀ (us : List Value) (off i : Nat) (cells : Array Value),
    (us.zipIdx i).foldl (fun cs (p : Value × Nat) => cs.setIfInBounds (off + p.2) p.1) cells = (setAt cells.toList (off + i) us).toArray
  | [], off, i, cells => by simp [setAt]
  | u :: us, off, i, cells => by
    simp only [List.zipIdx_cons, List.foldl_cons]
    rw [foldl_setAt us off (i + 1)]
    simp [setAt, Nat.add_assoc]
theorem fill_sound {ρ : Operand → Value} {place : Nat → Option (Nat × TD)} {pl : Nat → Option (Nat × Nat)} (hp : ∀ i off td, place i = some (off, td) → td.known = true → pl i = some (off, td.size)) {k : List AV → Prop} :
    ∀ (ps : List (Nat × Operand)) (vs z : List AV) (zc : Array Value), RepL E z zc.toList → RepT E vs (ps.map fun p => ρ p.2) → fillV (PA M) place z ps vs k →
      ∃ z' zc', k z' ∧ RepL E z' zc'.toList ∧ Instr.fill pl zc (ps.map fun p => (p.1, ρ p.2)) = some zc'
  | [], vs, z, zc, hz, hv, h => by
    cases vs with
    | nil => exact ⟨z, zc, h, hz, rfl⟩
    | cons v vs => simp [RepT] at hv
  | (i, x) :: ps, vs, z, zc, hz, hv, h => by
    cases vs with
    | nil => simp [RepT] at hv
    | cons v vs =>
      simp only [List.map_cons, RepT] at hv
      obtain ⟨u, r, he, hv1, hv2⟩ := hv
      injection he with he1 he2
      subst he1; subst he2
      unfold fillV at h
      split at h
      · cases h
      · rename_i off td hpl
        obtain ⟨cs, h, hk, hcs, hsz, hln, _⟩ := cellsAs_sound hv1 h
        simp only [PA_chk, Nat.ble_eq] at h
        obtain ⟨hfit, h⟩ := h
        have hzl := hz.length
        obtain ⟨z', zc', h1, h2, h3⟩ := fill_sound hp ps vs (setAt z off cs) ((setAt zc.toList off (ρ x).cells.toList).toArray) (by simpa using repL_setAt hz hcs hfit) hv2 h
        refine ⟨z', zc', h1, h2, ?_⟩
        simp only [List.map_cons, Instr.fill, hp i off td hpl hk]
        have hb : ((ρ x).cells.size ≠ td.size || decide (off + (ρ x).cells.size > zc.size)) = false := by
          simp at hzl
          simp [hsz]
          omega
        have hb' : ¬ (((ρ x).cells.size ≠ td.size || decide (off + (ρ x).cells.size > zc.size)) = true) := by rw [hb]; simp
        have hf := foldl_setAt (ρ x).cells.toList off 0 zc
        simp only [Nat.add_zero] at hf
        have hf' : (Array.foldl (fun cs (x : Value × Nat) => cs.setIfInBounds (off + x.2) x.1) zc (ρ x).cells.zipIdx) = (setAt zc.toList off (ρ x).cells.toList).toArray := by
          rw [← hf, ← Array.foldl_toList]
          simp
        rw [if_neg hb', hf']
        exact h3

theorem flat1_one {x : AV} (h : x.flat1 = true) : x.one = true := by cases x <;> simp_all [AV.flat1, AV.one]
theorem rep_one_cell {x : AV} {u : Value} (hx : Rep E x u) (ho : x.one = true) : u.oneCell' = true ∧ u.cells = #[u] := by
  cases x <;> simp only [Rep] at hx <;> simp only [AV.one] at ho <;> try (cases ho; done)
  · subst hx; exact ⟨rfl, rfl⟩
  · subst hx; exact ⟨rfl, rfl⟩
  · obtain ⟨rfl, _⟩ := hx; exact ⟨rfl, rfl⟩
  · obtain ⟨a, n, c, rfl, _⟩ := hx; exact ⟨rfl, rfl⟩
  · obtain ⟨b, _, rfl⟩ := hx; exact ⟨rfl, rfl⟩
  · obtain ⟨b, o, rfl, _⟩ := hx; exact ⟨rfl, rfl⟩
  · subst hx; exact ⟨rfl, rfl⟩
  · obtain ⟨vs, rfl, _⟩ := hx; exact ⟨rfl, rfl⟩
  · obtain ⟨_, a, n, c, rfl⟩ := hx; exact ⟨rfl, rfl⟩
  · obtain ⟨b, n, c, _, _, rfl⟩ := hx; exact ⟨rfl, rfl⟩
theorem flat_cells {x : AV} {u : Value} (hf : x.flat = true) (hx : Rep E x u) : RepL E x.cells u.cells.toList ∧ x.cells.all AV.flat1 = true := by
  have key : x.flat1 = true → x.cells = [x] → RepL E x.cells u.cells.toList ∧ x.cells.all AV.flat1 = true := by
    intro h1 h2
    obtain ⟨g1, g2⟩ := rep_one_cell hx (flat1_one h1)
    rw [h2, g2]
    refine ⟨?_, by simpa using h1⟩
    simp only [RepL]
    exact ⟨u, [], rfl, flat1_one h1, g1, hx, rfl⟩
  cases x with
  | agg l =>
    simp only [Rep] at hx
    obtain ⟨vs, rfl, hv⟩ := hx
    exact ⟨by simpa [Value.cells, AV.cells] using hv, by simpa [AV.flat, AV.cells] using hf⟩
  | _ => exact key hf rfl
/-- What is known of objects: their cells are in memory. -/
def ObjK (E : E3) (objs : Os) (W : World → Prop) : Prop :=
  ∀ o cs, (objs o = some (.live cs) ∨ objs o = some (.frz cs)) → ∃ b vs, E.mu o = some b ∧ RepL E cs vs ∧ ∀ w, W w → ∀ (j : Nat) (v : Value), vs[j]? = some v → w.cell? ⟨b, j, none⟩ = some v

theorem repT_one {x : AV} {us : List Value} (h : RepT E [x] us) : ∃ u, us = [u] ∧ Rep E x u := by
  simp only [RepT] at h
  obtain ⟨v, r, rfl, h1, rfl⟩ := h
  exact ⟨v, rfl, h1⟩
theorem repT_two {x y : AV} {us : List Value} (h : RepT E [x, y] us) : ∃ u v, us = [u, v] ∧ Rep E x u ∧ Rep E y v := by
  simp only [RepT] at h
  obtain ⟨v, r, rfl, h1, v2, r2, rfl, h2, rfl⟩ := h
  exact ⟨v, v2, rfl, h1, h2⟩
theorem repT_three {x y z : AV} {us : List Value} (h : RepT E [x, y, z] us) : ∃ u v t, us = [u, v, t] ∧ Rep E x u ∧ Rep E y v ∧ Rep E z t := by
  simp only [RepT] at h
  obtain ⟨v, r, rfl, h1, v2, r2, rfl, h2, v3, r3, rfl, h3, rfl⟩ := h
  exact ⟨v, v2, v3, rfl, h1, h2, h3⟩
theorem RepT.get : ∀ {l : List AV} {vs : List Value}, RepT E l vs → ∀ (i : Nat) (x : AV), l[i]? = some x → ∃ v, vs[i]? = some v ∧ Rep E x v
  | [], vs, _, i, x, hx => by simp at hx
  | y :: l, vs, r, i, x, hx => by
    simp only [RepT] at r
    obtain ⟨v, r', rfl, h3, h⟩ := r
    cases i with
    | zero => simp at hx; subst hx; exact ⟨v, by simp, h3⟩
    | succ i => simp at hx; simpa using RepT.get h i x hx

theorem mm_sound {isMax : Bool} {k : AV → Prop} : ∀ (l : List AV) (x : AV) (u : Value) (us : List Value), Rep E x u → RepT E l us → mm (PA M) isMax x l k →
    ∃ x' v, k x' ∧ Rep E x' v ∧ ∀ w, (us.foldlM (if isMax then Builtin.max2 else Builtin.min2) u).run P w = .ok v w
  | [], x, u, us, hx, hl, h => by
    simp only [RepT] at hl
    subst hl
    exact ⟨x, u, by cases x <;> simpa [mm] using h, hx, by simp⟩
  | y :: l, x, u, us, hx, hl, h => by
    simp only [RepT] at hl
    obtain ⟨v, r, rfl, h1, h2⟩ := hl
    cases x with
    | int ik a =>
      cases y with
      | int jk b =>
        simp only [mm, PA_lit, decide_eq_true_eq] at h
        obtain ⟨rfl, h⟩ := h
        simp only [Rep] at hx h1
        subst hx; subst h1
        obtain ⟨x', v', g1, g2, g3⟩ := mm_sound l _ (.int ik (bif isMax then (if a < b then b else a) else (if b < a then b else a))) r rep_int h2 h
        refine ⟨x', v', g1, g2, ?_⟩
        intro w
        have g3 := g3 w
        cases isMax <;> simp [Builtin.max2, Builtin.min2] at g3 ⊢ <;> exact g3
      | _ => simp [mm] at h
    | _ => cases y <;> simp [mm] at h

theorem places_known (hT : TabOK P T) : ∀ {fields : List Field}, ((fields.map (fun f => (f.offset, f.type))).all (fun f => (T.ty f.2).known)) = true →
    fields.mapM (fun f => (P.info? f.type).map fun i => (f.offset, i.size)) = some (fields.map fun f => (f.offset, (T.ty f.type).size))
  | [], _ => rfl
  | f :: fs, h => by
    simp only [List.map_cons, List.all_cons, Bool.and_eq_true] at h
    obtain ⟨i, h1, h2, _⟩ := (hT f.type).info h.1
    simp [List.mapM_cons, h1, h2, places_known hT h.2]
set_option maxHeartbeats 2000000 in
theorem pureV_sound (hT : TabOK P T) (hK : ∀ w, W w → Known E w) {objs : Os} (hO : ObjK E objs W) {ρ : Operand → Value} {o : Oper} {vs : List AV} {k : AV → Prop}
    (hv : RepT E vs (o.op.operands.toList.map ρ)) (h : pureV (PA M) T o.op vs objs k) : ∃ x v, k x ∧ Rep E x v ∧ ∀ w, W w → (execOp ρ o).run P w = .ok (.value v) w := by
  obtain ⟨dst, op, ty, pos, after, guard⟩ := o
  dsimp only at hv h
  have lift : ∀ (s : Sem Value) (k' : AV → Prop), Gives P E W s k' → (execOp ρ ⟨dst, op, ty, pos, after, guard⟩ = do pure (.value (← s))) → ∃ x v, k' x ∧ Rep E x v ∧ ∀ w, W w → (execOp ρ ⟨dst, op, ty, pos, after, guard⟩).run P w = .ok (.value v) w := by
    rintro s k' ⟨x, v, h1, h2, h3⟩ he
    exact ⟨x, v, h1, h2, fun w hww => by rw [he]; simp [h3 w hww]⟩
  unfold pureV at h
  split at h
  · rename_i a x
    simp only [Op.operands, List.map_cons, List.map_nil] at hv
    obtain ⟨u, e, hx⟩ := repT_one hv
    injection e with e _; subst e
    exact ⟨x, ρ a, h, hx, fun _ _ => rfl⟩
  · rename_i a x
    simp only [Op.operands, List.map_cons, List.map_nil] at hv
    obtain ⟨u, e, hx⟩ := repT_one hv
    injection e with e _; subst e
    exact ⟨x, ρ a, h, hx, fun _ _ => rfl⟩
  · rename_i c a b xc xa xb
    simp only [Op.operands, List.map_cons, List.map_nil] at hv
    obtain ⟨uc, ua, ub, e, hc, ha, hb⟩ := repT_three hv
    injection e with e1 e; injection e with e2 e; injection e with e3 _
    simp only [PA_asB] at h
    obtain ⟨t, rfl, h⟩ := h
    simp only [Rep] at hc
    subst hc
    cases t
    · exact ⟨xb, ub, h, hb, fun w hww => by simp [execOp, e1, e3, asBool]⟩
    · exact ⟨xa, ua, h, ha, fun w hww => by simp [execOp, e1, e2, asBool]⟩
  · rename_i bo t a b yt x y
    simp only [Op.operands, List.map_cons, List.map_nil] at hv
    obtain ⟨ux, uy, e, hx, hy⟩ := repT_two hv
    injection e with e1 e; injection e with e2 _
    refine lift _ _ (bin_sound (xo := a) (yo := b) hT hx hy h) ?_
    simp only [execOp, ← e1, ← e2]
  · rename_i uo t a x
    simp only [Op.operands, List.map_cons, List.map_nil] at hv
    obtain ⟨ux, e, hx⟩ := repT_one hv
    injection e with e1 _
    refine lift _ _ (un_sound hx h) ?_
    simp only [execOp, ← e1]
  · rename_i a x
    simp only [Op.operands, List.map_cons, List.map_nil] at hv
    obtain ⟨ux, e, hx⟩ := repT_one hv
    injection e with e1 _
    split at h
    · refine ⟨_, ux, h, hx, ?_⟩
      simp only [Rep] at hx
      obtain ⟨b, _, rfl⟩ := hx
      intro w hww
      simp [execOp, e1]
    · refine ⟨_, ux, h, hx, ?_⟩
      simp only [Rep] at hx
      obtain ⟨b, off, rfl, _⟩ := hx
      intro w hww
      simp [execOp, e1]
    · refine ⟨_, ux, h, hx, ?_⟩
      simp only [Rep] at hx
      obtain ⟨vs, rfl, _⟩ := hx
      intro w hww
      simp [execOp, e1]
    · refine ⟨_, ux, h, hx, ?_⟩
      simp only [Rep] at hx
      obtain ⟨b, n, c, _, _, rfl⟩ := hx
      intro w hww
      simp [execOp, e1]
    · cases h
  · rename_i s a f x
    simp only [Op.operands, List.map_cons, List.map_nil] at hv
    obtain ⟨ux, e, hx⟩ := repT_one hv
    injection e with e1 _
    split at h
    · rename_i off ft hf
      simp only [PA_lit, Bool.and_eq_true, Nat.blt_eq] at h
      obtain ⟨⟨hk, hsz⟩, h⟩ := h
      unfold fieldOf at hf
      split at hf
      · rename_i fs hfs
        obtain ⟨fields, hu, hfl⟩ := hT.struct hfs
        rw [← hfl, List.getElem?_map] at hf
        cases hfe : fields.toList[f]? with
        | none => rw [hfe] at hf; cases hf
        | some fe =>
          rw [hfe] at hf
          simp only [Option.map_some, Option.some.injEq, Prod.mk.injEq] at hf
          obtain ⟨rfl, rfl⟩ := hf
          have hfe' : fields[f]? = some fe := by simpa using hfe
          have hplace : ∀ (w : World) b i, (fieldPlace ⟨b, i, none⟩ fe).run P w = .ok ⟨b, i + fe.offset, none⟩ w := by
            intro w b i
            have : (T.ty fe.type).size ≠ 0 := by omega
            simp [fieldPlace, hT.sizeAt hk, this, add_off]
          unfold padd at h
          split at h
          · rename_i ob i
            simp only [Rep] at hx
            obtain ⟨b, hb, rfl⟩ := hx
            refine lift (Instr.fieldAt s (ρ a) f) _ ?_ rfl
            refine gives _ (.pointer (some ⟨b, i + fe.offset, none⟩)) h (by simp only [Rep]; exact ⟨b, hb, rfl⟩) ?_
            intro w hww
            rw [e1]
            simp [Instr.fieldAt, run_underlying hu, hfe', Instr.sureAddr, hplace]
          · rename_i l i
            have hx' := hx
            simp only [Rep] at hx
            obtain ⟨b, of0, rfl, hfl1, vs0, g1, g2⟩ := hx
            refine lift (Instr.fieldAt s (ρ a) f) _ ?_ rfl
            refine gives _ (.pointer (some ⟨b, of0 + i + fe.offset, none⟩)) h (by simp only [Rep]; exact ⟨b, of0, by rw [Nat.add_assoc], hfl1, vs0, g1, g2⟩) ?_
            intro w hww
            rw [e1]
            simp [Instr.fieldAt, run_underlying hu, hfe', Instr.sureAddr, hplace]
          · rename_i q0 w0 i j
            have hx' := hx
            simp only [Rep] at hx
            obtain ⟨b, n0, c0, g1, g2, rfl⟩ := hx
            refine lift (Instr.fieldAt s (ρ a) f) _ ?_ rfl
            refine gives _ (.pointer (some ⟨b, i * w0 + j + fe.offset, none⟩)) h (by simp only [Rep]; exact ⟨b, n0, c0, g1, g2, by rw [Nat.add_assoc]⟩) ?_
            intro w hww
            rw [e1]
            simp [Instr.fieldAt, run_underlying hu, hfe', Instr.sureAddr, hplace]
          · cases h
      · cases hf
    · cases h
  · -- field of a value
    rename_i s a f x
    simp only [Op.operands, List.map_cons, List.map_nil] at hv
    obtain ⟨ux, e, hx⟩ := repT_one hv
    injection e with e1 _
    simp only [PA_asA] at h
    obtain ⟨l, rfl, h⟩ := h
    simp only [Rep] at hx
    obtain ⟨cs, rfl, hl⟩ := hx
    split at h
    · rename_i off ft hf
      unfold fieldOf at hf
      split at hf
      · rename_i fs hfs
        obtain ⟨fields, hu, hfl⟩ := hT.struct hfs
        rw [← hfl, List.getElem?_map] at hf
        cases hfe : fields.toList[f]? with
        | none => rw [hfe] at hf; cases hf
        | some fe =>
          rw [hfe] at hf
          simp only [Option.map_some, Option.some.injEq, Prod.mk.injEq] at hf
          obtain ⟨rfl, rfl⟩ := hf
          have hfe' : fields[f]? = some fe := by simpa using hfe
          refine lift (Instr.field s (ρ a) f) _ ?_ rfl
          obtain ⟨x', v', g1, g2, g3⟩ := part2_sound (W := W) hT hl h
          refine gives x' v' g1 g2 ?_
          intro w hww
          rw [e1]
          simp [Instr.field, run_underlying hu, hfe', asAgg, g3 w hww]
      · cases hf
    · cases h
  · -- load
    rename_i t a x
    simp only [Op.operands, List.map_cons, List.map_nil] at hv
    obtain ⟨ux, e, hx⟩ := repT_one hv
    injection e with e1 _
    split at h
    · rename_i l i
      have hx' := hx
      simp only [Rep] at hx'
      obtain ⟨b, off, rfl, _, us, hl, hSS⟩ := hx'
      have hc : ∀ w, W w → ∀ (j : Nat) (v : Value), us[j]? = some v → w.cell? ⟨b, off + j, none⟩ = some v := fun w hww j v hj => (hK w hww).agree _ _ _ (by rw [hSS j (List.getElem?_eq_some_iff.1 hj).1, hj])
      obtain ⟨x', v', g1, g2, g3⟩ := part_sound hT hl hc h
      refine lift (Instr.loadAt t (ρ a)) _ (gives x' v' g1 g2 ?_) rfl
      intro w hww
      rw [e1]
      simp [Instr.loadAt, Instr.sureAddr, g3 w hww]
    · rename_i ob i
      simp only [Rep] at hx
      obtain ⟨b, hb, rfl⟩ := hx
      have key : ∀ cs, (objs ob = some (.live cs) ∨ objs ob = some (.frz cs)) → part (PA M) (T.ty t) cs i k →
          ∃ x v, k x ∧ Rep E x v ∧ ∀ w, W w → (execOp ρ ⟨dst, .load t a, ty, pos, after, guard⟩).run P w = .ok (.value v) w := by
        intro cs hcs h
        obtain ⟨b', us, hb', hl, hc⟩ := hO ob cs hcs
        rw [hb] at hb'
        cases hb'
        obtain ⟨x', v', g1, g2, g3⟩ := part_sound (off := 0) hT hl (by simpa using hc) h
        refine lift (Instr.loadAt t (ρ a)) _ (gives x' v' g1 g2 ?_) rfl
        intro w hww
        rw [e1]
        simp only [Nat.zero_add] at g3
        simp [Instr.loadAt, Instr.sureAddr, g3 w hww]
      split at h
      · rename_i cs hcs
        exact key cs (.inl hcs) h
      · rename_i cs hcs
        exact key cs (.inr hcs) h
      · cases h
    · cases h
  · -- the address of an element
    rename_i t a ia x ix
    simp only [Op.operands, List.map_cons, List.map_nil] at hv
    obtain ⟨ux, ui, e, hx, hi⟩ := repT_two hv
    injection e with e1 e; injection e with e2 _
    split at h
    · rename_i el m wd l ik n ht
      simp only [PA_lit, Bool.and_eq_true, Nat.beq_eq, PA_nthI] at h
      obtain ⟨⟨hw, hek⟩, h0, v, hvn, h⟩ := h
      have h := shape_same h
      have hu := hT.slice ht
      simp only [Rep] at hi
      subst hi
      simp only [Rep] at hx
      obtain ⟨ba, len, cap, rfl, hl, hlc, hcm, he1, _, _⟩ := hx
      have hlt : n.toNat < l.length := (List.getElem?_eq_some_iff.1 hvn).1
      obtain ⟨b, off, rfl, hE⟩ := he1 (by intro h0; subst h0; simp at hlt)
      obtain ⟨g1, u, g2, g3, g4⟩ := hE.get _ v hvn
      have hsz : ∀ w, (sizeOf el).run P w = .ok (T.ty el).size w := fun w => hT.sizeAt hek w
      refine lift (Instr.indexAt t (ρ a) (ρ ia)) _ (gives _ (.pointer (some ⟨b, off + n.toNat * wd + 0, none⟩)) h ?_ ?_) rfl
      · have hcell : RepL E v.cells u.cells.toList ∧ v.cells.all AV.flat1 = true := flat_cells g1 g2
        simp only [Rep]
        refine ⟨b, off + n.toNat * wd, rfl, hcell.2, u.cells.toList, hcell.1, fun j hj => ?_⟩
        rw [g4 j (by simpa [g3] using hj)]
        simp
      · intro w hww
        rw [e1, e2]
        have : n < (len : Int) := by omega
        simp [Instr.indexAt, asIntOf, run_underlying hu, h0, this, hsz, add_off, hw]
    · rename_i len el ob i ik n ht
      simp only [PA_lit, PA_idxN] at h
      obtain ⟨hek, ⟨h0, h1⟩, h⟩ := h
      have hu := hT.array ht
      simp only [Rep] at hi
      subst hi
      simp only [Rep] at hx
      obtain ⟨b, hb, rfl⟩ := hx
      have hsz : ∀ w, (sizeOf el).run P w = .ok (T.ty el).size w := fun w => hT.sizeAt hek w
      refine lift (Instr.indexAt t (ρ a) (ρ ia)) _ (gives _ (.pointer (some ⟨b, i + n.toNat * (T.ty el).size, none⟩)) h (by simp only [Rep]; exact ⟨b, hb, rfl⟩) ?_) rfl
      intro w hww
      rw [e1, e2]
      simp [Instr.indexAt, asIntOf, run_underlying hu, h0, h1, hsz, add_off, Instr.sureAddr]
    · rename_i len el l i ik n ht
      simp only [PA_lit, PA_idxN] at h
      obtain ⟨hek, ⟨h0, h1⟩, h⟩ := h
      have hu := hT.array ht
      simp only [Rep] at hi
      subst hi
      simp only [Rep] at hx
      obtain ⟨b, off, rfl, hf1, vs0, q1, q2⟩ := hx
      have hsz : ∀ w, (sizeOf el).run P w = .ok (T.ty el).size w := fun w => hT.sizeAt hek w
      refine lift (Instr.indexAt t (ρ a) (ρ ia)) _ (gives _ (.pointer (some ⟨b, off + i + n.toNat * (T.ty el).size, none⟩)) h (by simp only [Rep]; exact ⟨b, off, by rw [Nat.add_assoc], hf1, vs0, q1, q2⟩) ?_) rfl
      intro w hww
      rw [e1, e2]
      simp [Instr.indexAt, asIntOf, run_underlying hu, h0, h1, hsz, add_off, Instr.sureAddr]
    · cases h
  · -- an element of a value
    rename_i t a ia x ix
    simp only [Op.operands, List.map_cons, List.map_nil] at hv
    obtain ⟨ux, ui, e, hx, hi⟩ := repT_two hv
    injection e with e1 e; injection e with e2 _
    split at h
    · rename_i s ik n ht
      simp only [PA_nthI] at h
      obtain ⟨h0, b, hb, h⟩ := h
      have hu := hT.str ht
      simp only [Rep] at hi hx
      subst hi
      obtain ⟨rfl, hl⟩ := hx
      have hlt : n.toNat < s.length := (List.getElem?_eq_some_iff.1 hb).1
      have hbe : s[n.toNat] = b := (List.getElem?_eq_some_iff.1 hb).2
      refine lift (Instr.index t (ρ a) (ρ ia)) _ (gives _ _ h rep_int ?_) rfl
      intro w hww
      rw [e1, e2, run_index_string w t _ ik n hu]
      have hsz : (ByteArray.mk s.toArray).size = s.length := by simp [ByteArray.size]
      rw [dif_pos ⟨h0, by rw [hsz]; omega⟩]
      have hg : (ByteArray.mk s.toArray)[n.toNat]'(by rw [hsz]; exact hlt) = b := by
        rw [← hbe]
        rfl
      rw [hg]
    · rename_i len el l ik n ht
      simp only [PA_lit, PA_idxN] at h
      obtain ⟨hek, ⟨h0, h1⟩, h⟩ := h
      have hu := hT.array ht
      simp only [Rep] at hi hx
      subst hi
      obtain ⟨cs, rfl, hl⟩ := hx
      obtain ⟨x', v', g1, g2, g3⟩ := part2_sound (W := W) hT hl h
      refine lift (Instr.index t (ρ a) (ρ ia)) _ (gives x' v' g1 g2 ?_) rfl
      intro w hww
      rw [e1, e2]
      simp [Instr.index, asIntOf, run_underlying hu, h0, h1, hT.sizeAt hek, g3 w hww]
    · cases h
  · -- a slice expression
    rename_i t a lo hi mx x vs
    simp only [Op.operands, Array.toList_append, List.map_append, List.map_cons, List.map_nil, List.cons_append, List.nil_append] at hv
    simp only [RepT] at hv
    obtain ⟨u, r, e, hx, hr⟩ := hv
    injection e with e1 e2
    subst e2
    have hr' : RepT E vs ((lo.map ρ).toList ++ (hi.map ρ).toList ++ (mx.map ρ).toList) := by
      have : ∀ (o : Option Operand), List.map ρ o.toArray.toList = (o.map ρ).toList := by intro o; cases o <;> rfl
      simpa only [this, List.append_assoc] using hr
    refine lift (Instr.sliceAt t (ρ a) (lo.map ρ) (hi.map ρ) (mx.map ρ)) _ ?_ rfl
    rw [e1]
    exact slice_sound hT hx hr' h
  · -- a component
    rename_i a i x
    simp only [Op.operands, List.map_cons, List.map_nil] at hv
    obtain ⟨ux, e, hx⟩ := repT_one hv
    injection e with e1 _
    split at h
    · rename_i l
      simp only [PA_nthE] at h
      obtain ⟨y, hy, h⟩ := h
      simp only [Rep] at hx
      obtain ⟨us, rfl, hl⟩ := hx
      obtain ⟨v, hv1, hv2⟩ := hl.get i y hy
      refine lift (Instr.extract (ρ a) i) _ (gives _ _ h hv2 ?_) rfl
      intro w hww
      rw [e1]
      simp [Instr.extract, hv1]
    · cases h
  · -- a struct or array out of parts
    rename_i vs' t parts
    simp only [PA_lit, Bool.and_eq_true, Bool.not_eq_true'] at h
    obtain ⟨⟨⟨ha, hz⟩, hpk⟩, h⟩ := h
    have hk : (T.ty t).known = true := by unfold TD.isAgg at ha; unfold TD.known; split at ha <;> simp_all
    obtain ⟨i, hi1, hi2, hi3, hi4⟩ := (hT t).info hk
    obtain ⟨z, hz1, hz2, hz3, _, hz4⟩ := hi4 hz
    obtain ⟨zc, rfl⟩ := hz3 ha
    have hv' : RepT E vs (parts.toList.map fun p => ρ p.2) := by
      simpa [Op.operands, Function.comp_def] using hv
    refine lift (Instr.build t (parts.map fun (i, x) => (i, ρ x))) _ ?_ rfl
    have fin : ∀ (pl : Nat → Option (Nat × Nat)), (∀ i off td, placeS T (T.ty t) i = some (off, td) → td.known = true → pl i = some (off, td.size)) →
        ∃ zc', Instr.fill pl zc (parts.toList.map fun p => (p.1, ρ p.2)) = some zc' ∧ ∃ z', k (.agg z') ∧ Rep E (.agg z') (.agg zc') := by
      intro pl hp
      obtain ⟨z', zc', g1, g2, g3⟩ := fill_sound (pl := pl) hp parts.toList vs (T.ty t).zero zc (by simpa [Value.cells] using hz4 E) hv' h
      exact ⟨zc', g3, z', g1, by simp only [Rep]; exact ⟨zc'.toList, by simp, g2⟩⟩
    have hmap : ∀ (pl : Nat → Option (Nat × Nat)), Instr.fill pl zc (parts.map fun (i, x) => (i, ρ x)).toList = Instr.fill pl zc (parts.toList.map fun p => (p.1, ρ p.2)) := by
      intro pl
      simp
    unfold partsK at hpk
    split at hpk
    · rename_i fs hfs
      obtain ⟨fields, hu, hfl⟩ := hT.struct hfs
      have hpl := places_known hT (fields := fields.toList) (by rw [hfl]; exact hpk)
      have hr := fun w => run_places (P := P) w _ _ hpl
      obtain ⟨zc', g1, z', g2, g3⟩ := fin (fun i => ((fields.toList.map fun f => (f.offset, (T.ty f.type).size)).toArray)[i]?) (by
        intro i off td hp _
        unfold placeS at hp
        rw [hfs] at hp
        dsimp only at hp
        split at hp
        · rename_i off' t' hfi
          injection hp with hp
          injection hp with e1 e2
          subst e1; subst e2
          rw [← hfl, List.getElem?_map] at hfi
          cases hfe : fields.toList[i]? with
          | none => rw [hfe] at hfi; cases hfi
          | some fe =>
            rw [hfe] at hfi
            simp only [Option.map_some, Option.some.injEq, Prod.mk.injEq] at hfi
            obtain ⟨rfl, rfl⟩ := hfi
            simp only [Array.getElem?_toList] at hfe
            simp [hfe]
        · cases hp)
      refine gives _ _ g2 g3 ?_
      intro w hww
      simp only [Instr.build, zeroValue, typeInfo, hi1, hz1, Sem.run_bind, run_program, Result.andThen_ok, Sem.run_pure, run_underlying hu, Value.cells, Array.mapM_eq_mapM_toList]
      simp at g1
      simp [hr, g1]
    · rename_i n el hfs
      have hu := hT.array hfs
      obtain ⟨zc', g1, z', g2, g3⟩ := fin (fun i => some (i * (T.ty el).size, (T.ty el).size)) (by
        intro i off td hp _
        unfold placeS at hp
        rw [hfs] at hp
        injection hp with hp
        injection hp with e1 e2
        subst e1; subst e2
        rfl)
      refine gives _ _ g2 g3 ?_
      intro w hww
      simp only [Instr.build, zeroValue, typeInfo, hi1, hz1, Sem.run_bind, run_program, Result.andThen_ok, Sem.run_pure, run_underlying hu, Value.cells, hT.sizeAt hpk]
      simp [g1]
    · cases hpk
  · -- len, min, max
    rename_i vs' b args ats
    have ho : (Op.call { callee := .builtin b, args := args, argTypes := ats }).operands.toList = args.toList := by simp [Op.operands, Call.operands]
    rw [ho] at hv
    split at h
    · rename_i x t hts
      obtain ⟨u, e, hx⟩ := repT_one hv
      have hrun : ∀ v, (∀ w, (Builtin.len_ ats ty (args.map ρ)).run P w = .ok v w) → ∀ w, W w → (execOp ρ ⟨dst, .call { callee := .builtin .len, args := args, argTypes := ats }, ty, pos, after, guard⟩).run P w = .ok (.value v) w := by
        intro v hv w hww
        simp [execOp, resolve, invoke, builtin, hv w]
      have h1 : (args.map ρ)[0]? = some u := by
        rw [← Array.getElem?_toList, Array.toList_map, e]; rfl
      have h2 : ats[0]? = some t := by
        rw [← Array.getElem?_toList, hts]; rfl
      split at h
      · rename_i n el ht
        refine ⟨_, _, h, rep_int, hrun _ ?_⟩
        intro w
        simp only [Builtin.len_, h1, h2, Sem.run_bind, run_underlying (hT.array ht), Result.andThen_ok]
        cases u <;> rfl
      · rename_i el ht
        cases x <;> simp only [lenOf, PA_asm, PA_fail] at h
        · rename_i m wd l
          simp only [Rep] at hx
          obtain ⟨a, len, cap, rfl, hl, hlc, hcm, _⟩ := hx
          refine ⟨_, _, h (by omega), rep_int, hrun _ ?_⟩
          intro w
          simp only [Builtin.len_, h1, h2, Sem.run_bind, run_underlying (hT.slice ht), Result.andThen_ok]
          rw [hl]
          rfl
      · rename_i ht
        cases x <;> simp only [lenOf, PA_asm, PA_fail] at h
        · simp only [Rep] at hx
          obtain ⟨rfl, hl⟩ := hx
          rename_i s
          refine ⟨_, _, h hl, rep_int, hrun _ ?_⟩
          intro w
          simp only [Builtin.len_, h1, h2, Sem.run_bind, run_underlying (hT.str ht), Result.andThen_ok]
          have hsz : (ByteArray.mk s.toArray).size = s.length := by simp [ByteArray.size]
          rw [hsz]
          rfl
      · cases h
    · rename_i x r
      simp only [RepT] at hv
      obtain ⟨u, us, e, hx, hr⟩ := hv
      obtain ⟨x', v', g1, g2, g3⟩ := mm_sound (P := P) (isMax := false) r x u us hx hr h
      refine ⟨x', v', g1, g2, ?_⟩
      intro w hww
      have g3 := g3 w
      have : (Builtin.min_ ats ty (args.map ρ)).run P w = .ok v' w := by
        simp only [Builtin.min_, Array.toList_map, e]
        exact g3
      simp [execOp, resolve, invoke, builtin, this]
    · rename_i x r
      simp only [RepT] at hv
      obtain ⟨u, us, e, hx, hr⟩ := hv
      obtain ⟨x', v', g1, g2, g3⟩ := mm_sound (P := P) (isMax := true) r x u us hx hr h
      refine ⟨x', v', g1, g2, ?_⟩
      intro w hww
      have g3 := g3 w
      have : (Builtin.max_ ats ty (args.map ρ)).run P w = .ok v' w := by
        simp only [Builtin.max_, Array.toList_map, e]
        exact g3
      simp [execOp, resolve, invoke, builtin, this]
    · cases h
  · cases h
end Go.Proofs.Ythmocicjocjdoaa.V
