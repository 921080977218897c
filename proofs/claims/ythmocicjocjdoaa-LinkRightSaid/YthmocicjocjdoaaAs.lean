/- Functions: what a run of the body shows is a contract. -/
import Derived.Test.YthmocicjocjdoaaAr
set_option linter.unusedVariables false
set_option linter.unusedSimpArgs false
namespace Go.Proofs.Ythmocicjocjdoaa.V
open Go
variable {P : Program} {T : Tab} {M : Meaning} {F : Fr} {E E1 E2 : E3} {objs o1 o2 : Os} {cl c1 c2 : Cl} {w : World}

def OutsOK (outs : List (Nat × List AV)) (o2 : Os) (c2 : Cl) : Prop :=
  ∀ j cs, (j, cs) ∈ outs → o2 j = some (.live (frC (Nm.E j) 0 cs)) ∧ cs.all fitC = true ∧ NamedC c2 (Nm.E j) cs

theorem expO_two : ∀ (l : List (Nat × List Sh)) (o1 : Os) (c1 : Cl) (E2 : E3) (o2 : Os) (c2 : Cl) (k : List (Nat × List AV) → Os → Cl → Prop), Two F E o1 c1 F E2 o2 c2 w → (∀ p i, p ∈ l → c2 (.E p.1 i) = none) → nodupN (l.map (·.1)) = true →
    (∀ p b, p ∈ l → E.mu p.1 = some b → E2.mu p.1 = some b) → expO (PA M) l o1 c1 k →
    ∃ outs o1' c1' E2' o2' c2', k outs o1' c1' ∧ Two F E o1' c1' F E2' o2' c2' w ∧ E2'.mu = E2.mu ∧ E2.le E2' ∧ OutsOK outs o2' c2' ∧ outs.map (·.1) = l.map (·.1) ∧ (∀ o, (∀ p, p ∈ l → p.1 ≠ o) → o2' o = o2 o) ∧ (∀ q, (∀ p i, p ∈ l → q ≠ .E p.1 i) → c2' q = c2 q)
  | [], o1, c1, E2, o2, c2, k, h, _, _, _, hx => ⟨[], o1, c1, E2, o2, c2, hx, h, rfl, E3.le.refl E2, fun _ _ h => (by cases h), rfl, fun _ _ => rfl, fun _ _ => rfl⟩
  | (j, shs) :: l, o1, c1, E2, o2, c2, k, h, hc, hnd, hmu, hx => by
    simp only [List.map_cons] at hnd
    obtain ⟨hnt, hnd⟩ := nodupN_cons hnd
    have hne : ∀ p, p ∈ l → j ≠ p.1 := fun p hp => hnt p.1 (List.mem_map_of_mem hp)
    simp only [expO] at hx
    split at hx
    · rename_i cs ho
      obtain ⟨b, t, vs, k1, k2, k3, k4⟩ := h.a.live j cs ho
      obtain ⟨cs', c1', E2', c2', q0, q2, q3, q4, q5, q6, q7, q8⟩ := expC_two (nm := Nm.E j) (fun i j e => by injection e) shs 0 cs c1 vs E2 c2 _ h (fun i _ => hc _ i (List.mem_cons_self ..)) k3 (expC_out _ _ _ _ _ hx)
      obtain ⟨qf, _, q1⟩ := q0
      have hm2 : E2'.mu j = some b := by rw [q4]; exact hmu _ b (List.mem_cons_self ..) k1
      have g := q2.move_obj ho k1 hm2 k2 q5 (fun b' hb' => by
        have := h.a.pm j b' cs hb' ho
        rw [k1] at this; injection this with this; exact this.symm)
      obtain ⟨outs, o1'', c1'', E2'', o2'', c2'', s1, s2, s3, s4, s5, s6, s7, s8⟩ := expO_two l _ c1' E2' _ c2' _ g
        (fun p i hp => by
          rw [q7 _ (fun i' _ e => by injection e with e _; exact hne p hp e.symm)]
          exact hc p i (List.mem_cons_of_mem _ hp)) hnd (fun p b hp hb => by rw [q4]; exact hmu p b (List.mem_cons_of_mem _ hp) hb) q1
      refine ⟨_, o1'', c1'', E2'', o2'', c2'', s1, s2, s3.trans q4, q3.trans s4, ?_, by simp [s6], ?_, ?_⟩
      · intro j' cs2 hm
        rcases List.mem_cons.1 hm with hm | hm
        · cases hm
          refine ⟨by rw [s7 _ (fun p hp => Ne.symm (hne p hp)), upd_same], qf, fun i x e => ?_⟩
          have := q6 i x e
          rw [Nat.zero_add] at this
          exact named0_congr (s8 _ (fun p i' hp e3 => by injection e3 with e3 _; exact hne p hp e3)) this
        · exact s5 j' cs2 hm
      · intro o hno
        rw [s7 o (fun p hp => hno p (List.mem_cons_of_mem _ hp)), upd_ne _ _ (hno _ (List.mem_cons_self ..))]
      · intro q hq
        rw [s8 q (fun p i hp => hq p i (List.mem_cons_of_mem _ hp)), q7 q (fun i _ => hq _ i (List.mem_cons_self ..))]
    · exact hx.elim

def fitV (outs : List (Nat × List AV)) (x : AV) : Prop := fitU x = true ∨ ∃ o i, x = .ref o i ∧ ∃ cs, (o, cs) ∈ outs
theorem fitV.more {outs : List (Nat × List AV)} {x : AV} {p : Nat × List AV} (h : fitV outs x) : fitV (p :: outs) x := by
  rcases h with h | ⟨o, i, e, cs, h⟩
  · exact .inl h
  · exact .inr ⟨o, i, e, cs, List.mem_cons_of_mem _ h⟩

def ExpR (F : Fr) (E : E3) (w : World) (r : Nat) (us : List Value) (E2 : E3) (o2 : Os) (c2 : Cl) (k : List AV → List (Nat × List AV) → Cl → Prop) : Prop :=
    ∃ res outs o1' c1' E2' o2' c2', k res outs c1' ∧ Two F E o1' c1' F E2' o2' c2' w ∧ E2.le E2' ∧ RepT E2' (frR r res) us ∧ (∀ x, x ∈ res → fitV outs x) ∧ (∀ (p : Nat) v, res[p]? = some v → Named1 c2' (.R (r + p)) v) ∧ OutsOK outs o2' c2' ∧ (∀ j cs, (j, cs) ∈ outs → 64 + r ≤ j) ∧ (outs.map (·.1)).Nodup ∧
      (∀ o, (∀ r', r ≤ r' → o ≠ 64 + r') → o2' o = o2 o) ∧ (∀ q, (∀ r', r ≤ r' → ¬ inP (.R r') q ∧ ∀ i, q ≠ .E (64 + r') i) → c2' q = c2 q)

theorem expR_two : ∀ (shs : List Sh) (r : Nat) (vs : List AV) (us : List Value) (o1 : Os) (c1 : Cl) (E2 : E3) (o2 : Os) (c2 : Cl) (k : List AV → List (Nat × List AV) → Cl → Prop), Two F E o1 c1 F E2 o2 c2 w → RepT E vs us → (∀ r', r ≤ r' → o2 (64 + r') = none ∧ F.mu0 (64 + r') = none) → (∀ r' i, r ≤ r' → c2 (.E (64 + r') i) = none) → (∀ r' q, r ≤ r' → inP (.R r') q → c2 q = none) → expR (PA M) r shs vs o1 c1 k → ExpR F E w r us E2 o2 c2 k
  | [], r, vs, us, o1, c1, E2, o2, c2, k, h, hv, ho, hc, hr, hx => by
    simp only [expR, PA_asN] at hx
    obtain ⟨rfl, hx⟩ := hx
    simp only [RepT] at hv
    subst hv
    exact ⟨[], [], o1, c1, E2, o2, c2, hx, h, E3.le.refl E2, by simp [RepT, frR], fun _ h => (by cases h), fun p v e => (by simp at e), fun _ _ h => (by cases h), fun _ _ h => (by cases h), by simp, fun _ _ => rfl, fun _ _ => rfl⟩
  | sh :: shs, r, vs, us, o1, c1, E2, o2, c2, k, h, hv, ho, hc, hr, hx => by
    simp only [expR, PA_asC] at hx
    obtain ⟨v, vr, rfl, hx⟩ := hx
    simp only [RepT] at hv
    obtain ⟨u, ur, rfl, hv1, hv2⟩ := hv
    have plain : exp1 (PA M) sh (.R r) v c1 (fun v cl => expR (PA M) (r + 1) shs vr o1 cl fun vs outs cl => k (v :: vs) outs cl) → ExpR F E w r (u :: ur) E2 o2 c2 k := fun hx => by
      obtain ⟨v', c1', E2', c2', q0, q2, q3, q4, q5, q6, q7, _, _, _⟩ := exp1_two h (fun q hq => hr r q (Nat.le_refl _) hq) hv1 (exp1_out hx)
      obtain ⟨qf, q1⟩ := q0
      obtain ⟨res, outs, o1', c1'', E2'', o2', c2'', s1, s2, s3, s4, s5, s6, s7, s8, s9, s10, s11⟩ := expR_two shs (r + 1) vr ur o1 c1' E2' o2 c2' _ q2 hv2 (fun r' hr' => ho r' (by omega)) (fun r' i hr' => by rw [q7 _ inP_RE]; exact hc r' i (by omega))
        (fun r' q hr' hq => by rw [q7 q (fun hq' => by have := inP_R hq hq'; omega)]; exact hr r' q (by omega) hq) q1
      refine ⟨_, outs, o1', c1'', E2'', o2', c2'', s1, s2, q3.trans s3, ?_, ?_, ?_, s7, fun j cs hm => by have := s8 j cs hm; omega, s9, fun o hno => s10 o (fun r' hr' => hno r' (by omega)), fun q hq => ?_⟩
      · simp only [frR, RepT]
        exact ⟨u, ur, rfl, q5.mono s3, s4⟩
      · intro x hm
        rcases List.mem_cons.1 hm with rfl | hm
        · exact .inl qf
        · exact s5 x hm
      · intro p x e
        cases p with
        | zero =>
          simp at e
          subst e
          exact named1_congr (fun q hq => s11 q (fun r' hr' => ⟨fun hq' => by have := inP_R hq hq'; omega, fun i e => inP_RE (e ▸ hq)⟩)) q6
        | succ p =>
          simp at e
          have := s6 p x e
          rwa [show r + 1 + p = r + (p + 1) from by omega] at this
      · rw [s11 q (fun r' hr' => hq r' (by omega)), q7 q (hq r (Nat.le_refl _)).1]
    split at hx
    · rename_i os
      split at hx
      · rename_i o
        split at hx
        · rename_i cs hoc
          obtain ⟨b, t, ws, k1, k2, k3, k4⟩ := h.a.live o cs hoc
          obtain ⟨n1, n2⟩ := h.name (j := 64 + r) (b := b) (ho r (Nat.le_refl _)).1
          obtain ⟨cs', c1', E2', c2', q0, q2, q3, q4, q5, q6, q7, q8⟩ := expC_two (nm := Nm.E (64 + r)) (fun i j e => by injection e) os 0 cs c1 ws _ c2 _ n2 (fun i _ => hc r i (Nat.le_refl _)) k3 (expC_out _ _ _ _ _ hx)
          obtain ⟨qf, _, q1⟩ := q0
          have hm2 : E2'.mu (64 + r) = some b := by rw [q4]; exact upd_same _ _ _
          have g := q2.move_obj hoc k1 hm2 k2 q5 (fun b' hb' => by rw [(ho r (Nat.le_refl _)).2] at hb'; cases hb')
          obtain ⟨res, outs, o1', c1'', E2'', o2', c2'', s1, s2, s3, s4, s5, s6, s7, s8, s9, s10, s11⟩ := expR_two shs (r + 1) vr ur _ c1' E2' _ c2' _ g hv2
            (fun r' hr' => ⟨by rw [upd_ne _ _ (by omega), upd_ne _ _ (by omega)]; exact (ho r' (by omega)).1, (ho r' (by omega)).2⟩)
            (fun r' i hr' => by rw [q7 _ (fun i' _ e => by injection e with e _; omega)]; exact hc r' i (by omega))
            (fun r' q hr' hq => by rw [q7 _ (fun i' _ e => inP_RE (e ▸ hq))]; exact hr r' q (by omega) hq) q1
          refine ⟨_, _, o1', c1'', E2'', o2', c2'', s1, s2, (n1.trans q3).trans s3, ?_, ?_, ?_, ?_, ?_, ?_, fun o' hno => ?_, fun q hq => ?_⟩
          · simp only [frR, RepT]
            refine ⟨u, ur, rfl, ?_, s4⟩
            simp only [fr1, fr0, Rep] at hv1 ⊢
            obtain ⟨b', hb', rfl⟩ := hv1
            rw [k1] at hb'; cases hb'
            exact ⟨b, s3.mu _ _ hm2, rfl⟩
          · intro x hm
            rcases List.mem_cons.1 hm with rfl | hm
            · exact .inr ⟨_, _, rfl, cs', List.mem_cons_self ..⟩
            · exact (s5 x hm).more
          · intro p x e
            cases p with
            | zero => simp at e; subst e; trivial
            | succ p =>
              simp at e
              have := s6 p x e
              rwa [show r + 1 + p = r + (p + 1) from by omega] at this
          · intro j cs2 hm
            rcases List.mem_cons.1 hm with hm | hm
            · cases hm
              refine ⟨by rw [s10 _ (fun r' hr' e => by omega), upd_same], qf, fun i x e => ?_⟩
              have := q6 i x e
              rw [Nat.zero_add] at this
              exact named0_congr (s11 _ (fun r' hr' => ⟨fun hq => inP_RE hq, fun i' e => by injection e with e _; omega⟩)) this
            · exact s7 j cs2 hm
          · intro j cs2 hm
            rcases List.mem_cons.1 hm with hm | hm
            · cases hm; exact Nat.le_refl _
            · have := s8 j cs2 hm; omega
          · simp only [List.map_cons, List.nodup_cons]
            refine ⟨fun hm => ?_, s9⟩
            obtain ⟨⟨j, cs2⟩, hm, e⟩ := List.mem_map.1 hm
            have := s8 j cs2 hm
            dsimp only at e
            omega
          · rw [s10 o' (fun r' hr' => hno r' (by omega)), upd_ne _ _ (Ne.symm (hno r (Nat.le_refl _))), upd_ne _ _ (Ne.symm (hno r (Nat.le_refl _)))]
          · rw [s11 q (fun r' hr' => hq r' (by omega)), q7 q (fun i _ => (hq r (Nat.le_refl _)).2 i)]
        · exact hx.elim
      · exact hx.elim
    · exact plain hx
end Go.Proofs.Ythmocicjocjdoaa.V
