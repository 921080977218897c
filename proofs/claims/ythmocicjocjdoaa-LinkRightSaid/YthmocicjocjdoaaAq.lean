/- Loop heads are sound; code is sound. -/
import Derived.Test.YthmocicjocjdoaaAp
import Derived.LoopN
set_option linter.unusedVariables false
set_option linter.unusedSimpArgs false
namespace Go.Proofs.Ythmocicjocjdoaa.V
open Go
variable {P : Program} {T : Tab} {M : Meaning} {F : Fr} {E E1 E2 : E3} {objs o1 o2 : Os} {cl c1 c2 : Cl} {w : World}

def startE (E : E3) (kept : Nat → Bool) : E3 := ⟨E.S, fun o => if kept o then E.mu o else none, fun _ => none⟩
theorem Two.start (h : WI F E objs cl w) (kept : Nat → Bool) : Two F E objs cl F (startE E kept) (fun o => if kept o then some .dead else none) (fun _ => none) w := by
  have nolive : ∀ o cs, ¬ ((fun o => if kept o then some Ob.dead else none) o = some (.live cs)) := by
    intro o cs ho
    dsimp only at ho
    split at ho <;> cases ho
  refine ⟨h, ?_, rfl, fun _ h => h, fun o o' cs cs' g _ ho => absurd ho (nolive _ _), fun o cs g q v s _ _ hq => (by cases hq), fun o cs g q v s ho => absurd ho (nolive _ _), fun q q' v v' s s' g _ hq => (by cases hq)⟩
  refine { agree := h.agree, live := fun o cs ho => absurd ho (nolive _ _), frz := ?_, claim := fun q hq => (by cases hq), rows := fun q l hq => (by cases hq), oo := fun o o' cs cs' b ho => absurd ho (nolive _ _), cc := fun q q' v v' s s' g hq => (by cases hq), oc := fun o cs b q v s ho => absurd ho (nolive _ _), mdom := ?_, kdom := fun q x hq => (by cases hq), step := h.step, base := h.base, sdom := h.sdom, pm := fun j b cs _ ho => absurd ho (nolive _ _) }
  · intro o cs ho
    split at ho <;> cases ho
  · intro o b ho
    simp only [startE] at ho ⊢
    split at ho
    · rename_i hk; simp [hk]
    · cases ho

theorem Two.keep_frz (h : Two F E o1 c1 F E2 o2 c2 w) {o : Nat} {cs : List AV} (ho : o1 o = some (.frz cs)) (hm : ∀ b, E.mu o = some b → E2.mu o = some b) : Two F E o1 c1 F E2 (upd o2 o (.frz cs)) c2 w := by
  obtain ⟨b, vs, k1, k2, k3, k4⟩ := h.a.frz o cs ho
  have hold : ∀ {p : Nat} {c : List AV}, upd o2 o (.frz cs) p = some (.live c) → p ≠ o ∧ o2 p = some (.live c) := by
    intro p c hp
    rcases upd_live hp with ⟨_, e⟩ | h
    · cases e
    · exact h
  refine ⟨h.a, ?_, h.S, h.own, ?_, h.oc, ?_, h.cc⟩
  · refine { h.b with live := ?_, frz := ?_, oo := ?_, oc := ?_, mdom := ?_, pm := ?_, claim := h.b.claim }
    · intro p c hp; exact h.b.live p c (hold hp).2
    · intro p c hp
      by_cases hop : o = p
      · subst hop
        rw [upd_same] at hp
        cases hp
        exact ⟨b, vs, hm _ k1, k2, RepL.flat_mono (E := E) (F := E2) (eS h.S) k2 k3, fun j hj => by rw [h.S]; exact k4 j hj⟩
      · rw [upd_ne _ _ hop] at hp; exact h.b.frz p c hp
    · intro p p' c c' g hp hp'; exact h.b.oo p p' c c' g (hold hp).2 (hold hp').2
    · intro p c g q v s hp; exact h.b.oc p c g q v s (hold hp).2
    · intro p b' hp
      by_cases hop : o = p
      · subst hop; rw [upd_same]; simp
      · rw [upd_ne _ _ hop]; exact h.b.mdom p b' hp
    · intro p b' c hj hp; exact h.b.pm p b' c hj (hold hp).2
  · intro p p' c c' g hp hp'; exact h.oo p p' c c' g hp (hold hp').2
  · intro p c g q v s hp; exact h.co p c g q v s (hold hp).2

def fitR (kept : Nat → Bool) (N : Nm → Prop) (x : AV) : Prop := OkF N x ∨ ∃ o i, x = .ref o i ∧ kept o = true
theorem fitR.mono {kept : Nat → Bool} {N N' : Nm → Prop} (h : ∀ q, N q → N' q) {x : AV} (k : fitR kept N x) : fitR kept N' x := k.imp (fun k => k.mono h) id
theorem inP_L {t t' : Nat} {q : Nm} (h : inP (.L t) q) (h' : inP (.L t') q) : t = t' := by
  rcases h with rfl | ⟨i, rfl⟩ <;> rcases h' with e | ⟨i', e⟩ <;> simp_all [subN]
theorem inP_LO {t o i : Nat} (h : inP (.L t) (.O o i)) : False := by
  rcases h with h | ⟨i, h⟩ <;> simp [subN] at h

theorem nodupN_cons {x : Nat} {l : List Nat} (h : nodupN (x :: l) = true) : (∀ y, y ∈ l → x ≠ y) ∧ nodupN l = true := by
  simp only [nodupN, Bool.and_eq_true, Bool.not_eq_true'] at h
  refine ⟨fun y hy e => ?_, h.2⟩
  have := List.any_eq_false.1 h.1 y hy
  subst e
  simp at this

def KeepsE (F : Fr) (E : E3) (objs o2 : Os) (w : World) (a : Act) (kept : Nat → Bool) (E2 : E3) (c2 : Cl) (l : List (Nat × Sh)) (k : List AV → Cl → Prop) : Prop :=
  ∃ es c1' E2' c2', k es c1' ∧ Two F E objs c1' F E2' o2 c2' w ∧ E2'.mu = E2.mu ∧ E2.le E2' ∧ (∀ t x, (t, x) ∈ zipE l es → t < a.tmps.size ∧ Rep E2' x (a.tmps.getD t undef) ∧ fitR kept (fun q => ∃ c, (q, c) ∈ nmsE l es) x) ∧ (∀ q c, (q, c) ∈ nmsE l es → GoodN c2' q c) ∧ (∀ q, c2 q ≠ none → c2' q = c2 q) ∧ (∀ o i, c2' (.O o i) = c2 (.O o i))
theorem keepE_two {kept : Nat → Bool} {env : Ev} {a : Act} (hE : EnvOK E env a) : ∀ (l : List (Nat × Sh)) (c1 : Cl) (E2 : E3) (c2 : Cl) (k : List AV → Cl → Prop), Two F E objs c1 F E2 o2 c2 w → (∀ p, p ∈ l → ∀ q, inP (.L p.1) q → c2 q = none) → nodupN (l.map (·.1)) = true →
    (∀ o b, kept o = true → E.mu o = some b → E2.mu o = some b) → keepE (PA M) kept l env c1 k →
    KeepsE F E objs o2 w a kept E2 c2 l k
  | [], c1, E2, c2, k, h, _, _, _, hx => ⟨[], c1, E2, c2, hx, h, rfl, E3.le.refl E2, fun _ _ h => (by cases h), fun _ _ h => (by simp [nmsE] at h), fun _ _ => rfl, fun _ _ => rfl⟩
  | (t, sh) :: l, c1, E2, c2, k, h, hc, hnd, hmu, hx => by
    simp only [List.map_cons] at hnd
    obtain ⟨hnt, hnd⟩ := nodupN_cons hnd
    simp only [keepE, PA_orFail] at hx
    obtain ⟨v, hv, hx⟩ := hx
    obtain ⟨g1, g2⟩ := hE t v hv
    have plain : (∀ v vs, zipE ((t, sh) :: l) (v :: vs) = (t, frS sh (.L t) v) :: zipE l vs) → (∀ v vs, nmsE ((t, sh) :: l) (v :: vs) = nmS sh (.L t) v ++ nmsE l vs) → exp1 (PA M) sh (.L t) v c1 (fun v cl => keepE (PA M) kept l env cl fun es cl => k (v :: es) cl) → KeepsE F E objs o2 w a kept E2 c2 ((t, sh) :: l) k := fun hz hzn hx => by
      obtain ⟨v', c1', E2', c2', q0, q2, q3, q4, q5, q6, q7, _, q9, q10⟩ := exp1_two h (hc _ (List.mem_cons_self ..)) g2 (exp1_out hx)
      obtain ⟨qf, q1⟩ := q0
      obtain ⟨es, c1'', E2'', c2'', s1, s2, s3, s4, s5, s6, s7, s8⟩ := keepE_two hE l c1' E2' c2' _ q2 (fun p hp q hq => by
          rw [q7 q (fun e => hnt p.1 (List.mem_map_of_mem hp) (inP_L e hq))]
          exact hc p (List.mem_cons_of_mem _ hp) q hq) hnd (fun o b hk hb => by rw [q4]; exact hmu o b hk hb) q1
      have pers : ∀ q, c2 q ≠ none → c2' q = c2 q := fun q hq => q7 q (fun e => hq (hc _ (List.mem_cons_self ..) q e))
      refine ⟨_, c1'', E2'', c2'', s1, s2, s3.trans q4, q3.trans s4, ?_, ?_, fun q hq => by rw [s7 q (by rw [pers q hq]; exact hq), pers q hq], fun o i => by rw [s8, q7 _ inP_LO]⟩
      · intro t' x hx
        rw [hz] at hx
        rw [hzn, q10]
        rcases List.mem_cons.1 hx with hx | hx
        · cases hx
          rw [q9]
          exact ⟨g1, q5.mono s4, .inl ((ok1_of_fit qf).mono fun q ⟨c, hc⟩ => ⟨c, List.mem_append.2 (.inl hc)⟩)⟩
        · obtain ⟨r1, r2, r3⟩ := s5 t' x hx
          exact ⟨r1, r2, r3.mono fun q ⟨c, hc⟩ => ⟨c, List.mem_append.2 (.inr hc)⟩⟩
      · intro q c hq
        rw [hzn, q10] at hq
        rcases List.mem_append.1 hq with hq | hq
        · have hg := good1 q6 hq
          exact goodN_congr (s7 q (by rw [hg.1]; simp)) hg
        · exact s6 q c hq
    split at hx
    · rename_i o i
      simp only [PA_lit, Bool.and_eq_true] at hx
      obtain ⟨⟨hr, hk⟩, hx⟩ := hx
      have hv' : v = .ref o i := by
        unfold isRef at hr
        split at hr
        · simp only [Bool.and_eq_true, Nat.beq_eq] at hr
          rw [hr.1, hr.2]
        · cases hr
      subst hv'
      obtain ⟨es, c1'', E2'', c2'', s1, s2, s3, s4, s5, s6, s7, s8⟩ := keepE_two hE l c1 E2 c2 _ h (fun p hp => hc p (List.mem_cons_of_mem _ hp)) hnd hmu hx
      refine ⟨_, c1'', E2'', c2'', s1, s2, s3, s4, ?_, ?_, s7, s8⟩
      · intro t' x hx
        simp only [zipE] at hx
        rcases List.mem_cons.1 hx with hx | hx
        · cases hx
          refine ⟨g1, ?_, .inr ⟨_, _, rfl, hk⟩⟩
          simp only [Rep] at g2 ⊢
          obtain ⟨b, hb, e⟩ := g2
          exact ⟨b, s4.mu _ _ (hmu o b hk hb), e⟩
        · exact s5 t' x hx
      · intro q c hq
        simp only [nmsE] at hq
        exact s6 q c hq
    · rename_i hne
      refine plain (fun v vs => ?_) (fun v vs => ?_) hx
      · cases sh <;> first | rfl | exact absurd rfl (hne _ _)
      · cases sh <;> first | rfl | exact absurd rfl (hne _ _)

theorem keepO_two : ∀ (l : List (Nat × List Sh)) (o1 : Os) (c1 : Cl) (E2 : E3) (o2 : Os) (c2 : Cl) (k : List (List AV) → Cl → Prop), Two F E o1 c1 F E2 o2 c2 w → (∀ p, p ∈ l → o1 p.1 = objs p.1) → (∀ p i, p ∈ l → c2 (.O p.1 i) = none) → nodupN (l.map (·.1)) = true →
    (∀ p b, p ∈ l → E.mu p.1 = some b → E2.mu p.1 = some b) → keepO (PA M) l objs c1 k →
    ∃ os c1' o1' E2' o2' c2', k os c1' ∧ Two F E o1' c1' F E2' o2' c2' w ∧ E2'.mu = E2.mu ∧ E2.le E2' ∧ (∀ o, (∃ x, ofL (zipO l os) o = some x ∧ o2' o = some x) ∨ (ofL (zipO l os) o = none ∧ (∀ p, p ∈ l → p.1 ≠ o) ∧ o2' o = o2 o)) ∧ (∀ q c, (q, c) ∈ nmsO l os → GoodN c2' q c) ∧ (∀ q, c2 q ≠ none → c2' q = c2 q) ∧
      (∀ o cs, (o, .live cs) ∈ zipO l os → ∀ x, x ∈ cs → OkF0 (fun q => ∃ c, (q, c) ∈ nmsO l os) x) ∧ (∀ o x, (o, x) ∈ zipO l os → ∃ p, p ∈ l ∧ p.1 = o)
  | [], o1, c1, E2, o2, c2, k, h, _, _, _, _, hx => ⟨[], c1, o1, E2, o2, c2, hx, h, rfl, E3.le.refl E2, fun o => .inr ⟨rfl, fun _ h => (by cases h), rfl⟩, fun _ _ h => (by simp [nmsO] at h), fun _ _ => rfl, fun _ _ h => (by simp [zipO] at h), fun _ _ h => (by simp [zipO] at h)⟩
  | (o, shs) :: l, o1, c1, E2, o2, c2, k, h, hsame, hc, hnd, hmu, hx => by
    simp only [List.map_cons] at hnd
    obtain ⟨hnt, hnd⟩ := nodupN_cons hnd
    have ho1 : o1 o = objs o := hsame _ (List.mem_cons_self ..)
    have hne : ∀ p, p ∈ l → o ≠ p.1 := fun p hp => hnt p.1 (List.mem_map_of_mem hp)
    simp only [keepO] at hx
    split at hx
    · rename_i cs ho
      rw [← ho1] at ho
      simp only [PA_lit, Bool.not_eq_true'] at hx
      obtain ⟨hfz, hx⟩ := hx
      obtain ⟨b, t, vs, k1, k2, k3, k4⟩ := h.a.live o cs ho
      obtain ⟨cs', c1', E2', c2', q0, q2, q3, q4, q5, q6, q7, q8⟩ := expC_two (nm := Nm.O o) (fun i j e => by injection e) shs 0 cs c1 vs E2 c2 _ h (fun j _ => hc _ j (List.mem_cons_self ..)) k3 (expC_out _ _ _ _ _ hx)
      obtain ⟨qf, qa, q1⟩ := q0
      have hbif : (bif isArr shs then cs' else frC (Nm.O o) 0 cs') = frC (Nm.O o) 0 cs' := by
        cases ha : isArr shs with
        | true => rw [frC_flat (qa ha)]; rfl
        | false => rfl
      have hz : ∀ os, zipO ((o, shs) :: l) (cs' :: os) = (o, .live (frC (Nm.O o) 0 cs')) :: zipO l os := fun os => by simp only [zipO, hfz, cond_false, hbif]
      have hzn : ∀ os, nmsO ((o, shs) :: l) (cs' :: os) = nmC (Nm.O o) 0 cs' ++ nmsO l os := fun os => by
        simp only [nmsO, hfz, Bool.false_or]
        cases ha : isArr shs with
        | true => rw [nmC_flat (qa ha)]; rfl
        | false => rfl
      have hm2 : E2'.mu o = some b := by rw [q4]; exact hmu _ b (List.mem_cons_self ..) k1
      have g := q2.move_obj ho k1 hm2 k2 q5 (fun b' hb' => by
        have := h.a.pm o b' cs hb' ho
        rw [k1] at this; injection this with this; exact this.symm)
      obtain ⟨os, c1'', o1'', E2'', o2'', c2'', s1, s2, s3, s4, s5, s6, s7, s8, s9⟩ := keepO_two l _ c1' E2' _ c2' _ g (fun p hp => by rw [upd_ne _ _ (hne p hp)]; exact hsame p (List.mem_cons_of_mem _ hp))
        (fun p i hp => by
          rw [q7 _ (fun j _ e => by injection e with e _; exact hne p hp e.symm)]
          exact hc p i (List.mem_cons_of_mem _ hp)) hnd (fun p b hp hb => by rw [q4]; exact hmu p b (List.mem_cons_of_mem _ hp) hb) q1
      have pers : ∀ q, c2 q ≠ none → c2' q = c2 q := fun q hq => q7 q (fun j _ e => hq (by rw [e]; exact hc _ j (List.mem_cons_self ..)))
      refine ⟨cs' :: os, c1'', o1'', E2'', o2'', c2'', s1, s2, s3.trans q4, q3.trans s4, ?_, ?_, fun q hq => by rw [s7 q (by rw [pers q hq]; exact hq), pers q hq], ?_, ?_⟩
      · intro o'
        rw [hz]
        by_cases hoo : o = o'
        · subst hoo
          left
          refine ⟨.live (frC (Nm.O o) 0 cs'), by simp [ofL], ?_⟩
          rcases s5 o with ⟨x, hx1, hx2⟩ | ⟨_, _, hx2⟩
          · exfalso
            obtain ⟨p, hp, e⟩ := s9 o x (ofL_mem hx1)
            exact hne p hp e.symm
          · rw [hx2, upd_same]
        · have hb : Nat.beq o o' = false := by rw [Bool.eq_false_iff]; intro e; exact hoo (Nat.eq_of_beq_eq_true e)
          simp only [ofL, hb, cond_false]
          rcases s5 o' with h1 | ⟨h1, h2, h3⟩
          · exact .inl h1
          · refine .inr ⟨h1, ?_, by rw [h3, upd_ne _ _ hoo]⟩
            intro p hp
            rcases List.mem_cons.1 hp with rfl | hp
            · exact hoo
            · exact h2 p hp
      · intro q c hq
        rw [hzn] at hq
        rcases List.mem_append.1 hq with hq | hq
        · have hg := goodC q6 hq
          exact goodN_congr (s7 q (by rw [hg.1]; simp)) hg
        · exact s6 q c hq
      · intro o' cs2 hm
        rw [hz] at hm
        rw [hzn]
        rcases List.mem_cons.1 hm with hm | hm
        · cases hm
          exact fun x hx => (okC_of_fit qf x hx).mono fun q ⟨c, hc⟩ => ⟨c, List.mem_append.2 (.inl hc)⟩
        · exact fun x hx => (s8 o' cs2 hm x hx).mono fun q ⟨c, hc⟩ => ⟨c, List.mem_append.2 (.inr hc)⟩
      · intro o' x hm
        rw [hz] at hm
        rcases List.mem_cons.1 hm with hm | hm
        · cases hm; exact ⟨_, List.mem_cons_self .., rfl⟩
        · obtain ⟨p, hp, e⟩ := s9 o' x hm
          exact ⟨p, List.mem_cons_of_mem _ hp, e⟩
    · rename_i cs ho
      rw [← ho1] at ho
      simp only [PA_lit] at hx
      obtain ⟨hfz, hx⟩ := hx
      have hz : ∀ cs os, zipO ((o, shs) :: l) (cs :: os) = (o, .frz cs) :: zipO l os := fun cs os => by simp [zipO, hfz]
      have hzn : ∀ cs os, nmsO ((o, shs) :: l) (cs :: os) = nmsO l os := fun cs os => by simp [nmsO, hfz]
      have g := h.keep_frz ho (hmu _ · (List.mem_cons_self ..))
      obtain ⟨os, c1'', o1'', E2'', o2'', c2'', s1, s2, s3, s4, s5, s6, s7, s8, s9⟩ := keepO_two l _ c1 E2 _ c2 _ g (fun p hp => hsame p (List.mem_cons_of_mem _ hp)) (fun p i hp => hc p i (List.mem_cons_of_mem _ hp)) hnd (fun p b hp hb => hmu p b (List.mem_cons_of_mem _ hp) hb) hx
      refine ⟨_, c1'', o1'', E2'', o2'', c2'', s1, s2, s3, s4, ?_, ?_, s7, ?_, ?_⟩
      · intro o'
        rw [hz]
        by_cases hoo : o = o'
        · subst hoo
          left
          refine ⟨.frz cs, by simp [ofL], ?_⟩
          rcases s5 o with ⟨x, hx1, hx2⟩ | ⟨_, _, hx2⟩
          · exfalso
            obtain ⟨p, hp, e⟩ := s9 o x (ofL_mem hx1)
            exact hne p hp e.symm
          · rw [hx2, upd_same]
        · have hb : Nat.beq o o' = false := by rw [Bool.eq_false_iff]; intro e; exact hoo (Nat.eq_of_beq_eq_true e)
          simp only [ofL, hb, cond_false]
          rcases s5 o' with h1 | ⟨h1, h2, h3⟩
          · exact .inl h1
          · refine .inr ⟨h1, ?_, by rw [h3, upd_ne _ _ hoo]⟩
            intro p hp
            rcases List.mem_cons.1 hp with rfl | hp
            · exact hoo
            · exact h2 p hp
      · intro q c hq
        rw [hzn] at hq
        exact s6 q c hq
      · intro o' cs2 hm
        rw [hz] at hm
        rw [hzn]
        rcases List.mem_cons.1 hm with hm | hm
        · cases hm
        · exact s8 o' cs2 hm
      · intro o' x hm
        rw [hz] at hm
        rcases List.mem_cons.1 hm with hm | hm
        · cases hm; exact ⟨_, List.mem_cons_self .., rfl⟩
        · obtain ⟨p, hp, e⟩ := s9 o' x hm
          exact ⟨p, List.mem_cons_of_mem _ hp, e⟩
    · exact hx.elim
theorem flatV_sound {sp : Spec} {env : Ev} {a : Act} {k : List AV → List (List AV) → Prop} (hI : WI F E objs cl w) (hE : EnvOK E env a) (h : flatV (PA M) sp env objs cl k) :
    ∃ E' vs os, k vs os ∧ WI F E' (ofL (zipO sp.2 os)) (clZ sp vs os) w ∧ EnvOK E' (ofL (zipE sp.1 vs)) a := by
  simp only [flatV, PA_lit, Bool.and_eq_true] at h
  obtain ⟨⟨hn1, hn2⟩, h⟩ := h
  let kept : Nat → Bool := fun o => sp.2.any fun p => Nat.beq p.1 o
  have hkept : ∀ p, p ∈ sp.2 → kept p.1 = true := fun p hp => List.any_eq_true.2 ⟨p, hp, by simp⟩
  obtain ⟨es, c1', E2', c2', g1, g2, g3, g4, g5, g6, g7, g8⟩ := keepE_two (kept := kept) hE sp.1 cl _ _ _ (Two.start hI kept) (fun _ _ _ _ => rfl) hn1 (fun o b hk hb => by simp only [startE, hk, if_true]; exact hb) h
  obtain ⟨os, c1'', o1'', E2'', o2'', c2'', s1, s2, s3, s4, s5, s6, s7, s8, s9⟩ := keepO_two sp.2 objs c1' E2' _ c2' _ g2 (fun _ _ => rfl) (fun p i _ => by rw [g8]) hn2 (fun p b hp hb => by rw [g3]; simp only [startE, hkept p hp, if_true]; exact hb) g1
  have hnames : ∀ q c, (q, c) ∈ nmsE sp.1 es ++ nmsO sp.2 os → GoodN c2'' q c := by
    intro q c hq
    rcases List.mem_append.1 hq with hq | hq
    · have hg := g6 q c hq
      exact goodN_congr (s7 q (by rw [hg.1]; simp)) hg
    · exact s6 q c hq
  have hW := s2.b.restrict (objs' := ofL (zipO sp.2 os)) (cl' := clZ sp es os) (fun o x ho => by
      rcases s5 o with ⟨y, h1, h2⟩ | ⟨h1, _⟩
      · rw [ho] at h1; cases h1; exact h2
      · rw [ho] at h1; cases h1)
    (fun q x hq => hnames q x (ofN_some hq))
    (fun o cs ho x hx => (s8 o cs (ofL_mem ho) x hx).mono fun q ⟨c, hc⟩ => ofN_isSome (List.mem_append.2 (.inr hc)))
  refine ⟨_, _, _, s1, hW, ?_⟩
  intro t x hx
  have hm := ofL_mem hx
  obtain ⟨h1, h2, h3⟩ := g5 t x hm
  refine ⟨h1, ?_⟩
  have h2 := h2.mono s4
  rcases h3 with h3 | ⟨o, i, rfl, hk⟩
  · exact rep_cut h2 h3 fun q ⟨c, hc⟩ => ofN_isSome (List.mem_append.2 (.inl hc))
  · simp only [Rep] at h2 ⊢
    obtain ⟨b, hb, e⟩ := h2
    refine ⟨b, ?_, e⟩
    simp only [E3.cut]
    rcases s5 o with ⟨y, k1, _⟩ | ⟨_, k2, _⟩
    · simp [k1, hb]
    · exfalso
      obtain ⟨p, hp, e⟩ := List.any_eq_true.1 hk
      exact k2 p hp (Nat.eq_of_beq_eq_true e)
theorem canonV_sound {sp : Spec} {env : Ev} {a : Act} {k : Ev → Os → Cl → Prop} (hI : WI F E objs cl w) (hE : EnvOK E env a) (h : canonV (PA M) sp env objs cl k) :
    ∃ E' env' objs' cl', k env' objs' cl' ∧ WI F E' objs' cl' w ∧ EnvOK E' env' a := by
  obtain ⟨E', vs, os, h1, h2, h3⟩ := flatV_sound hI hE h
  exact ⟨E', _, _, _, h1, h2, h3⟩
end Go.Proofs.Ythmocicjocjdoaa.V
