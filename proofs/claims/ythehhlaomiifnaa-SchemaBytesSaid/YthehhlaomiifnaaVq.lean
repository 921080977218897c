/- Loop heads are sound; code is sound. -/
import Derived.Test.YthehhlaomiifnaaVp
import Derived.LoopN
set_option linter.unusedVariables false
set_option linter.unusedSimpArgs false
namespace Go.Proofs.Ythehhlaomiifnaa.V
open Go
variable {P : Program} {T : Tab} {M : Meaning} {F : Fr} {E E1 E2 : E3} {objs o1 o2 : Os} {cl c1 c2 : Cl} {w : World}

def startE (E : E3) (kept : Nat → Bool) : E3 := ⟨E.S, fun o => if kept o then E.mu o else none, fun _ => none⟩
theorem Two.start (h : WI F E objs cl w) (kept : Nat → Bool) : Two F E objs cl F (startE E kept) (fun o => if kept o then some .dead else none) (fun _ => none) w := by
  have nolive : ∀ o cs, ¬ ((fun o => if kept o then some Ob.dead else none) o = some (.live cs)) := by
    intro o cs ho
    dsimp only at ho
    split at ho <;> cases ho
  refine ⟨h, ?_, rfl, fun _ h => h, fun o o' cs cs' g _ ho => absurd ho (nolive _ _), fun o cs g q v s _ _ hq => (by cases hq), fun o cs g q v s ho => absurd ho (nolive _ _), fun q q' v v' s s' g _ hq => (by cases hq)⟩
  refine { agree := h.agree, live := fun o cs ho => absurd ho (nolive _ _), frz := ?_, claim := fun q hq => (by cases hq), oo := fun o o' cs cs' b ho => absurd ho (nolive _ _), cc := fun q q' v v' s s' g hq => (by cases hq), oc := fun o cs b q v s ho => absurd ho (nolive _ _), mdom := ?_, kdom := fun q x hq => (by cases hq), step := h.step, base := h.base, sdom := h.sdom, pm := fun j b cs _ ho => absurd ho (nolive _ _) }
  · intro o cs ho
    split at ho <;> cases ho
  · intro o b ho
    simp only [startE] at ho ⊢
    split at ho
    · rename_i hk; simp [hk]
    · cases ho

theorem Two.keep_frz (h : Two F E o1 c1 F E2 o2 c2 w) {o : Nat} {cs : List AV} (ho : o1 o = some (.frz cs)) (hm : ∀ b, E.mu o = some b → E2.mu o = some b) : Two F E o1 c1 F E2 (upd o2 o (.frz cs)) c2 w := by
  obtain ⟨b, vs, k1, k2, k3, k4⟩ := h.a.frz o cs ho
  have hold : ∀ {p : Nat} {c : List AV}, upd o2 o (.frz cs) p = some (.live c) → p ≠ o ∧ o2 p = some (.live c) := by
    intro p c hp
    rcases upd_live hp with ⟨_, e⟩ | h
    · cases e
    · exact h
  refine ⟨h.a, ?_, h.S, h.own, ?_, h.oc, ?_, h.cc⟩
  · refine { h.b with live := ?_, frz := ?_, oo := ?_, oc := ?_, mdom := ?_, pm := ?_, claim := h.b.claim }
    · intro p c hp; exact h.b.live p c (hold hp).2
    · intro p c hp
      by_cases hop : o = p
      · subst hop
        rw [upd_same] at hp
        cases hp
        exact ⟨b, vs, hm _ k1, k2, RepL.flat_mono (E := E) (F := E2) (eS h.S) k2 k3, fun j hj => by rw [h.S]; exact k4 j hj⟩
      · rw [upd_ne _ _ hop] at hp; exact h.b.frz p c hp
    · intro p p' c c' g hp hp'; exact h.b.oo p p' c c' g (hold hp).2 (hold hp').2
    · intro p c g q v s hp; exact h.b.oc p c g q v s (hold hp).2
    · intro p b' hp
      by_cases hop : o = p
      · subst hop; rw [upd_same]; simp
      · rw [upd_ne _ _ hop]; exact h.b.mdom p b' hp
    · intro p b' c hj hp; exact h.b.pm p b' c hj (hold hp).2
  · intro p p' c c' g hp hp'; exact h.oo p p' c c' g hp (hold hp').2
  · intro p c g q v s hp; exact h.co p c g q v s (hold hp).2

def fitR (kept : Nat → Bool) (x : AV) : Prop := fitC x = true ∨ ∃ o i, x = .ref o i ∧ kept o = true

theorem nodupN_cons {x : Nat} {l : List Nat} (h : nodupN (x :: l) = true) : (∀ y, y ∈ l → x ≠ y) ∧ nodupN l = true := by
  simp only [nodupN, Bool.and_eq_true, Bool.not_eq_true'] at h
  refine ⟨fun y hy e => ?_, h.2⟩
  have := List.any_eq_false.1 h.1 y hy
  subst e
  simp at this

def KeepsE (F : Fr) (E : E3) (objs o2 : Os) (w : World) (a : Act) (kept : Nat → Bool) (E2 : E3) (c2 : Cl) (l : List (Nat × Sh)) (k : List AV → Cl → Prop) : Prop :=
  ∃ es c1' E2' c2', k es c1' ∧ Two F E objs c1' F E2' o2 c2' w ∧ E2'.mu = E2.mu ∧ E2.le E2' ∧ (∀ t x, (t, x) ∈ zipE l es → t < a.tmps.size ∧ Rep E2' x (a.tmps.getD t undef) ∧ fitR kept x) ∧ (∀ q, q ∈ nmsE (zipE l es) → c2' q = some true) ∧ (∀ q, c2 q = some true → c2' q = some true) ∧ (∀ o i, c2' (.O o i) = c2 (.O o i))
theorem keepE_two {kept : Nat → Bool} {env : Ev} {a : Act} (hE : EnvOK E env a) : ∀ (l : List (Nat × Sh)) (c1 : Cl) (E2 : E3) (c2 : Cl) (k : List AV → Cl → Prop), Two F E objs c1 F E2 o2 c2 w → (∀ p, p ∈ l → c2 (.L p.1) = none) → nodupN (l.map (·.1)) = true →
    (∀ o b, kept o = true → E.mu o = some b → E2.mu o = some b) → keepE (PA M) kept l env c1 k →
    KeepsE F E objs o2 w a kept E2 c2 l k
  | [], c1, E2, c2, k, h, _, _, _, hx => ⟨[], c1, E2, c2, hx, h, rfl, E3.le.refl E2, fun _ _ h => (by cases h), fun _ h => (by simp [zipE, nmsE] at h), fun _ h => h, fun _ _ => rfl⟩
  | (t, sh) :: l, c1, E2, c2, k, h, hc, hnd, hmu, hx => by
    simp only [List.map_cons] at hnd
    obtain ⟨hnt, hnd⟩ := nodupN_cons hnd
    simp only [keepE, PA_orFail] at hx
    obtain ⟨v, hv, hx⟩ := hx
    obtain ⟨g1, g2⟩ := hE t v hv
    have plain : (∀ v vs, zipE ((t, sh) :: l) (v :: vs) = (t, v) :: zipE l vs) → exp1 (PA M) sh (.L t) v c1 (fun v cl => keepE (PA M) kept l env cl fun es cl => k (v :: es) cl) → KeepsE F E objs o2 w a kept E2 c2 ((t, sh) :: l) k := fun hz hx => by
      obtain ⟨v', c1', E2', c2', q0, q2, q3, q4, q5, q6, q7, _, _⟩ := exp1_two h (hc _ (List.mem_cons_self ..)) g2 (exp1_out hx)
      obtain ⟨qf, q1⟩ := q0
      obtain ⟨es, c1'', E2'', c2'', s1, s2, s3, s4, s5, s6, s7, s8⟩ := keepE_two hE l c1' E2' c2' _ q2 (fun p hp => by
          rw [q7 _ (fun e => by injection e with e; exact hnt p.1 (List.mem_map_of_mem hp) e.symm)]
          exact hc p (List.mem_cons_of_mem _ hp)) hnd (fun o b hk hb => by rw [q4]; exact hmu o b hk hb) q1
      have pers : ∀ q, c2 q = some true → c2' q = some true := fun q hq => by
        rw [q7 q (by rintro rfl; rw [hc _ (List.mem_cons_self ..)] at hq; cases hq)]; exact hq
      refine ⟨_, c1'', E2'', c2'', s1, s2, s3.trans q4, q3.trans s4, ?_, ?_, fun q hq => s7 q (pers q hq), fun o i => by rw [s8, q7 _ (by intro e; cases e)]⟩
      · intro t' x hx
        rw [hz] at hx
        rcases List.mem_cons.1 hx with hx | hx
        · cases hx
          exact ⟨g1, q5.mono s4, .inl qf⟩
        · exact s5 t' x hx
      · intro q hq
        rw [hz] at hq
        simp only [nmsE, List.mem_append] at hq
        rcases hq with hq | hq
        · refine s7 q ?_
          cases v' with
          | lst m wd ll =>
            cases m with
            | own p =>
              simp only [nmOf, List.mem_singleton] at hq
              subst hq
              exact (q6 _ _ _ rfl).2
            | _ => simp [nmOf] at hq
          | _ => simp [nmOf] at hq
        · exact s6 q hq
    split at hx
    · rename_i o i
      simp only [PA_lit, Bool.and_eq_true] at hx
      obtain ⟨⟨hr, hk⟩, hx⟩ := hx
      have hv' : v = .ref o i := by
        unfold isRef at hr
        split at hr
        · simp only [Bool.and_eq_true, Nat.beq_eq] at hr
          rw [hr.1, hr.2]
        · cases hr
      subst hv'
      obtain ⟨es, c1'', E2'', c2'', s1, s2, s3, s4, s5, s6, s7, s8⟩ := keepE_two hE l c1 E2 c2 _ h (fun p hp => hc p (List.mem_cons_of_mem _ hp)) hnd hmu hx
      refine ⟨_, c1'', E2'', c2'', s1, s2, s3, s4, ?_, ?_, s7, s8⟩
      · intro t' x hx
        simp only [zipE] at hx
        rcases List.mem_cons.1 hx with hx | hx
        · cases hx
          refine ⟨g1, ?_, .inr ⟨_, _, rfl, hk⟩⟩
          simp only [Rep] at g2 ⊢
          obtain ⟨b, hb, e⟩ := g2
          exact ⟨b, s4.mu _ _ (hmu o b hk hb), e⟩
        · exact s5 t' x hx
      · intro q hq
        simp only [zipE, nmsE, nmOf, List.nil_append] at hq
        exact s6 q hq
    · rename_i hne
      refine plain (fun v vs => ?_) hx
      cases sh <;> first | rfl | exact absurd rfl (hne _ _)

theorem nmsOf_get : ∀ {cs : List AV} {q : Nm}, q ∈ nmsOf cs → ∃ (p : Nat) (w : Nat) (l : List AV), cs[p]? = some (.lst (.own q) w l)
  | [], q, h => by simp [nmsOf] at h
  | c :: cs, q, h => by
    simp only [nmsOf, List.mem_append] at h
    rcases h with h | h
    · cases c with
      | lst m wd ll =>
        cases m with
        | own p => simp only [nmOf, List.mem_singleton] at h; subst h; exact ⟨0, wd, ll, rfl⟩
        | _ => simp [nmOf] at h
      | _ => simp [nmOf] at h
    · obtain ⟨p, wd, l, hp⟩ := nmsOf_get h
      exact ⟨p + 1, wd, l, by simpa using hp⟩

theorem keepO_two : ∀ (l : List (Nat × List Sh)) (o1 : Os) (c1 : Cl) (E2 : E3) (o2 : Os) (c2 : Cl) (k : List (List AV) → Cl → Prop), Two F E o1 c1 F E2 o2 c2 w → (∀ p, p ∈ l → o1 p.1 = objs p.1) → (∀ p i, p ∈ l → c2 (.O p.1 i) = none) → nodupN (l.map (·.1)) = true →
    (∀ p b, p ∈ l → E.mu p.1 = some b → E2.mu p.1 = some b) → keepO (PA M) l objs c1 k →
    ∃ os c1' o1' E2' o2' c2', k os c1' ∧ Two F E o1' c1' F E2' o2' c2' w ∧ E2'.mu = E2.mu ∧ E2.le E2' ∧ (∀ o, (∃ x, ofL (zipO l os) o = some x ∧ o2' o = some x) ∨ (ofL (zipO l os) o = none ∧ (∀ p, p ∈ l → p.1 ≠ o) ∧ o2' o = o2 o)) ∧ (∀ q, q ∈ nmsO (zipO l os) → c2' q = some true) ∧ (∀ q, c2 q = some true → c2' q = some true) ∧
      (∀ o cs, (o, .live cs) ∈ zipO l os → cs.all fitC = true ∧ ∀ q, q ∈ nmsOf cs → q ∈ nmsO (zipO l os)) ∧ (∀ o x, (o, x) ∈ zipO l os → ∃ p, p ∈ l ∧ p.1 = o)
  | [], o1, c1, E2, o2, c2, k, h, _, _, _, _, hx => ⟨[], c1, o1, E2, o2, c2, hx, h, rfl, E3.le.refl E2, fun o => .inr ⟨rfl, fun _ h => (by cases h), rfl⟩, fun _ h => (by simp [zipO, nmsO] at h), fun _ h => h, fun _ _ h => (by simp [zipO] at h), fun _ _ h => (by simp [zipO] at h)⟩
  | (o, shs) :: l, o1, c1, E2, o2, c2, k, h, hsame, hc, hnd, hmu, hx => by
    simp only [List.map_cons] at hnd
    obtain ⟨hnt, hnd⟩ := nodupN_cons hnd
    have ho1 : o1 o = objs o := hsame _ (List.mem_cons_self ..)
    have hne : ∀ p, p ∈ l → o ≠ p.1 := fun p hp => hnt p.1 (List.mem_map_of_mem hp)
    simp only [keepO] at hx
    split at hx
    · rename_i cs ho
      rw [← ho1] at ho
      simp only [PA_lit, Bool.not_eq_true'] at hx
      obtain ⟨hfz, hx⟩ := hx
      have hz : ∀ cs os, zipO ((o, shs) :: l) (cs :: os) = (o, .live cs) :: zipO l os := fun cs os => by simp [zipO, hfz]
      obtain ⟨b, t, vs, k1, k2, k3, k4⟩ := h.a.live o cs ho
      obtain ⟨cs', c1', E2', c2', q0, q2, q3, q4, q5, q6, q7, q8⟩ := expC_two (nm := Nm.O o) (fun i j e => by injection e) shs 0 cs c1 vs E2 c2 _ h (fun j _ => hc _ j (List.mem_cons_self ..)) k3 (expC_out _ _ _ _ _ hx)
      obtain ⟨qf, q1⟩ := q0
      have hm2 : E2'.mu o = some b := by rw [q4]; exact hmu _ b (List.mem_cons_self ..) k1
      have g := q2.move_obj ho k1 hm2 k2 q5 (fun b' hb' => by
        have := h.a.pm o b' cs hb' ho
        rw [k1] at this; injection this with this; exact this.symm)
      obtain ⟨os, c1'', o1'', E2'', o2'', c2'', s1, s2, s3, s4, s5, s6, s7, s8, s9⟩ := keepO_two l _ c1' E2' _ c2' _ g (fun p hp => by rw [upd_ne _ _ (hne p hp)]; exact hsame p (List.mem_cons_of_mem _ hp))
        (fun p i hp => by
          rw [q7 _ (fun j _ e => by injection e with e _; exact hne p hp e.symm)]
          exact hc p i (List.mem_cons_of_mem _ hp)) hnd (fun p b hp hb => by rw [q4]; exact hmu p b (List.mem_cons_of_mem _ hp) hb) q1
      have pers : ∀ q, c2 q = some true → c2' q = some true := fun q hq => by
        rw [q7 q (fun j _ e => by subst e; rw [hc _ j (List.mem_cons_self ..)] at hq; cases hq)]; exact hq
      refine ⟨_, c1'', o1'', E2'', o2'', c2'', s1, s2, s3.trans q4, q3.trans s4, ?_, ?_, fun q hq => s7 q (pers q hq), ?_, ?_⟩
      · intro o'
        rw [hz]
        by_cases hoo : o = o'
        · subst hoo
          left
          refine ⟨.live cs', by simp [ofL], ?_⟩
          rcases s5 o with ⟨x, hx1, hx2⟩ | ⟨_, _, hx2⟩
          · exfalso
            obtain ⟨p, hp, e⟩ := s9 o x (ofL_mem hx1)
            exact hne p hp e.symm
          · rw [hx2, upd_same]
        · have hb : Nat.beq o o' = false := by rw [Bool.eq_false_iff]; intro e; exact hoo (Nat.eq_of_beq_eq_true e)
          simp only [ofL, hb, cond_false]
          rcases s5 o' with h1 | ⟨h1, h2, h3⟩
          · exact .inl h1
          · refine .inr ⟨h1, ?_, by rw [h3, upd_ne _ _ hoo]⟩
            intro p hp
            rcases List.mem_cons.1 hp with rfl | hp
            · exact hoo
            · exact h2 p hp
      · intro q hq
        rw [hz] at hq
        simp only [nmsO, List.mem_append] at hq
        rcases hq with hq | hq
        · obtain ⟨p, wd, ll, hp⟩ := nmsOf_get hq
          exact s7 q (q6 p q wd ll hp).2
        · exact s6 q hq
      · intro o' cs2 hm
        rw [hz] at hm ⊢
        rcases List.mem_cons.1 hm with hm | hm
        · cases hm
          exact ⟨qf, fun q hq => by simp [nmsO, hq]⟩
        · exact ⟨(s8 o' cs2 hm).1, fun q hq => by simp [nmsO, (s8 o' cs2 hm).2 q hq]⟩
      · intro o' x hm
        rw [hz] at hm
        rcases List.mem_cons.1 hm with hm | hm
        · cases hm; exact ⟨_, List.mem_cons_self .., rfl⟩
        · obtain ⟨p, hp, e⟩ := s9 o' x hm
          exact ⟨p, List.mem_cons_of_mem _ hp, e⟩
    · rename_i cs ho
      rw [← ho1] at ho
      simp only [PA_lit] at hx
      obtain ⟨hfz, hx⟩ := hx
      have hz : ∀ cs os, zipO ((o, shs) :: l) (cs :: os) = (o, .frz cs) :: zipO l os := fun cs os => by simp [zipO, hfz]
      have g := h.keep_frz ho (hmu _ · (List.mem_cons_self ..))
      obtain ⟨os, c1'', o1'', E2'', o2'', c2'', s1, s2, s3, s4, s5, s6, s7, s8, s9⟩ := keepO_two l _ c1 E2 _ c2 _ g (fun p hp => hsame p (List.mem_cons_of_mem _ hp)) (fun p i hp => hc p i (List.mem_cons_of_mem _ hp)) hnd (fun p b hp hb => hmu p b (List.mem_cons_of_mem _ hp) hb) hx
      refine ⟨_, c1'', o1'', E2'', o2'', c2'', s1, s2, s3, s4, ?_, ?_, s7, ?_, ?_⟩
      · intro o'
        rw [hz]
        by_cases hoo : o = o'
        · subst hoo
          left
          refine ⟨.frz cs, by simp [ofL], ?_⟩
          rcases s5 o with ⟨x, hx1, hx2⟩ | ⟨_, _, hx2⟩
          · exfalso
            obtain ⟨p, hp, e⟩ := s9 o x (ofL_mem hx1)
            exact hne p hp e.symm
          · rw [hx2, upd_same]
        · have hb : Nat.beq o o' = false := by rw [Bool.eq_false_iff]; intro e; exact hoo (Nat.eq_of_beq_eq_true e)
          simp only [ofL, hb, cond_false]
          rcases s5 o' with h1 | ⟨h1, h2, h3⟩
          · exact .inl h1
          · refine .inr ⟨h1, ?_, by rw [h3, upd_ne _ _ hoo]⟩
            intro p hp
            rcases List.mem_cons.1 hp with rfl | hp
            · exact hoo
            · exact h2 p hp
      · intro q hq
        rw [hz] at hq
        simp only [nmsO] at hq
        exact s6 q hq
      · intro o' cs2 hm
        rw [hz] at hm ⊢
        rcases List.mem_cons.1 hm with hm | hm
        · cases hm
        · exact ⟨(s8 o' cs2 hm).1, fun q hq => by simp [nmsO, (s8 o' cs2 hm).2 q hq]⟩
      · intro o' x hm
        rw [hz] at hm
        rcases List.mem_cons.1 hm with hm | hm
        · cases hm; exact ⟨_, List.mem_cons_self .., rfl⟩
        · obtain ⟨p, hp, e⟩ := s9 o' x hm
          exact ⟨p, List.mem_cons_of_mem _ hp, e⟩
    · exact hx.elim
theorem ofN_true : ∀ {l : List Nm} {q : Nm} {x : Bool}, ofN l q = some x → x = true ∧ q ∈ l
  | [], q, x, h => by cases h
  | p :: l, q, x, h => by
    simp only [ofN] at h
    cases hb : Nm.beq p q with
    | true =>
      rw [hb] at h
      simp only [cond_true, Option.some.injEq] at h
      exact ⟨h.symm, by rw [Nm.beq_iff.1 hb]; exact List.mem_cons_self ..⟩
    | false =>
      rw [hb] at h
      obtain ⟨h1, h2⟩ := ofN_true h
      exact ⟨h1, List.mem_cons_of_mem _ h2⟩
theorem ofN_mem : ∀ {l : List Nm} {q : Nm}, q ∈ l → ofN l q = some true
  | [], q, h => by cases h
  | p :: l, q, h => by
    simp only [ofN]
    cases hb : Nm.beq p q with
    | true => rfl
    | false =>
      rcases List.mem_cons.1 h with rfl | h
      · rw [Nm.beq_iff.2 rfl] at hb; cases hb
      · exact ofN_mem h
theorem nmsE_mem : ∀ {es : List (Nat × AV)} {t : Nat} {x : AV} {q : Nm}, (t, x) ∈ es → q ∈ nmOf x → q ∈ nmsE es
  | p :: es, t, x, q, h, hq => by
    simp only [nmsE, List.mem_append]
    rcases List.mem_cons.1 h with rfl | h
    · exact .inl hq
    · exact .inr (nmsE_mem h hq)
theorem flatV_sound {sp : Spec} {env : Ev} {a : Act} {k : List AV → List (List AV) → Prop} (hI : WI F E objs cl w) (hE : EnvOK E env a) (h : flatV (PA M) sp env objs cl k) :
    ∃ E' vs os, k vs os ∧ WI F E' (ofL (zipO sp.2 os)) (clZ sp vs os) w ∧ EnvOK E' (ofL (zipE sp.1 vs)) a := by
  simp only [flatV, PA_lit, Bool.and_eq_true] at h
  obtain ⟨⟨hn1, hn2⟩, h⟩ := h
  let kept : Nat → Bool := fun o => sp.2.any fun p => Nat.beq p.1 o
  have hkept : ∀ p, p ∈ sp.2 → kept p.1 = true := fun p hp => List.any_eq_true.2 ⟨p, hp, by simp⟩
  obtain ⟨es, c1', E2', c2', g1, g2, g3, g4, g5, g6, g7, g8⟩ := keepE_two (kept := kept) hE sp.1 cl _ _ _ (Two.start hI kept) (fun _ _ => rfl) hn1 (fun o b hk hb => by simp only [startE, hk, if_true]; exact hb) h
  obtain ⟨os, c1'', o1'', E2'', o2'', c2'', s1, s2, s3, s4, s5, s6, s7, s8, s9⟩ := keepO_two sp.2 objs c1' E2' _ c2' _ g2 (fun _ _ => rfl) (fun p i _ => by rw [g8]) hn2 (fun p b hp hb => by rw [g3]; simp only [startE, hkept p hp, if_true]; exact hb) g1
  have hnames : ∀ q, q ∈ nmsE (zipE sp.1 es) ++ nmsO (zipO sp.2 os) → c2'' q = some true := by
    intro q hq
    rcases List.mem_append.1 hq with hq | hq
    · exact s7 q (g6 q hq)
    · exact s6 q hq
  have hW := s2.b.restrict (objs' := ofL (zipO sp.2 os)) (cl' := clZ sp es os) (fun o x ho => by
      rcases s5 o with ⟨y, h1, h2⟩ | ⟨h1, _⟩
      · rw [ho] at h1; cases h1; exact h2
      · rw [ho] at h1; cases h1)
    (fun q x hq => by
      obtain ⟨h1, h2⟩ := ofN_true hq
      exact ⟨h1, hnames q h2⟩)
    (fun o cs ho => by
      obtain ⟨h1, h2⟩ := s8 o cs (ofL_mem ho)
      exact ⟨h1, fun q hq => ofN_mem (List.mem_append.2 (.inr (h2 q hq)))⟩)
  refine ⟨_, _, _, s1, hW, ?_⟩
  intro t x hx
  have hm := ofL_mem hx
  obtain ⟨h1, h2, h3⟩ := g5 t x hm
  refine ⟨h1, ?_⟩
  have h2 := h2.mono s4
  rcases h3 with h3 | ⟨o, i, rfl, hk⟩
  · refine rep_cut h2 h3 fun q hq => ofN_mem (List.mem_append.2 (.inl ?_))
    exact nmsE_mem hm hq
  · simp only [Rep] at h2 ⊢
    obtain ⟨b, hb, e⟩ := h2
    refine ⟨b, ?_, e⟩
    simp only [E3.cut]
    rcases s5 o with ⟨y, k1, _⟩ | ⟨_, k2, _⟩
    · simp [k1, hb]
    · exfalso
      obtain ⟨p, hp, e⟩ := List.any_eq_true.1 hk
      exact k2 p hp (Nat.eq_of_beq_eq_true e)
theorem canonV_sound {sp : Spec} {env : Ev} {a : Act} {k : Ev → Os → Cl → Prop} (hI : WI F E objs cl w) (hE : EnvOK E env a) (h : canonV (PA M) sp env objs cl k) :
    ∃ E' env' objs' cl', k env' objs' cl' ∧ WI F E' objs' cl' w ∧ EnvOK E' env' a := by
  obtain ⟨E', vs, os, h1, h2, h3⟩ := flatV_sound hI hE h
  exact ⟨E', _, _, _, h1, h2, h3⟩
end Go.Proofs.Ythehhlaomiifnaa.V
