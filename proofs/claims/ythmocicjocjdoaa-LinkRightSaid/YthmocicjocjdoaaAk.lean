/- Calls of functions are sound. -/
import Derived.Test.YthmocicjocjdoaaAj
set_option linter.unusedVariables false
set_option linter.unusedSimpArgs false
namespace Go.Proofs.Ythmocicjocjdoaa.V
open Go
variable {P : Program} {T : Tab} {M : Meaning} {w : World} {F F1 F2 : Fr} {E E1 E2 : E3} {objs o1 o2 : Os} {cl c1 c2 : Cl}

theorem imp0_two {p nm : Nm} {c : AV} {k : AV → Cl → Prop} (h : Two F1 E1 o1 c1 F2 E2 o2 c2 w) {v : Value} (hc : Rep E1 (fr0 p c) v) (hal : Named0 c1 p c) (hx : imp0 (PA M) nm c c2 k) :
    ∃ c' c1' E2' c2', k c' c2' ∧ Two F1 E1 o1 c1' F2 E2' o2 c2' w ∧ E2.le E2' ∧ E2'.mu = E2.mu ∧ Rep E2' c' v ∧ ((fr0 p c).one = true → c'.one = true) ∧ (∀ q, q ≠ p → c1' q = c1 q) := by
  unfold imp0 at hx
  split at hx
  · rename_i q wd l
    obtain ⟨hnm, hk⟩ := freshN_iff.1 hx
    simp only [Named0] at hal
    obtain ⟨rfl, hq⟩ := hal
    simp only [fr0] at hc
    have hc' := hc
    simp only [Rep] at hc
    obtain ⟨a, len, cap, rfl, hl, hlc, hcm, he1, _, hka⟩ := hc
    have hkq := hka q rfl
    obtain ⟨g1, g2⟩ := h.move_claim hq rfl (fun l e => by cases e) hnm hkq
    refine ⟨_, _, _, _, hk, g2, g1, rfl, ?_, fun _ => rfl, fun p hp => updN_ne _ _ (Ne.symm hp)⟩
    have hro : Rep E2 (.lst .ro wd l) (.slice a len cap) := (rep_ro hc').flat_mono (eS h.S) rfl
    have hro := hro.mono g1
    simp only [Rep] at hro ⊢
    obtain ⟨a', len', cap', e, r1, r2, r3, r4, _, _⟩ := hro
    exact ⟨a', len', cap', e, r1, r2, r3, r4, by simp, fun p hp => by injection hp with hp; subst hp; rw [updK_same]⟩
  · rename_i wd l
    obtain ⟨hnm, hk⟩ := freshN_iff.1 hx
    simp only [Named0] at hal
    obtain ⟨hq, hf⟩ := hal
    simp only [fr0, Rep] at hc
    obtain ⟨hkq, hsl⟩ := hc
    obtain ⟨g1, g2⟩ := h.move_claim hq rfl (fun l e => by cases e; exact hf) hnm hkq
    refine ⟨_, _, _, _, hk, g2, g1, rfl, ?_, fun _ => rfl, fun p hp => updN_ne _ _ (Ne.symm hp)⟩
    simp only [Rep]
    exact ⟨by rw [updK_same], hsl⟩
  · simp only [PA_lit] at hx
    rw [fr0_flat hx.1] at hc ⊢
    exact ⟨c, c1, E2, c2, hx.2, h, E3.le.refl E2, rfl, hc.flat_mono (eS h.S) hx.1, id, fun _ _ => rfl⟩

theorem impC_two {nm pn : Nat → Nm} (hpn : ∀ i j, pn i = pn j → i = j) : ∀ (cs : List AV) (i : Nat) (vs : List Value) (c1 : Cl) (E2 : E3) (c2 : Cl) (k : List AV → Cl → Prop), Two F1 E1 o1 c1 F2 E2 o2 c2 w → RepL E1 (frC pn i cs) vs →
    (∀ (p : Nat) c, cs[p]? = some c → Named0 c1 (pn (i + p)) c) → impC (PA M) nm i cs c2 k →
    ∃ cs' c1' E2' c2', k cs' c2' ∧ Two F1 E1 o1 c1' F2 E2' o2 c2' w ∧ E2.le E2' ∧ E2'.mu = E2.mu ∧ RepL E2' cs' vs ∧ (∀ q, (∀ p, i ≤ p → q ≠ pn p) → c1' q = c1 q)
  | [], i, vs, c1, E2, c2, k, h, hr, _, hx => by
    simp only [impC] at hx
    exact ⟨[], c1, E2, c2, hx, h, E3.le.refl E2, rfl, by simpa [RepL, frC] using hr, fun _ _ => rfl⟩
  | c :: cs, i, vs, c1, E2, c2, k, h, hr, hn, hx => by
    simp only [impC] at hx
    simp only [frC, RepL] at hr
    obtain ⟨v, r, rfl, r1, r2, r3, r4⟩ := hr
    have hn0 := hn 0 c rfl
    rw [Nat.add_zero] at hn0
    obtain ⟨c', c1', E2', c2', g1, g2, g3, g3m, g4, g5, g6⟩ := imp0_two h r3 hn0 hx
    obtain ⟨cs', c1'', E2'', c2'', q1, q2, q3, q3m, q4, q5⟩ := impC_two hpn cs (i + 1) r c1' E2' c2' _ g2 r4 (fun p x e => by
      have := hn (p + 1) x (by simpa using e)
      rw [show i + (p + 1) = i + 1 + p from by omega] at this
      exact named0_congr (g6 _ (fun e => by have := hpn _ _ e; omega)) this) g1
    refine ⟨c' :: cs', c1'', E2'', c2'', q1, q2, g3.trans q3, q3m.trans g3m, ?_, fun q hq => ?_⟩
    · simp only [RepL]
      exact ⟨v, r, rfl, g5 r1, r2, g4.mono q3, q4⟩
    · rw [q5 q (fun p hp => hq p (by omega)), g6 q (hq i (Nat.le_refl _))]

theorem impO_two {nm : Nat → Nm} {j : Nat} {shs : List Sh} {cs : List AV} {vs : List Value} {k : List AV → Cl → Prop} (h : Two F1 E1 o1 c1 F2 E2 o2 c2 w) (hr : RepL E1 (frC (Nm.E j) 0 cs) vs)
    (hn : NamedC c1 (Nm.E j) cs) (hx : impO (PA M) shs nm cs c2 k) :
    ∃ cs' c1' E2' c2', k cs' c2' ∧ Two F1 E1 o1 c1' F2 E2' o2 c2' w ∧ E2.le E2' ∧ E2'.mu = E2.mu ∧ RepL E2' cs' vs ∧ (∀ q, (∀ p, q ≠ .E j p) → c1' q = c1 q) := by
  have key : shapes (PA M) shs cs (fun cs => impC (PA M) nm 0 cs c2 k) → ∃ cs' c1' E2' c2', k cs' c2' ∧ Two F1 E1 o1 c1' F2 E2' o2 c2' w ∧ E2.le E2' ∧ E2'.mu = E2.mu ∧ RepL E2' cs' vs ∧ (∀ q, (∀ p, q ≠ .E j p) → c1' q = c1 q) := by
    intro hx
    obtain ⟨cs', c1', E2', c2', g1, g2, g3, g3m, g4, g5⟩ := impC_two (pn := Nm.E j) (fun a b e => by injection e) cs 0 vs c1 E2 c2 k h hr (fun p c e => by rw [Nat.zero_add]; exact hn p c e) (shapes_same (k := fun cs => impC (PA M) nm 0 cs c2 k) hx)
    exact ⟨cs', c1', E2', c2', g1, g2, g3, g3m, g4, fun q hq => g5 q (fun p _ => hq p)⟩
  unfold impO at hx
  split at hx
  · simp only [PA_chk] at hx
    rw [frC_flat hx.1] at hr
    exact ⟨cs, c1, E2, c2, hx.2, h, E3.le.refl E2, rfl, hr.flat_mono (eS h.S) hx.1, fun _ _ => rfl⟩
  · exact key hx
theorem imp1_two {u : Bool} {p nm : Nm} {c : AV} {k : AV → Cl → Prop} (h : Two F1 E1 o1 c1 F2 E2 o2 c2 w) {v : Value} (hc : Rep E1 (fr1 p c) v) (hal : Named1 c1 p c) (hx : imp1 (PA M) u nm c c2 k) :
    ∃ c' c1' E2' c2', k c' c2' ∧ Two F1 E1 o1 c1' F2 E2' o2 c2' w ∧ E2.le E2' ∧ E2'.mu = E2.mu ∧ Rep E2' c' v ∧ (∀ q, ¬ inP p q → c1' q = c1 q) := by
  unfold imp1 at hx
  cases u with
  | true =>
    simp only [cond_true, PA_asA] at hx
    obtain ⟨l, rfl, hx⟩ := hx
    simp only [fr1, Rep] at hc
    obtain ⟨vs, rfl, hc⟩ := hc
    obtain ⟨cs', c1', E2', c2', g1, g2, g3, g3m, g4, g5⟩ := impC_two (subN_inj p) l 0 vs c1 E2 c2 _ h hc (fun i x e => by rw [Nat.zero_add]; exact hal i x e) hx
    refine ⟨_, c1', E2', c2', g1, g2, g3, g3m, ?_, fun q hq => g5 q (fun i _ e => hq (.inr ⟨i, e⟩))⟩
    simp only [Rep]
    exact ⟨vs, rfl, g4⟩
  | false =>
    simp only [cond_false] at hx
    by_cases ha : ∃ l, c = .agg l
    · obtain ⟨l, rfl⟩ := ha
      simp only [imp0, PA_lit] at hx
      rw [fr1_flat hx.1] at hc
      exact ⟨_, c1, E2, c2, hx.2, h, E3.le.refl E2, rfl, hc.flat_mono (eS h.S) hx.1, fun _ _ => rfl⟩
    · have hna : ∀ l, c ≠ .agg l := fun l e => ha ⟨l, e⟩
      rw [fr1_not hna] at hc
      obtain ⟨c', c1', E2', c2', g1, g2, g3, g4, g5, g6, g7⟩ := imp0_two h hc ((named1_not hna).1 hal) hx
      exact ⟨c', c1', E2', c2', g1, g2, g3, g4, g5, fun q hq => g7 q (fun e => hq (.inl e))⟩

/-- What is known of the objects that were handed over. -/
def BK (F : Fr) (E : E3) (objs : Os) (mu : Nat → Option Nat) (bk : List (Nat × Nat × List Sh)) : Prop :=
  ∀ p ∈ bk, ∃ b, mu p.1 = some b ∧ E.mu p.2.1 = some b ∧ objs p.2.1 = some .dead ∧ ∀ b', F.mu0 p.2.1 = some b' → b' = b

/-- The names that an argument may give. -/
def plA (j : Nat) (q : Nm) : Prop := (∃ i, q = .E j i) ∨ inP (.Y 3 j 0 0) q
theorem plA_inj {j j' : Nat} {q : Nm} (h : plA j q) (h' : plA j' q) : j = j' := by
  rcases h with ⟨i, rfl⟩ | rfl | ⟨i, rfl⟩ <;> rcases h' with ⟨i', e⟩ | e | ⟨i', e⟩ <;> simp_all [subN]
theorem plA_E {j i : Nat} : plA j (.E j i) := .inl ⟨i, rfl⟩
theorem frA_get : ∀ {l : List AV} {j p : Nat}, (frA j l)[p]? = (l[p]?).map (fr1 (.Y 3 (j + p) 0 0))
  | [], j, p => by simp [frA]
  | v :: l, j, 0 => by simp [frA]
  | v :: l, j, p + 1 => by
    simp only [frA, List.getElem?_cons_succ]
    rw [frA_get, show j + 1 + p = j + (p + 1) from by omega]
theorem frA_append : ∀ {l r : List AV} {j : Nat}, frA j (l ++ r) = frA j l ++ frA (j + l.length) r
  | [], r, j => by simp [frA]
  | v :: l, r, j => by
    simp only [List.cons_append, frA, List.length_cons]
    rw [frA_append, show j + 1 + l.length = j + (l.length + 1) from by omega]
theorem frA_flat : ∀ {l : List AV} {j : Nat}, l.all AV.flat = true → frA j l = l
  | [], j, _ => rfl
  | v :: l, j, h => by
    simp only [List.all_cons, Bool.and_eq_true] at h
    simp only [frA, fr1_flat h.1, frA_flat h.2]
theorem argsV_two : ∀ (vs : List AV) (shs : List Sh) (j : Nat) (us : List Value) (ts : List Nat) (o1 : Os) (c1 : Cl) (E2 : E3) (o2 : Os) (c2 : Cl) (k : List AV → List (Nat × List AV) → List (Nat × Nat × List Sh) → Os → Cl → Prop),
    Two F1 E1 o1 c1 F2 E2 o2 c2 w → (∀ i, F2.mu0 i = none) → RepT E1 vs us → (∀ i, j ≤ i → o2 i = none) → (∀ j' q, j ≤ j' → plA j' q → c2 q = none) → (∀ i b, E2.mu i = some b → i < 1000) → argsV (PA M) T j shs vs ts o1 c1 k →
    ∃ as ins bk o1' c1' E2' c2', k as ins bk o1' c1' ∧ Two F1 E1 o1' c1' F2 E2' (fun i => (objsOf ins i).or (o2 i)) c2' w ∧ E2.le E2' ∧ RepT E2' (frA j as) us ∧ BK F1 E1 o1' E2'.mu bk ∧
      (∀ jj cs, (jj, cs) ∈ ins → j ≤ jj ∧ NamedC c2' (Nm.E jj) cs) ∧ (∀ q, (∀ j', j ≤ j' → ¬ plA j' q) → c2' q = c2 q) ∧ (∀ i b, E2'.mu i = some b → i < 1000) ∧
      (∀ o, o1 o = some .dead → o1' o = some .dead) ∧ (∀ q, c1 q = none → c1' q = none) ∧ (∀ (p : Nat) v, as[p]? = some v → Named1 c2' (.Y 3 (j + p) 0 0) v)
  | [], shs, j, us, [], o1, c1, E2, o2, c2, k, h, _, hv, _, _, hlt, hx => by
    simp only [argsV] at hx
    refine ⟨[], [], [], o1, c1, E2, c2, hx, ?_, E3.le.refl E2, by simpa [RepT, frA] using hv, (by intro p hp; cases hp), (by intro jj cs hp; cases hp), fun _ _ => rfl, hlt, fun _ h => h, fun _ h => h, (by intro p v hp; simp at hp)⟩
    have : (fun i => (objsOf [] i).or (o2 i)) = o2 := by funext i; simp [objsOf, ofL]
    rw [this]; exact h
  | [], shs, j, us, t :: ts, o1, c1, E2, o2, c2, k, h, _, hv, _, _, _, hx => by simp only [argsV, PA_fail] at hx
  | v :: vs, shs, j, us, [], o1, c1, E2, o2, c2, k, h, _, hv, _, _, _, hx => by simp only [argsV, PA_fail] at hx
  | v :: vs, shs, j, us, t :: ts, o1, c1, E2, o2, c2, k, h, hm0, hv, ho2, hc2, hlt, hx => by
    simp only [RepT] at hv
    obtain ⟨u, r, rfl, r1, r2⟩ := hv
    have plain : ∀ (x : AV), Rep E1 x u → x.flat = true → argsV (PA M) T (j + 1) shs.tail vs ts o1 c1 (fun as ins bk objs cl => k (x :: as) ins bk objs cl) →
        ∃ as ins bk o1' c1' E2' c2', k as ins bk o1' c1' ∧ Two F1 E1 o1' c1' F2 E2' (fun i => (objsOf ins i).or (o2 i)) c2' w ∧ E2.le E2' ∧ RepT E2' (frA j as) (u :: r) ∧ BK F1 E1 o1' E2'.mu bk ∧
      (∀ jj cs, (jj, cs) ∈ ins → j ≤ jj ∧ NamedC c2' (Nm.E jj) cs) ∧ (∀ q, (∀ j', j ≤ j' → ¬ plA j' q) → c2' q = c2 q) ∧ (∀ i b, E2'.mu i = some b → i < 1000) ∧
      (∀ o, o1 o = some .dead → o1' o = some .dead) ∧ (∀ q, c1 q = none → c1' q = none) ∧ (∀ (p : Nat) v, as[p]? = some v → Named1 c2' (.Y 3 (j + p) 0 0) v) := by
      intro x hxr hxf hx
      obtain ⟨as, ins, bk, o1', c1', E2', c2', g1, g2, g3, g4, g5, g6, g7, g8, g9, g10, g11⟩ := argsV_two vs shs.tail (j + 1) r ts o1 c1 E2 o2 c2 _ h hm0 r2 (fun i hi => ho2 i (by omega)) (fun j' q hj => hc2 j' q (by omega)) hlt hx
      refine ⟨x :: as, ins, bk, o1', c1', E2', c2', g1, g2, g3, ?_, g5, fun jj cs hp => ⟨by have := (g6 jj cs hp).1; omega, (g6 jj cs hp).2⟩, fun q hq => g7 q (fun j' hj => hq j' (by omega)), g8, g9, g10, fun p y hp => ?_⟩
      · simp only [frA, RepT, fr1_flat hxf]
        exact ⟨u, r, rfl, (hxr.flat_mono (eS h.S) hxf).mono g3, g4⟩
      · cases p with
        | zero => simp at hp; subst hp; exact named1_flat hxf
        | succ p => simp at hp; have := g11 p y hp; rwa [show j + 1 + p = j + (p + 1) from by omega] at this
    unfold argsV at hx
    cases hso : shOwned shs with
    | true =>
      rw [hso] at hx
      simp only [cond_true] at hx
      obtain ⟨c', c1', E2', c2', g1, g2, g3, g3m, g4, g5, g6, g7, _⟩ := exp1_two h (fun q hq => hc2 j q (Nat.le_refl _) (.inr hq)) r1 hx
      obtain ⟨as, ins, bk, o1', c1'', E2'', c2'', q1, q2, q3, q4, q5, q6, q7, q8, q9, q10, q11⟩ := argsV_two vs shs.tail (j + 1) r ts _ _ _ _ _ _ g2 hm0 r2 (fun i hi => ho2 i (by omega))
        (fun j' q hj hp => by rw [g6 q (fun hq => by have := plA_inj hp (.inr hq : plA j q); omega)]; exact hc2 j' q (by omega) hp)
        (fun i b hi => by rw [g3m] at hi; exact hlt i b hi) g1
      refine ⟨_, ins, bk, o1', c1'', E2'', c2'', q1, q2, g3.trans q3, ?_, q5, fun jj cs hp => ⟨by have := (q6 jj cs hp).1; omega, (q6 jj cs hp).2⟩, fun q hq => ?_, q8, q9, fun q hq => q10 q (g7 q hq), fun p y hp => ?_⟩
      · simp only [frA, RepT]
        exact ⟨u, r, rfl, g4.mono q3, q4⟩
      · rw [q7 q (fun j' hj => hq j' (by omega)), g6 q (fun hp => hq j (Nat.le_refl _) (.inr hp))]
      · cases p with
        | zero =>
          simp at hp; subst hp
          exact named1_congr (fun q hq => q7 q (fun j' hj hp => by have := plA_inj hp (.inr hq : plA j q); omega)) g5
        | succ p => simp at hp; have := q11 p y hp; rwa [show j + 1 + p = j + (p + 1) from by omega] at this
    | false =>
    rw [hso] at hx
    simp only [cond_false] at hx
    split at hx
    · rename_i o i
      split at hx
      · rename_i cs e ho hpe
        simp only [PA_lit, Nat.blt_eq] at hx
        obtain ⟨hj1000, hx⟩ := hx
        obtain ⟨b, tt, ws, m1, m2, m3, m4, m5⟩ := h.a.live o cs ho
        obtain ⟨n1, n2⟩ := h.name (j := j) (b := b) (ho2 j (Nat.le_refl _))
        obtain ⟨cs', c1', E2', c2', g1, g2, g3, g3m, g4, g5, g6, g7⟩ := expC_two (nm := Nm.E j) (fun a b e => by injection e) (T.osh e) 0 cs c1 ws _ c2 _ n2 (fun i _ => hc2 j _ (Nat.le_refl _) plA_E) m3 hx
        have hmj : E2'.mu j = some b := by rw [g3m]; exact upd_same _ _ _
        have k2 := g2.move_obj (o := o) (j := j) (b := b) ho m1 hmj m2 g4 (fun b' hb' => by rw [hm0] at hb'; cases hb')
        have hob : upd (upd o2 j .dead) j (.live (frC (Nm.E j) 0 cs')) = upd o2 j (.live (frC (Nm.E j) 0 cs')) := by
          funext i; by_cases hi : j = i
          · subst hi; simp
          · rw [upd_ne _ _ hi, upd_ne _ _ hi, upd_ne _ _ hi]
        rw [hob] at k2
        obtain ⟨as, ins, bk, o1', c1'', E2'', c2'', q1, q2, q3, q4, q5, q6, q7, q8, q9, q10, q11⟩ := argsV_two vs shs.tail (j + 1) r ts _ _ _ _ _ _ k2 hm0 r2 (fun i hi => by rw [upd_ne _ _ (by omega)]; exact ho2 i (by omega))
          (fun j' q hj hp => by rw [g6 _ (fun i' _ e => by have := plA_inj hp (e ▸ plA_E : plA j q); omega)]; exact hc2 j' q (by omega) hp)
          (fun i b' hi => by
            rw [g3m] at hi
            replace hi : upd E2.mu j b i = some b' := hi
            by_cases hij : j = i
            · omega
            · rw [upd_ne _ _ hij] at hi; exact hlt i b' hi) g1
        have hpm : ∀ b', F1.mu0 o = some b' → b' = b := fun b' hb' => by
          have := h.a.pm o b' cs hb' ho
          rw [m1] at this; exact (Option.some.inj this).symm
        refine ⟨_, _, _, o1', c1'', E2'', c2'', q1, ?_, (n1.trans g3).trans q3, ?_, ?_, ?_, ?_, q8, ?_, ?_, ?_⟩
        · have : (fun i => (objsOf ((j, cs') :: ins) i).or (o2 i)) = (fun i => (objsOf ins i).or (upd o2 j (.live (frC (Nm.E j) 0 cs')) i)) := by
            funext i
            simp only [objsOf, List.map_cons, ofL]
            by_cases hi : j = i
            · subst hi
              have hno : ofL (ins.map fun p => (p.1, Ob.live (frC (Nm.E p.1) 0 p.2))) j = none := by
                have : ∀ l : List (Nat × List AV), (∀ jj cs, (jj, cs) ∈ l → j + 1 ≤ jj) → ofL (l.map fun p => (p.1, Ob.live (frC (Nm.E p.1) 0 p.2))) j = none := by
                  intro l
                  induction l with
                  | nil => intro _; rfl
                  | cons p l ih =>
                    intro hl
                    have h1 := hl p.1 p.2 (by simp)
                    have : Nat.beq p.1 j = false := by rw [Bool.eq_false_iff]; intro e; have := Nat.eq_of_beq_eq_true e; omega
                    simp only [List.map_cons, ofL, this, cond_false]
                    exact ih fun jj cs hp => hl jj cs (by simp [hp])
                exact this ins fun jj cs hp => (q6 jj cs hp).1
              simp [hno]
            · have : Nat.beq j i = false := by rw [Bool.eq_false_iff]; intro e; exact hi (Nat.eq_of_beq_eq_true e)
              simp only [this, cond_false]
              rw [upd_ne _ _ hi]
          rw [this]
          exact q2
        · simp only [frA, RepT]
          refine ⟨u, r, rfl, ?_, q4⟩
          simp only [fr1, fr0, Rep] at r1 ⊢
          obtain ⟨b', hb', rfl⟩ := r1
          rw [m1] at hb'; cases hb'
          exact ⟨b, q3.mu _ _ hmj, rfl⟩
        · intro p hp
          rcases List.mem_cons.1 hp with rfl | hp
          · exact ⟨b, q3.mu _ _ hmj, m1, q9 _ (upd_same _ _ _), hpm⟩
          · exact q5 p hp
        · intro jj cs2 hp
          rcases List.mem_cons.1 hp with hp | hp
          · cases hp
            refine ⟨Nat.le_refl _, fun i x e => ?_⟩
            have := g5 i x e
            rw [Nat.zero_add] at this
            exact named0_congr (q7 _ (fun j' hj hp => by have := plA_inj hp (plA_E (j := j) (i := i)); omega)) this
          · have := q6 jj cs2 hp
            exact ⟨by omega, this.2⟩
        · intro q hq
          rw [q7 q (fun j' hj => hq j' (by omega)), g6 q (fun i _ e => hq j (Nat.le_refl _) (e ▸ plA_E))]
        · intro o' ho'
          refine q9 o' ?_
          by_cases hoo : o = o'
          · subst hoo; exact upd_same _ _ _
          · rw [upd_ne _ _ hoo]; exact ho'
        · exact fun q hq => q10 q (g7 q hq)
        · intro p y hp
          cases p with
          | zero => simp at hp; subst hp; trivial
          | succ p => simp at hp; have := q11 p y hp; rwa [show j + 1 + p = j + (p + 1) from by omega] at this
      · rename_i _ cs ho
        refine plain (.rp cs i) ?_ rfl hx
        simp only [Rep] at r1 ⊢
        obtain ⟨b', hb', rfl⟩ := r1
        obtain ⟨b, ws, m1, m2, m3, m4⟩ := h.a.frz o cs ho
        obtain rfl : b = b' := by rw [m1] at hb'; exact Option.some.inj hb'
        exact ⟨b, 0, by rw [Nat.zero_add], m2, ws, m3, fun jj hjj => by rw [Nat.zero_add]; exact m4 jj hjj⟩
      · cases hx
    · simp only [PA_lit] at hx
      exact plain _ (rep_demS r1) hx.1 hx.2

theorem ofL_mem {β : Type} : ∀ {l : List (Nat × β)} {j : Nat} {v : β}, ofL l j = some v → (j, v) ∈ l
  | [], j, v, h => by cases h
  | (k, x) :: l, j, v, h => by
    simp only [ofL] at h
    cases hb : Nat.beq k j with
    | true =>
      rw [hb] at h
      have := Nat.eq_of_beq_eq_true hb
      simp only [cond_true, Option.some.injEq] at h
      subst this; subst h
      simp
    | false =>
      rw [hb] at h
      exact List.mem_cons_of_mem _ (ofL_mem h)

/-- Objects that go over. -/
def GoOver (o1 : Os) (c1 : Cl) (outs : List (Nat × List AV)) : Prop := ∀ j cs, (j, cs) ∈ outs → o1 j = some (.live (frC (Nm.E j) 0 cs)) ∧ NamedC c1 (Nm.E j) cs
/-- The objects come back. -/
theorem outsV_two {d : Nat} : ∀ (bk : List (Nat × Nat × List Sh)) (outs : List (Nat × List AV)) (o1 : Os) (c1 : Cl) (E2 : E3) (o2 : Os) (c2 : Cl) (k : List (Nat × List AV) → Os → Cl → Prop),
    Two F1 E1 o1 c1 F2 E2 o2 c2 w → (∀ p ∈ bk, ∃ b, F1.mu0 p.1 = some b ∧ E2.mu p.2.1 = some b ∧ ∀ b', F2.mu0 p.2.1 = some b' → b' = b) →
    GoOver o1 c1 outs → (outs.map (·.1)).Nodup → outsV (PA M) d bk outs o2 c2 k →
    ∃ outs' o1' c1' E2' o2' c2', k outs' o2' c2' ∧ Two F1 E1 o1' c1' F2 E2' o2' c2' w ∧ E2.le E2' ∧
      GoOver o1' c1' outs' ∧ (outs'.map (·.1)).Nodup ∧ (∀ q, (∀ j i, q ≠ .E j i) → c1' q = c1 q)
  | [], outs, o1, c1, E2, o2, c2, k, h, _, ho, hnd, hx => by
    simp only [outsV] at hx
    exact ⟨outs, o1, c1, E2, o2, c2, hx, h, E3.le.refl E2, ho, hnd, fun _ _ => rfl⟩
  | (j, o, shs) :: bk, outs, o1, c1, E2, o2, c2, k, h, hbk, ho, hnd, hx => by
    simp only [outsV, PA_asC, PA_lit, Nat.beq_eq] at hx
    obtain ⟨⟨j', cs⟩, outs', rfl, rfl, hx⟩ := hx
    simp only at hx
    obtain ⟨b, m1, m2, m3⟩ := hbk (j', o, shs) (by simp)
    obtain ⟨l1, l2⟩ := ho j' cs (by simp)
    obtain ⟨b', tt, ws, g1, g2, g3, g4, g5⟩ := h.a.live j' _ l1
    have hbb : b' = b := by
      have := h.a.pm j' b _ m1 l1
      rw [g1] at this; exact Option.some.inj this
    subst hbb
    obtain ⟨cs', c1', E2', c2', q1, q2, q3, q3m, q4, q5⟩ := impO_two (j := j') h g3 l2 hx
    have k2 := q2.move_obj (o := j') (j := o) (b := b') l1 g1 (by rw [q3m]; exact m2) g2 q4 m3
    obtain ⟨outs'', o1', c1'', E2'', o2', c2'', r1, r2, r3, r4, r5, r6⟩ := outsV_two bk outs' _ _ _ _ _ _ k2
      (fun p hp => by
        obtain ⟨b2, n1, n2, n3⟩ := hbk p (by simp [hp])
        exact ⟨b2, n1, by rw [q3m]; exact n2, n3⟩)
      (fun jj cc hp => by
        simp only [List.map_cons, List.nodup_cons] at hnd
        have hne : j' ≠ jj := by
          rintro rfl
          exact hnd.1 (List.mem_map.2 ⟨_, hp, rfl⟩)
        obtain ⟨p1, p2⟩ := ho jj cc (by simp [hp])
        exact ⟨by rw [upd_ne _ _ hne]; exact p1, fun i x e => named0_congr (q5 _ (fun p e3 => by injection e3 with e3 _; exact hne e3.symm)) (p2 i x e)⟩)
      (by simp only [List.map_cons, List.nodup_cons] at hnd; exact hnd.2) q1
    exact ⟨outs'', o1', c1'', E2'', o2', c2'', r1, r2, q3.trans r3, r4, r5, fun q hq => by rw [r6 q hq, q5 q (fun p => hq j' p)]⟩

theorem repT_of_shape {sh : Sh} {v : AV} {k : AV → Prop} (h : shape (PA M) sh v k) : k v := shape_same h
theorem ob_ge (n : Nat) : 1000 ≤ ob n := by unfold ob; omega
theorem inP_R {r r' : Nat} {q : Nm} (h : inP (.R r) q) (h' : inP (.R r') q) : r = r' := by
  rcases h with rfl | ⟨i, rfl⟩ <;> rcases h' with e | ⟨i', e⟩ <;> simp_all [subN]
theorem inP_RE {r j i : Nat} (h : inP (.R r) (.E j i)) : False := by
  rcases h with h | ⟨i, h⟩ <;> simp [subN] at h
/-- The results come. -/
theorem resV_two {d : Nat} : ∀ (shs : List Sh) (r : Nat) (res : List AV) (us : List Value) (outs : List (Nat × List AV)) (o1 : Os) (c1 : Cl) (E2 : E3) (o2 : Os) (c2 : Cl) (k : List AV → Os → Cl → Prop),
    Two F1 E1 o1 c1 F2 E2 o2 c2 w → (∀ i b, F2.mu0 i = some b → i < 1000) → RepT E1 (frR r res) us →
    GoOver o1 c1 outs → (outs.map (·.1)).Nodup →
    (∀ (p : Nat) v, res[p]? = some v → Named1 c1 (.R (r + p)) v) → resV (PA M) d r shs res outs o2 c2 k →
    ∃ vs o1' c1' E2' o2' c2', k vs o2' c2' ∧ Two F1 E1 o1' c1' F2 E2' o2' c2' w ∧ E2.le E2' ∧ RepT E2' vs us
  | [], r, res, us, outs, o1, c1, E2, o2, c2, k, h, _, hr, _, _, _, hx => by
    simp only [resV, PA_asN] at hx
    obtain ⟨rfl, rfl, hx⟩ := hx
    exact ⟨[], o1, c1, E2, o2, c2, hx, h, E3.le.refl E2, by simpa [RepT, frR] using hr⟩
  | sh :: shs, r, res, us, outs, o1, c1, E2, o2, c2, k, h, hm, hr, ho, hnd, hn, hx => by
    unfold resV at hx
    simp only [PA_asC] at hx
    obtain ⟨v, res', rfl, hx⟩ := hx
    simp only [frR, RepT] at hr
    obtain ⟨u, us', rfl, r1, r2⟩ := hr
    split at hx
    · rename_i os
      split at hx
      · rename_i ro
        simp only [PA_lit, Nat.beq_eq, PA_asC] at hx
        obtain ⟨hro, ⟨j', cs⟩, outs', rfl, hj', hx⟩ := hx
        simp only at hx hj'
        have hge := ob_ge (d + 65536 * r)
        generalize ob (d + 65536 * r) = nob at hx hge
        obtain ⟨hfr, hx⟩ := fresh_iff.1 hx
        obtain ⟨l1, l2⟩ := ho j' cs (by simp)
        obtain ⟨b, tt, ws, g1, g2, g3, g4, g5⟩ := h.a.live j' _ l1
        obtain ⟨n1, n2⟩ := h.name (j := nob) (b := b) hfr
        obtain ⟨cs', c1', E2', c2', q1, q2, q3, q3m, q4, q5⟩ := impO_two (j := j') n2 g3 l2 hx
        have hmo : E2'.mu nob = some b := by rw [q3m]; exact upd_same _ _ _
        have k2 := q2.move_obj (o := j') (j := nob) (b := b) l1 g1 hmo g2 q4 (fun b' hb' => absurd (hm _ _ hb') (Nat.not_lt.2 hge))
        have hob : upd (upd o2 nob .dead) nob (.live cs') = upd o2 nob (.live cs') := by
          funext i; by_cases hi : nob = i
          · subst hi; simp
          · rw [upd_ne _ _ hi, upd_ne _ _ hi, upd_ne _ _ hi]
        rw [hob] at k2
        obtain ⟨vs, o1', c1'', E2'', o2', c2'', p1, p2, p3, p4⟩ := resV_two shs (r + 1) res' us' outs' _ _ _ _ _ _ k2 hm r2
          (fun jj cc hp => by
            simp only [List.map_cons, List.nodup_cons] at hnd
            have hne : j' ≠ jj := by
              rintro rfl
              exact hnd.1 (List.mem_map.2 ⟨_, hp, rfl⟩)
            obtain ⟨s1, s2⟩ := ho jj cc (by simp [hp])
            exact ⟨by rw [upd_ne _ _ hne]; exact s1, fun i x e => named0_congr (q5 _ (fun p e3 => by injection e3 with e3 _; exact hne e3.symm)) (s2 i x e)⟩)
          (by simp only [List.map_cons, List.nodup_cons] at hnd; exact hnd.2)
          (fun p x e => by
            have := hn (p + 1) x (by simpa using e)
            rw [show r + (p + 1) = r + 1 + p from by omega] at this
            exact named1_congr (fun q hq => q5 q (fun i e => inP_RE (e ▸ hq))) this) q1
        refine ⟨_, o1', c1'', E2'', o2', c2'', p1, p2, (n1.trans q3).trans p3, ?_⟩
        simp only [RepT]
        refine ⟨u, us', rfl, ?_, p4⟩
        simp only [fr1, fr0, Rep] at r1 ⊢
        obtain ⟨b', hb', rfl⟩ := r1
        rw [hro, ← hj', g1] at hb'
        cases hb'
        exact ⟨b, p3.mu _ _ hmo, rfl⟩
      · cases hx
    · have hx := shape_same hx
      have hn0 := hn 0 v rfl
      rw [Nat.add_zero] at hn0
      obtain ⟨c', c1', E2', c2', g1, g2, g3, g3m, g4, g6⟩ := imp1_two h r1 hn0 hx
      obtain ⟨vs, o1', c1'', E2'', o2', c2'', p1, p2, p3, p4⟩ := resV_two shs (r + 1) res' us' outs _ _ _ _ _ _ g2 hm r2
        (fun jj cc hp => by
          obtain ⟨s1, s2⟩ := ho jj cc hp
          exact ⟨s1, fun i x e => named0_congr (g6 _ (fun hq => inP_RE hq)) (s2 i x e)⟩) hnd
        (fun p x e => by
          have := hn (p + 1) x (by simpa using e)
          rw [show r + (p + 1) = r + 1 + p from by omega] at this
          exact named1_congr (fun q hq => g6 q (fun hq' => by have := inP_R hq hq'; omega)) this) g1
      refine ⟨_, o1', c1'', E2'', o2', c2'', p1, p2, g3.trans p3, ?_⟩
      simp only [RepT]
      exact ⟨u, us', rfl, g4.mono p3, p4⟩

/-- The blocks that a frame's objects and claims use. -/
def Used (E : E3) (objs : Os) (cl : Cl) (g : Nat) : Prop := (∃ o cs, objs o = some (.live cs) ∧ E.mu o = some g) ∨ (∃ q v s, isAl (cl q) = true ∧ E.ka q = some (v, s) ∧ v.ownBlock = some g)

/-- A call has come back: what the caller still holds is as it was. -/
theorem WI.after {Fc : Fr} {E' : E3} {w' : World} (h : WI F E objs cl w) (hw0 : Fc.w0 = w) (hS0 : Fc.S0 = E.S) (hO : ∀ g, Fc.O g → F.own g ∧ ¬ Used E objs cl g) {oc : Os} {cc : Cl} (hc : WI Fc E' oc cc w') :
    WI F { E with S := E'.S } objs cl w' ∧ E.le { E with S := E'.S } := by
  have hle : E.le { E with S := E'.S } := ⟨fun b i v hv => hc.base b i v (by rw [hS0]; exact hv), fun _ _ h => h, fun _ _ h => h⟩
  have hsz : w.heap.size ≤ w'.heap.size := by have := hc.step.size; rw [hw0] at this; exact this
  have hheap : ∀ g, g < w.heap.size → ¬ Fc.O g → w'.heap[g]? = w.heap[g]? := fun g hg ho => by
    have := hc.step.block g (by rw [hw0]; exact hg) ho; rw [hw0] at this; exact this
  have hnoS : ∀ g, g < w.heap.size → ¬ Fc.O g → ∀ i, E.S g i = none → E'.S g i = none := by
    intro g hg ho i hn
    cases hs : E'.S g i with
    | none => rfl
    | some v =>
      rcases hc.sdom g i v hs with h1 | h1 | h1
      · rw [hS0, hn] at h1; cases h1
      · rw [hw0] at h1; omega
      · exact absurd h1 ho
  have hown : ∀ g, Fc.own g → F.own g := by
    rintro g (h1 | h1)
    · rw [hw0] at h1; exact h.own_new h1
    · exact (hO g h1).1
  refine ⟨{ h with agree := hc.agree, live := ?_, frz := ?_, claim := ?_, rows := fun q l hq => (by
    obtain ⟨v, sz, t, n, xs, h1, h2, h3, h4, h5⟩ := h.rows q l hq
    refine ⟨v, sz, t, n, xs, h1, ownsRow_heap h2 fun g hg => ?_, h3.mono hle, h4, fun g hg i => ?_⟩
    · exact hheap g (h2.lt g hg).2 (fun hb => (hO g hb).2 (.inr ⟨q, v, sz, isAl_row hq, h1, hg⟩))
    · exact hnoS g (h2.lt g hg).2 (fun hb => (hO g hb).2 (.inr ⟨q, v, sz, isAl_row hq, h1, hg⟩)) i (h5 g hg i)), step := ?_, base := ?_, sdom := ?_ }, hle⟩
  · intro o cs ho
    obtain ⟨b, t, vs, h1, h2, h3, h4, h5⟩ := h.live o cs ho
    have hlt : b < w.heap.size := (Array.getElem?_eq_some_iff.1 h2).1
    have hno : ¬ Fc.O b := fun hb => (hO b hb).2 (.inl ⟨o, cs, ho, h1⟩)
    exact ⟨b, t, vs, h1, by rw [hheap b hlt hno]; exact h2, h3.mono hle, fun i => hnoS b hlt hno i (h4 i), h5⟩
  · intro o cs ho
    obtain ⟨b, vs, h1, h2, h3, h4⟩ := h.frz o cs ho
    exact ⟨b, vs, h1, h2, h3.mono hle, fun j hj => S_some hle.S (get_isSome hj) (h4 j hj)⟩
  · intro q hq
    obtain ⟨v, sz, t, n, xs, h1, h2, h3, h4⟩ := h.claim q hq
    refine ⟨v, sz, t, n, xs, h1, h2, ownsRow_heap h3 fun g hg => ?_, fun g hg => ⟨(h4 g hg).1, fun i hi => ?_⟩⟩
    · exact hheap g (h3.lt g hg).2 (fun hb => (hO g hb).2 (.inr ⟨q, v, sz, hq, h1, hg⟩))
    · exact hnoS g (h3.lt g hg).2 (fun hb => (hO g hb).2 (.inr ⟨q, v, sz, hq, h1, hg⟩)) i ((h4 g hg).2 i hi)
  · refine ⟨?_, ?_, ?_, ?_, fun i hi ho => ?_⟩
    · have := hc.step.os; rw [hw0] at this; exact this.trans h.step.os
    · have := hc.step.tape; rw [hw0] at this; exact this.trans h.step.tape
    · have := hc.step.output; rw [hw0] at this; exact this.trans h.step.output
    · exact Nat.le_trans h.step.size hsz
    · rw [hheap i (Nat.lt_of_lt_of_le hi h.step.size) (fun hb => by rcases (hO i hb).1 with h1 | h1; · omega
                                                                    · exact ho h1)]
      exact h.step.block i hi ho
  · exact fun b i v hv => hle.S b i v (h.base b i v hv)
  · intro b i v hv
    rcases hc.sdom b i v hv with h1 | h1
    · rw [hS0] at h1; exact h.sdom b i v h1
    · exact .inr (hown b h1)

/-- What a call comes to, behind which the operation's value is laid. -/
def CallDoes (P : Program) (F : Fr) (E : E3) (f : Nat) (vals : Array Value) (w : World) (k : AV → Os → Cl → Prop) : Prop :=
  Calls P f vals w fun e w' => ∃ v E' x objs' cl', e = .returned v ∧ k x objs' cl' ∧ E.le E' ∧ Rep E' x v ∧ WI F E' objs' cl' w'

theorem repT_append : ∀ {l r : List AV} {us vs : List Value}, RepT E l us → RepT E r vs → RepT E (l ++ r) (us ++ vs)
  | [], r, us, vs, h, k => by simp [RepT] at h; subst h; simpa using k
  | x :: l, r, us, vs, h, k => by
    simp only [RepT, List.cons_append] at h ⊢
    obtain ⟨v, r', rfl, h1, h2⟩ := h
    exact ⟨v, r' ++ vs, by simp, h1, repT_append h2 k⟩
theorem repT_of_repL : ∀ {l : List AV} {us : List Value}, RepL E l us → RepT E l us
  | [], us, h => by simpa [RepL, RepT] using h
  | x :: l, us, h => by
    simp only [RepL, RepT] at h ⊢
    obtain ⟨v, r, rfl, _, _, h3, h4⟩ := h
    exact ⟨v, r, rfl, h3, repT_of_repL h4⟩
/-- The results, apart. -/
theorem frR_one1 {res : List AV} : True := trivial
theorem rep_res : ∀ {res : List AV} {v : Value}, Rep E (one1 res) v → ∃ us : List Value, RepT E res us ∧ v = (match us with | [u] => u | us => .tuple us.toArray)
  | [], v, h => by
    simp only [one1, Rep] at h
    obtain ⟨vs, rfl, h⟩ := h
    exact ⟨vs, h, by simp [RepT] at h; subst h; rfl⟩
  | [x], v, h => ⟨[v], by simp only [RepT]; exact ⟨v, [], rfl, h, rfl⟩, rfl⟩
  | x :: y :: l, v, h => by
    simp only [one1, Rep] at h
    obtain ⟨vs, rfl, h⟩ := h
    refine ⟨vs, h, ?_⟩
    simp only [RepT] at h
    obtain ⟨v1, r1, rfl, _, v2, r2, rfl, _⟩ := h
    rfl
theorem rep_back : ∀ {res : List AV} {us : List Value}, RepT E res us → Rep E (one1 res) (match us with | [u] => u | us => .tuple us.toArray)
  | [], us, h => by
    have : us = [] := by simpa [RepT] using h
    subst this
    simp only [one1, Rep]
    exact ⟨[], rfl, by simp [RepT]⟩
  | [x], us, h => by
    obtain ⟨u, e, h1⟩ := repT_one h
    subst e
    exact h1
  | x :: y :: l, us, h => by
    have h' := h
    simp only [RepT] at h
    obtain ⟨v1, r1, rfl, _, v2, r2, rfl, _⟩ := h
    simp only [one1, Rep]
    exact ⟨_, rfl, h'⟩

theorem call_sound {P : Program} {L : LoopM} (h : WI F E objs cl w) {f d : Nat} {vs : List AV} {us : List Value} {caps : List AV} {cs : List Value} {ts : List Nat} {k : AV → Os → Cl → Prop} (hv : RepT E vs us) (hcap : RepL E caps cs) (hcf : caps.all AV.flat1 = true)
    (hx : argsV (PA (SM P L)) T 0 (T.ash f) vs ts objs cl fun as ins bk objs cl =>
          (PA (SM P L)).call f (as ++ caps) ins fun res outs => outsV (PA (SM P L)) d bk outs objs cl fun outs objs cl => resV (PA (SM P L)) d 0 (T.res f) res outs objs cl fun vs objs cl => k (one1 vs) objs cl) :
    CallDoes P F E f (us ++ cs).toArray w k := by
  let F2 : Fr := ⟨w, F.own, E.S, fun _ => none, fun _ _ h => by cases h⟩
  let E2 : E3 := ⟨E.S, fun _ => none, fun _ => none⟩
  have h2 : WI F2 E2 (fun _ => none) (fun _ => none) w :=
    ⟨h.agree, (by intro o cs ho; cases ho), (by intro o cs ho; cases ho), (by intro q hq; cases hq), (by intro q l hq; cases hq), (by intro o o' cs cs' b ho; cases ho), (by intro q q' v v' s s' g hq; cases hq),
      (by intro o cs b q v s ho; cases ho), (by intro o b ho; cases ho), (by intro q x hq; cases hq), ⟨rfl, rfl, rfl, Nat.le_refl _, fun _ _ _ => rfl⟩, fun _ _ _ h => h, fun _ _ _ h => .inl h, (by intro j b c hj; cases hj)⟩
  have htwo : Two F E objs cl F2 E2 (fun _ => none) (fun _ => none) w :=
    ⟨h, h2, rfl, fun g hg => .inr hg, (by intro o o' cs cs' g _ ho; cases ho), (by intro o cs g q v s _ _ hq; cases hq), (by intro o cs g q v s ho; cases ho), (by intro q q' v v' s s' g _ hq; cases hq)⟩
  obtain ⟨as, ins, bk, o1', c1', E2', c2', g1, g2, g3, g4, g5, g6, g7, g8, _, _, g11⟩ := argsV_two vs (T.ash f) 0 us ts objs cl E2 _ _ _ htwo (fun _ => rfl) hv (fun _ _ => rfl) (fun _ _ _ _ => rfl) (by intro i b hi; cases hi) hx
  have hoi : (fun i => (objsOf ins i).or none) = objsOf ins := by funext i; simp
  rw [hoi] at g2
  let Fc : Fr := ⟨w, fun g => F.own g ∧ ¬ Used E o1' c1' g, E2'.S, E2'.mu, g8⟩
  have hS2 : E2'.S = E.S := g2.S
  have hcal : WI Fc E2' (objsOf ins) c2' w := by
    have hb := g2.b
    have own2 : ∀ g, F2.own g → ¬ Used E o1' c1' g → Fc.own g := by
      rintro g (h1 | h1) hn
      · exact .inl h1
      · exact .inr ⟨h1, hn⟩
    refine { agree := hb.agree, live := ?_, frz := hb.frz, claim := ?_, rows := hb.rows, oo := hb.oo, cc := hb.cc, oc := hb.oc, mdom := hb.mdom, kdom := hb.kdom, step := ⟨rfl, rfl, rfl, Nat.le_refl _, fun _ _ _ => rfl⟩, base := fun _ _ _ h => h, sdom := fun _ _ _ h => .inl h, pm := fun j b c hj _ => hj }
    · intro o cs' ho
      obtain ⟨b, t, ws, k1, k2, k3, k4, k5⟩ := hb.live o cs' ho
      refine ⟨b, t, ws, k1, k2, k3, k4, own2 b k5 ?_⟩
      rintro (⟨o', cs2, u1, u2⟩ | ⟨q, v, s, u1, u2, u3⟩)
      · exact g2.oo o' o cs2 cs' b u1 ho u2 k1
      · exact g2.co o cs' b q v s ho k1 u1 u2 u3
    · intro q hq
      obtain ⟨v, sz, t, n, xs, k1, k2, k3, k4⟩ := hb.claim q hq
      refine ⟨v, sz, t, n, xs, k1, k2, k3, fun g hg => ⟨own2 g (k4 g hg).1 ?_, (k4 g hg).2⟩⟩
      rintro (⟨o', cs2, u1, u2⟩ | ⟨q', v', s', u1, u2, u3⟩)
      · exact g2.oc o' cs2 g q v sz u1 u2 hq k1 hg
      · exact g2.cc q' q v' v s' sz g u1 hq u2 k1 u3 hg
  have hcapT : RepT E2' caps cs := repT_of_repL (hcap.flat_mono (eS hS2) hcf)
  have hcff : caps.all AV.flat = true := by rw [List.all_eq_true] at hcf ⊢; exact fun x hx => flat_of_flat1 (hcf x hx)
  have hcall : Sem P f (as ++ caps) ins _ := g1
  refine (hcall Fc E2' c2' w (us ++ cs).toArray rfl rfl rfl (by rw [frA_append, frA_flat hcff]; simpa using repT_append g4 hcapT) hcal (fun j cc hp => (g6 j cc hp).2) (fun j x e => by
      rcases Nat.lt_or_ge j as.length with hj | hj
      · rw [List.getElem?_append_left hj] at e; have := g11 j x e; rwa [Nat.zero_add] at this
      · rw [List.getElem?_append_right hj] at e; exact named1_flat (List.all_eq_true.1 hcff _ (List.mem_of_getElem? e)))).mono ?_
  rintro e w' ⟨v, res, outs, E', cl', rfl, hq, hr, hW, hno, hnr, hnd⟩
  obtain ⟨hA, hAle⟩ := g2.a.after (Fc := Fc) rfl hS2 (fun g hg => hg) hW
  have hownc : ∀ g, Fc.own g → F.own g := by
    rintro g (h1 | h1)
    · exact h.own_new h1
    · exact h1.1
  have hnu : ∀ g, g < w.heap.size → Fc.own g → ¬ Used E o1' c1' g := by
    rintro g hlt (h1 | h1)
    · exact absurd h1 (Nat.not_le.2 hlt)
    · exact h1.2
  have hT2 : Two Fc E' (objsOf outs) cl' F { E with S := E'.S } o1' c1' w' := by
    refine ⟨hW, hA, rfl, hownc, ?_, ?_, ?_, ?_⟩
    · intro o o' cs1 cs2 g ho ho' hm hm'
      obtain ⟨b, t, ws, k1, k2, k3, k4, k5⟩ := hW.live o cs1 ho
      rw [hm] at k1; cases k1
      exact hnu g (g2.a.lt_of_live ho' hm') k5 (.inl ⟨o', cs2, ho', hm'⟩)
    · intro o cs1 g q v' s ho hm hq' hk hg
      obtain ⟨b, t, ws, k1, k2, k3, k4, k5⟩ := hW.live o cs1 ho
      rw [hm] at k1; cases k1
      exact hnu g (g2.a.lt_of_claim hq' hk hg) k5 (.inr ⟨q, v', s, hq', hk, hg⟩)
    · intro o cs1 g q v' s ho hm hq' hk hg
      obtain ⟨v'', sz, t, n, xs, k1, k2, k3, k4⟩ := hW.claim q hq'
      rw [hk] at k1; cases k1
      exact hnu g (g2.a.lt_of_live ho hm) (k4 g hg).1 (.inl ⟨o, cs1, ho, hm⟩)
    · intro q q' v' v'' s s' g hq' hq'' hk hk' hg hg'
      obtain ⟨v3, sz, t, n, xs, k1, k2, k3, k4⟩ := hW.claim q hq'
      rw [hk] at k1; cases k1
      exact hnu g (g2.a.lt_of_claim hq'' hk' hg') (k4 g hg).1 (.inr ⟨q', v'', s', hq'', hk', hg'⟩)
  obtain ⟨rs, hrs, hvr⟩ := rep_res hr
  obtain ⟨outs', p1, pc1, pE, po, pc, r1, r2, r3, r4, r5, r6⟩ := outsV_two bk outs _ _ _ _ _ _ hT2 (fun p hp => by
      obtain ⟨b, m1, m2, m3, m4⟩ := g5 p hp
      exact ⟨b, m1, m2, m4⟩)
    (fun j cc hp => by
      refine ⟨?_, hno j cc hp⟩
      have hl : ∀ (l : List (Nat × List AV)), (l.map (·.1)).Nodup → (j, cc) ∈ l → objsOf l j = some (.live (frC (Nm.E j) 0 cc)) := by
        intro l
        induction l with
        | nil => intro _ h; cases h
        | cons p l ih =>
          intro hn hm
          simp only [List.map_cons, List.nodup_cons] at hn
          simp only [objsOf, List.map_cons, ofL]
          rcases List.mem_cons.1 hm with rfl | hm
          · simp
          · have hne : p.1 ≠ j := by rintro rfl; exact hn.1 (List.mem_map.2 ⟨_, hm, rfl⟩)
            have : Nat.beq p.1 j = false := by rw [Bool.eq_false_iff]; intro e; exact hne (Nat.eq_of_beq_eq_true e)
            simp only [this, cond_false]
            exact ih hn.2 hm
      exact hl outs hnd hp) hnd hq
  obtain ⟨vs', q1, qc1, qE, qo, qc, s1, s2, s3, s4⟩ := resV_two (T.res f) 0 res rs outs' _ _ _ _ _ _ r2 F.mudom hrs r4 r5 (fun p x e => by
      rw [Nat.zero_add]
      exact named1_congr (fun q hq => r6 q (fun j i e3 => inP_RE (e3 ▸ hq))) (hnr p x e)) r1
  exact ⟨v, qE, one1 vs', qo, qc, rfl, s1, (hAle.trans r3).trans s3, by rw [hvr]; exact rep_back s4, s2.b⟩
end Go.Proofs.Ythmocicjocjdoaa.V
