/- Loop heads: what lives on is kept under its own names. -/
import Derived.Test.YthehhlaomiifnaaVo
set_option linter.unusedVariables false
set_option linter.unusedSimpArgs false
namespace Go.Proofs.Ythehhlaomiifnaa.V
open Go
variable {P : Program} {T : Tab} {M : Meaning} {F : Fr} {E E1 E2 : E3} {objs : Os} {cl : Cl} {w : World}

def E3.cut (E : E3) (objs : Os) (cl : Cl) : E3 := ⟨E.S, fun o => if (objs o).isSome then E.mu o else none, fun q => if (cl q).isSome then E.ka q else none⟩

theorem fitC_cases {x : AV} (h : fitC x = true) : x.flat = true ∨ ∃ q w l, x = .lst (.own q) w l := by
  unfold fitC at h
  split at h
  · exact .inr ⟨_, _, _, rfl⟩
  · exact .inl h
theorem rep_cut {x : AV} {v : Value} (h : Rep E x v) (hf : fitC x = true) (hn : ∀ q, q ∈ nmOf x → cl q = some true) : Rep (E.cut objs cl) x v := by
  rcases fitC_cases hf with hfl | ⟨q, wd, l, rfl⟩
  · exact Rep.flat_mono (E := E) (F := E.cut objs cl) (fun _ _ _ h => h) hfl h
  · have hq := hn q (by simp [nmOf])
    have hro : Rep (E.cut objs cl) (.lst .ro wd l) v := Rep.flat_mono (E := E) (F := E.cut objs cl) (fun _ _ _ h => h) rfl (rep_ro h)
    simp only [Rep] at h hro ⊢
    obtain ⟨a, len, cap, rfl, hl, hlc, hcm, he1, _, _⟩ := hro
    obtain ⟨_, _, _, _, _, _, _, _, _, hk⟩ := h
    refine ⟨a, len, cap, rfl, hl, hlc, hcm, he1, by simp, fun p hp => ?_⟩
    injection hp with hp
    subst hp
    simp only [E3.cut, hq, Option.isSome_some, if_true]
    exact hk _ rfl
theorem repL_cut : ∀ {cs : List AV} {vs : List Value}, RepL E cs vs → cs.all fitC = true → (∀ q, q ∈ nmsOf cs → cl q = some true) → RepL (E.cut objs cl) cs vs
  | [], vs, h, _, _ => by simpa [RepL] using h
  | c :: cs, vs, h, hf, hn => by
    simp only [List.all_cons, Bool.and_eq_true] at hf
    simp only [RepL] at h ⊢
    obtain ⟨v, r, rfl, h1, h2, h3, h4⟩ := h
    exact ⟨v, r, rfl, h1, h2, rep_cut h3 hf.1 (fun q hq => hn q (by simp [nmsOf, hq])), repL_cut h4 hf.2 (fun q hq => hn q (by simp [nmsOf, hq]))⟩

theorem WI.restrict (h : WI F E objs cl w) {objs' : Os} {cl' : Cl} (ho : ∀ o x, objs' o = some x → objs o = some x) (hc : ∀ q x, cl' q = some x → x = true ∧ cl q = some true)
    (hf : ∀ o cs, objs' o = some (.live cs) → cs.all fitC = true ∧ ∀ q, q ∈ nmsOf cs → cl' q = some true) : WI F (E.cut objs' cl') objs' cl' w := by
  have hmu : ∀ {o b}, (E.cut objs' cl').mu o = some b → E.mu o = some b := by
    intro o b hb
    simp only [E3.cut] at hb
    split at hb
    · exact hb
    · cases hb
  have hka : ∀ {q x}, (E.cut objs' cl').ka q = some x → E.ka q = some x := by
    intro q b hb
    simp only [E3.cut] at hb
    split at hb
    · exact hb
    · cases hb
  have hmu' : ∀ {o x b}, objs' o = some x → E.mu o = some b → (E.cut objs' cl').mu o = some b := by
    intro o x b h1 h2
    simp only [E3.cut, h1, Option.isSome_some, if_true]
    exact h2
  have hka' : ∀ {q x}, cl' q = some true → E.ka q = some x → (E.cut objs' cl').ka q = some x := by
    intro q x h1 h2
    simp only [E3.cut, h1, Option.isSome_some, if_true]
    exact h2
  refine { agree := h.agree, live := ?_, frz := ?_, claim := ?_, oo := ?_, cc := ?_, oc := ?_, mdom := ?_, kdom := ?_, step := h.step, base := h.base, sdom := h.sdom, pm := ?_ }
  · intro o cs h1
    obtain ⟨b, t, vs, g1, g2, g3, g4⟩ := h.live o cs (ho _ _ h1)
    exact ⟨b, t, vs, hmu' h1 g1, g2, repL_cut g3 (hf o cs h1).1 (hf o cs h1).2, g4⟩
  · intro o cs h1
    obtain ⟨b, vs, g1, g2, g3, g4⟩ := h.frz o cs (ho _ _ h1)
    exact ⟨b, vs, hmu' h1 g1, g2, RepL.flat_mono (E := E) (F := E.cut objs' cl') (fun _ _ _ h => h) g2 g3, g4⟩
  · intro q hq
    obtain ⟨v, sz, t, n, xs, g1, g2⟩ := h.claim q (hc _ _ hq).2
    exact ⟨v, sz, t, n, xs, hka' hq g1, g2⟩
  · intro o o' cs cs' b h1 h2 h3 h4
    exact h.oo o o' cs cs' b (ho _ _ h1) (ho _ _ h2) (hmu h3) (hmu h4)
  · intro q q' v v' s s' g h1 h2 h3 h4
    exact h.cc q q' v v' s s' g (hc _ _ h1).2 (hc _ _ h2).2 (hka h3) (hka h4)
  · intro o cs b q v s h1 h2 h3 h4
    exact h.oc o cs b q v s (ho _ _ h1) (hmu h2) (hc _ _ h3).2 (hka h4)
  · intro o b h1 h2
    simp only [E3.cut, h2, Option.isSome_none, Bool.false_eq_true, if_false] at h1
    cases h1
  · intro q x h1 h2
    simp only [E3.cut, h2, Option.isSome_none, Bool.false_eq_true, if_false] at h1
    cases h1
  · intro j b cs h1 h2
    exact hmu' h2 (h.pm j b cs h1 (ho _ _ h2))

theorem exp1_out {sh : Sh} {nm : Nm} {c : AV} {k : AV → Cl → Prop} (h : exp1 (PA M) sh nm c cl k) : exp1 (PA M) sh nm c cl (fun c' cl' => fitC c' = true ∧ k c' cl') := by
  have flat : ∀ {c : AV}, lit (PA M) c.flat (k c cl) → lit (PA M) c.flat (fitC c = true ∧ k c cl) := by
    intro c h
    simp only [PA_lit] at h ⊢
    refine ⟨h.1, ?_, h.2⟩
    unfold fitC
    split
    · rfl
    · exact h.1
  cases sh <;> cases c <;> try (rename_i m _ _; cases m)
  all_goals first
    | exact flat h
    | (simp only [exp1, PA_lit, PA_fail] at h ⊢; first | exact ⟨h.1, rfl, h.2⟩ | exact ⟨rfl, h⟩ | exact h.elim; done)
    | (exact h.elim)
theorem exp1_mono {sh : Sh} {nm : Nm} {c : AV} {k k' : AV → Cl → Prop} (h : exp1 (PA M) sh nm c cl k) (hk : ∀ c cl, k c cl → k' c cl) : exp1 (PA M) sh nm c cl k' := by
  cases sh <;> cases c <;> try (rename_i m _ _; cases m)
  all_goals first
    | (simp only [exp1, PA_lit, PA_fail] at h ⊢; first | exact ⟨h.1, hk _ _ h.2⟩ | exact hk _ _ h | exact h.elim; done)
    | (exact h.elim)
theorem expC_mono {nm : Nat → Nm} : ∀ {shs : List Sh} {i : Nat} {cs : List AV} {c1 : Cl} {k k' : List AV → Cl → Prop}, expC (PA M) nm shs i cs c1 k → (∀ c cl, k c cl → k' c cl) → expC (PA M) nm shs i cs c1 k' := by
  intro shs
  induction shs with
  | nil => intro i cs c1 k k' h hk; simp only [expC, PA_asN] at h ⊢; exact ⟨h.1, hk _ _ h.2⟩
  | cons sh shs ih =>
    intro i cs c1 k k' h hk
    have step : asC (PA M) cs (fun c cs => lit (PA M) c.one (exp1 (PA M) sh (nm i) c c1 fun c cl => expC (PA M) nm shs (i + 1) cs cl fun r cl => k (c :: r) cl)) →
        asC (PA M) cs (fun c cs => lit (PA M) c.one (exp1 (PA M) sh (nm i) c c1 fun c cl => expC (PA M) nm shs (i + 1) cs cl fun r cl => k' (c :: r) cl)) := by
      intro h
      simp only [PA_asC, PA_lit] at h ⊢
      obtain ⟨c, cr, rfl, ho, h⟩ := h
      exact ⟨c, cr, rfl, ho, exp1_mono h fun c' cl' h2 => ih h2 fun r cl2 hr => hk _ _ hr⟩
    cases sh <;> cases shs <;> first
      | exact step h
      | (simp only [expC, PA_chk] at h ⊢; exact ⟨h.1, hk _ _ h.2⟩)
theorem expC_out {nm : Nat → Nm} : ∀ (shs : List Sh) (i : Nat) (cs : List AV) (c1 : Cl) (k : List AV → Cl → Prop), expC (PA M) nm shs i cs c1 k → expC (PA M) nm shs i cs c1 (fun cs' cl' => cs'.all fitC = true ∧ k cs' cl') := by
  have fl : ∀ (cs : List AV), cs.all AV.flat1 = true → cs.all fitC = true := by
    intro cs h
    rw [List.all_eq_true] at h ⊢
    intro x hx
    have := h x hx
    unfold fitC
    split
    · rfl
    · rename_i hne
      cases x <;> first | exact this | (simp [AV.flat1] at this)
  intro shs
  induction shs with
  | nil => intro i cs c1 k h; simp only [expC, PA_asN] at h ⊢; exact ⟨h.1, rfl, h.2⟩
  | cons sh shs ih =>
    intro i cs c1 k h
    have step : asC (PA M) cs (fun c cs => lit (PA M) c.one (exp1 (PA M) sh (nm i) c c1 fun c cl => expC (PA M) nm shs (i + 1) cs cl fun r cl => k (c :: r) cl)) →
        asC (PA M) cs (fun c cs => lit (PA M) c.one (exp1 (PA M) sh (nm i) c c1 fun c cl => expC (PA M) nm shs (i + 1) cs cl fun r cl => (c :: r).all fitC = true ∧ k (c :: r) cl)) := by
      intro h
      simp only [PA_asC, PA_lit] at h ⊢
      obtain ⟨c, cr, rfl, ho, h⟩ := h
      refine ⟨c, cr, rfl, ho, ?_⟩
      have h1 := exp1_out h
      refine exp1_mono h1 ?_
      rintro c' cl' ⟨hf, h2⟩
      refine expC_mono (ih _ _ _ _ h2) ?_
      rintro r cl2 ⟨hr, hk⟩
      exact ⟨by simp only [List.all_cons, Bool.and_eq_true]; exact ⟨hf, hr⟩, hk⟩
    cases sh <;> cases shs <;> first
      | exact step h
      | (simp only [expC, PA_chk] at h ⊢; exact ⟨h.1, fl _ h.1, h.2⟩)
end Go.Proofs.Ythehhlaomiifnaa.V
