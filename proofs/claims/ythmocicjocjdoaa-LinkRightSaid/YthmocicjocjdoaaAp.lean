/- Loop heads: what lives on is kept under its own names. -/
import Derived.Test.YthmocicjocjdoaaAo
set_option linter.unusedVariables false
set_option linter.unusedSimpArgs false
namespace Go.Proofs.Ythmocicjocjdoaa.V
open Go
variable {P : Program} {T : Tab} {M : Meaning} {F : Fr} {E E1 E2 : E3} {objs : Os} {cl : Cl} {w : World}

def E3.cut (E : E3) (objs : Os) (cl : Cl) : E3 := ⟨E.S, fun o => if (objs o).isSome then E.mu o else none, fun q => if (cl q).isSome then E.ka q else none⟩

/-- What a value leans on: names, or the cells that stand still alone. -/
def OkF0 (N : Nm → Prop) (x : AV) : Prop := match x with | .lst (.own q) _ _ => N q | .sq q _ => N q | x => x.flat = true
def OkF (N : Nm → Prop) (x : AV) : Prop := match x with | .agg cs => ∀ c, c ∈ cs → OkF0 N c | x => OkF0 N x
theorem OkF0.mono {N N' : Nm → Prop} (h : ∀ q, N q → N' q) {x : AV} (k : OkF0 N x) : OkF0 N' x := by
  unfold OkF0 at k ⊢
  split at k <;> first | exact h _ k | exact k
theorem OkF.mono {N N' : Nm → Prop} (h : ∀ q, N q → N' q) {x : AV} (k : OkF N x) : OkF N' x := by
  unfold OkF at k ⊢
  split at k
  · exact fun c hc => (k c hc).mono h
  · exact k.mono h
theorem okF0_flat {N : Nm → Prop} {x : AV} (h : x.flat = true) : OkF0 N x := by
  unfold OkF0
  split
  · simp [AV.flat, AV.flat1] at h
  · simp [AV.flat, AV.flat1] at h
  · exact h
theorem rep_cut0 {N : Nm → Prop} {x : AV} {v : Value} (h : Rep E x v) (hf : OkF0 N x) (hn : ∀ q, N q → (cl q).isSome = true) : Rep (E.cut objs cl) x v := by
  unfold OkF0 at hf
  split at hf
  · rename_i q wd l
    have hq := hn q hf
    have hro : Rep (E.cut objs cl) (.lst .ro wd l) v := Rep.flat_mono (E := E) (F := E.cut objs cl) (fun _ _ _ h => h) rfl (rep_ro h)
    simp only [Rep] at h hro ⊢
    obtain ⟨a, len, cap, rfl, hl, hlc, hcm, he1, _, _⟩ := hro
    obtain ⟨_, _, _, _, _, _, _, _, _, hk⟩ := h
    refine ⟨a, len, cap, rfl, hl, hlc, hcm, he1, by simp, fun p hp => ?_⟩
    injection hp with hp
    subst hp
    simp only [E3.cut, hq, if_true]
    exact hk _ rfl
  · rename_i q wd
    have hq := hn q hf
    simp only [Rep] at h ⊢
    exact ⟨by simp only [E3.cut, hq, if_true]; exact h.1, h.2⟩
  · exact Rep.flat_mono (E := E) (F := E.cut objs cl) (fun _ _ _ h => h) hf h
theorem repL_cut {N : Nm → Prop} : ∀ {cs : List AV} {vs : List Value}, RepL E cs vs → (∀ c, c ∈ cs → OkF0 N c) → (∀ q, N q → (cl q).isSome = true) → RepL (E.cut objs cl) cs vs
  | [], vs, h, _, _ => by simpa [RepL] using h
  | c :: cs, vs, h, hf, hn => by
    simp only [RepL] at h ⊢
    obtain ⟨v, r, rfl, h1, h2, h3, h4⟩ := h
    exact ⟨v, r, rfl, h1, h2, rep_cut0 h3 (hf c (by simp)) hn, repL_cut h4 (fun c hc => hf c (by simp [hc])) hn⟩
theorem rep_cut {N : Nm → Prop} {x : AV} {v : Value} (h : Rep E x v) (hf : OkF N x) (hn : ∀ q, N q → (cl q).isSome = true) : Rep (E.cut objs cl) x v := by
  unfold OkF at hf
  split at hf
  · simp only [Rep] at h ⊢
    obtain ⟨vs, rfl, h⟩ := h
    exact ⟨vs, rfl, repL_cut h hf hn⟩
  · exact rep_cut0 h hf hn

/-- A name that goes on. -/
def GoodN (cl : Cl) (q : Nm) (x : Cs) : Prop := cl q = some x ∧ isAl (some x) = true ∧ ∀ l, x = .row l → l.all AV.flat = true
theorem WI.restrict (h : WI F E objs cl w) {objs' : Os} {cl' : Cl} (ho : ∀ o x, objs' o = some x → objs o = some x) (hc : ∀ q x, cl' q = some x → GoodN cl q x)
    (hf : ∀ o cs, objs' o = some (.live cs) → ∀ c, c ∈ cs → OkF0 (fun q => (cl' q).isSome = true) c) : WI F (E.cut objs' cl') objs' cl' w := by
  have hmu : ∀ {o b}, (E.cut objs' cl').mu o = some b → E.mu o = some b := by
    intro o b hb
    simp only [E3.cut] at hb
    split at hb
    · exact hb
    · cases hb
  have hka : ∀ {q x}, (E.cut objs' cl').ka q = some x → E.ka q = some x := by
    intro q b hb
    simp only [E3.cut] at hb
    split at hb
    · exact hb
    · cases hb
  have hmu' : ∀ {o x b}, objs' o = some x → E.mu o = some b → (E.cut objs' cl').mu o = some b := by
    intro o x b h1 h2
    simp only [E3.cut, h1, Option.isSome_some, if_true]
    exact h2
  have hka' : ∀ {q c x}, cl' q = some c → E.ka q = some x → (E.cut objs' cl').ka q = some x := by
    intro q c x h1 h2
    simp only [E3.cut, h1, Option.isSome_some, if_true]
    exact h2
  have hal : ∀ {q}, isAl (cl' q) = true → ∃ c, cl' q = some c ∧ isAl (cl q) = true := by
    intro q hq
    cases hh : cl' q with
    | none => rw [hh] at hq; cases hq
    | some c =>
      obtain ⟨h1, h2, _⟩ := hc q c hh
      exact ⟨c, rfl, by rw [h1]; exact h2⟩
  refine { agree := h.agree, live := ?_, frz := ?_, claim := ?_, rows := ?_, oo := ?_, cc := ?_, oc := ?_, mdom := ?_, kdom := ?_, step := h.step, base := h.base, sdom := h.sdom, pm := ?_ }
  · intro o cs h1
    obtain ⟨b, t, vs, g1, g2, g3, g4⟩ := h.live o cs (ho _ _ h1)
    exact ⟨b, t, vs, hmu' h1 g1, g2, repL_cut g3 (hf o cs h1) (fun _ h => h), g4⟩
  · intro o cs h1
    obtain ⟨b, vs, g1, g2, g3, g4⟩ := h.frz o cs (ho _ _ h1)
    exact ⟨b, vs, hmu' h1 g1, g2, RepL.flat_mono (E := E) (F := E.cut objs' cl') (fun _ _ _ h => h) g2 g3, g4⟩
  · intro q hq
    obtain ⟨c, hq', hq⟩ := hal hq
    obtain ⟨v, sz, t, n, xs, g1, g2⟩ := h.claim q hq
    exact ⟨v, sz, t, n, xs, hka' hq' g1, g2⟩
  · intro q l hq
    obtain ⟨h1, _, h3⟩ := hc q _ hq
    obtain ⟨v, sz, t, n, xs, g1, g2, g3, g4⟩ := h.rows q l h1
    exact ⟨v, sz, t, n, xs, hka' hq g1, g2, (SrcE.mono (E := E) (E' := E.cut objs' cl') (fun _ _ _ h => h) (g3.toE (h3 l rfl))).toR, g4⟩
  · intro o o' cs cs' b h1 h2 h3 h4
    exact h.oo o o' cs cs' b (ho _ _ h1) (ho _ _ h2) (hmu h3) (hmu h4)
  · intro q q' v v' s s' g h1 h2 h3 h4
    obtain ⟨_, _, h1⟩ := hal h1
    obtain ⟨_, _, h2⟩ := hal h2
    exact h.cc q q' v v' s s' g h1 h2 (hka h3) (hka h4)
  · intro o cs b q v s h1 h2 h3 h4
    obtain ⟨_, _, h3⟩ := hal h3
    exact h.oc o cs b q v s (ho _ _ h1) (hmu h2) h3 (hka h4)
  · intro o b h1 h2
    simp only [E3.cut, h2, Option.isSome_none, Bool.false_eq_true, if_false] at h1
    cases h1
  · intro q x h1 h2
    simp only [E3.cut, h2, Option.isSome_none, Bool.false_eq_true, if_false] at h1
    cases h1
  · intro j b cs h1 h2
    exact hmu' h2 (h.pm j b cs h1 (ho _ _ h2))

theorem fitC_flat {x : AV} (h : x.flat = true) : fitC x = true := by
  unfold fitC
  split
  · rfl
  · simp [AV.flat, AV.flat1] at h
  · exact h
def fitU (v : AV) : Bool := match v with | .agg l => l.all fitC | v => fitC v
theorem exp0_mono {sh : Sh} {nm : Nm} {c : AV} {k k' : AV → Cl → Prop} (h : exp0 (PA M) sh nm c cl k) (hk : ∀ c cl, k c cl → k' c cl) : exp0 (PA M) sh nm c cl k' := by
  unfold exp0 at h ⊢
  split at h <;> try simp only [PA_lit, PA_fail, PA_asRow] at h ⊢
  · exact ⟨h.1, hk _ _ h.2⟩
  · exact ⟨h.1, hk _ _ h.2⟩
  · obtain ⟨h1, l, h2, h3, h4⟩ := h
    exact ⟨h1, l, h2, h3, hk _ _ h4⟩
  · exact ⟨h.1, hk _ _ h.2⟩
  · exact hk _ _ h
  · exact ⟨h.1, hk _ _ h.2⟩
  · exact ⟨h.1, hk _ _ h.2⟩
  · exact ⟨h.1, hk _ _ h.2⟩
theorem exp0_out {sh : Sh} {nm : Nm} {c : AV} {k : AV → Cl → Prop} (h : exp0 (PA M) sh nm c cl k) : exp0 (PA M) sh nm c cl (fun c' cl' => fitC c' = true ∧ k c' cl') := by
  unfold exp0 at h ⊢
  split at h <;> try simp only [PA_lit, PA_fail, PA_asRow] at h ⊢
  · exact ⟨h.1, rfl, h.2⟩
  · exact ⟨h.1, rfl, h.2⟩
  · obtain ⟨h1, l, h2, h3, h4⟩ := h
    exact ⟨h1, l, h2, h3, h3, h4⟩
  · exact ⟨h.1, rfl, h.2⟩
  · exact ⟨rfl, h⟩
  · exact ⟨h.1, rfl, h.2⟩
  · exact ⟨h.1, fitC_flat h.1, h.2⟩
  · exact ⟨h.1, fitC_flat h.1, h.2⟩
theorem expA_mono {nm : Nat → Nm} : ∀ {shs : List Sh} {i : Nat} {cs : List AV} {c1 : Cl} {k k' : List AV → Cl → Prop}, expA (PA M) nm shs i cs c1 k → (∀ c cl, k c cl → k' c cl) → expA (PA M) nm shs i cs c1 k'
  | [], i, cs, c1, k, k', h, hk => by simp only [expA, PA_asN] at h ⊢; exact ⟨h.1, hk _ _ h.2⟩
  | sh :: shs, i, cs, c1, k, k', h, hk => by
    simp only [expA, PA_asC, PA_lit] at h ⊢
    obtain ⟨c, cr, rfl, ho, h⟩ := h
    exact ⟨c, cr, rfl, ho, exp0_mono h fun c' cl' h2 => expA_mono h2 fun r cl2 hr => hk _ _ hr⟩
theorem expA_out {nm : Nat → Nm} : ∀ (shs : List Sh) (i : Nat) (cs : List AV) (c1 : Cl) (k : List AV → Cl → Prop), expA (PA M) nm shs i cs c1 k → expA (PA M) nm shs i cs c1 (fun cs' cl' => cs'.all fitC = true ∧ k cs' cl')
  | [], i, cs, c1, k, h => by simp only [expA, PA_asN] at h ⊢; exact ⟨h.1, rfl, h.2⟩
  | sh :: shs, i, cs, c1, k, h => by
    simp only [expA, PA_asC, PA_lit] at h ⊢
    obtain ⟨c, cr, rfl, ho, h⟩ := h
    refine ⟨c, cr, rfl, ho, exp0_mono (exp0_out h) ?_⟩
    rintro c' cl' ⟨hf, h2⟩
    refine expA_mono (expA_out _ _ _ _ _ h2) ?_
    rintro r cl2 ⟨hr, hk⟩
    exact ⟨by simp only [List.all_cons, Bool.and_eq_true]; exact ⟨hf, hr⟩, hk⟩
theorem exp1_out {sh : Sh} {nm : Nm} {c : AV} {k : AV → Cl → Prop} (h : exp1 (PA M) sh nm c cl k) : exp1 (PA M) sh nm c cl (fun c' cl' => fitU c' = true ∧ k c' cl') := by
  unfold exp1 at h ⊢
  cases hu : isUqs sh with
  | true =>
    rw [hu] at h
    simp only [cond_true, PA_asA] at h ⊢
    obtain ⟨l, rfl, h⟩ := h
    exact ⟨l, rfl, expA_mono (expA_out _ _ _ _ _ h) fun c cl h => h⟩
  | false =>
    rw [hu] at h
    simp only [cond_false] at h ⊢
    refine exp0_mono (exp0_agg (exp0_out h)) ?_
    rintro c' cl' ⟨h1, h2, h3⟩
    refine ⟨?_, h3⟩
    unfold fitU
    split
    · rename_i l
      have := h1 l rfl
      rw [List.all_eq_true]
      exact fun x hx => fitC_flat (flat_of_flat1 (List.all_eq_true.1 this x hx))
    · exact h2
theorem expC_mono {nm : Nat → Nm} : ∀ {shs : List Sh} {i : Nat} {cs : List AV} {c1 : Cl} {k k' : List AV → Cl → Prop}, expC (PA M) nm shs i cs c1 k → (∀ c cl, k c cl → k' c cl) → expC (PA M) nm shs i cs c1 k' := by
  intro shs
  induction shs with
  | nil => intro i cs c1 k k' h hk; simp only [expC, PA_asN] at h ⊢; exact ⟨h.1, hk _ _ h.2⟩
  | cons sh shs ih =>
    intro i cs c1 k k' h hk
    have step : asC (PA M) cs (fun c cs => lit (PA M) c.one (exp0 (PA M) sh (nm i) c c1 fun c cl => expC (PA M) nm shs (i + 1) cs cl fun r cl => k (c :: r) cl)) →
        asC (PA M) cs (fun c cs => lit (PA M) c.one (exp0 (PA M) sh (nm i) c c1 fun c cl => expC (PA M) nm shs (i + 1) cs cl fun r cl => k' (c :: r) cl)) := by
      intro h
      simp only [PA_asC, PA_lit] at h ⊢
      obtain ⟨c, cr, rfl, ho, h⟩ := h
      exact ⟨c, cr, rfl, ho, exp0_mono h fun c' cl' h2 => ih h2 fun r cl2 hr => hk _ _ hr⟩
    cases sh <;> cases shs <;> first
      | exact step h
      | (simp only [expC, PA_chk] at h ⊢; exact ⟨h.1, hk _ _ h.2⟩)
theorem expC_out {nm : Nat → Nm} : ∀ (shs : List Sh) (i : Nat) (cs : List AV) (c1 : Cl) (k : List AV → Cl → Prop), expC (PA M) nm shs i cs c1 k → expC (PA M) nm shs i cs c1 (fun cs' cl' => cs'.all fitC = true ∧ (isArr shs = true → cs'.all AV.flat1 = true) ∧ k cs' cl') := by
  have fl : ∀ (cs : List AV), cs.all AV.flat1 = true → cs.all fitC = true := by
    intro cs h
    rw [List.all_eq_true] at h ⊢
    exact fun x hx => fitC_flat (flat_of_flat1 (h x hx))
  intro shs
  induction shs with
  | nil => intro i cs c1 k h; simp only [expC, PA_asN] at h ⊢; exact ⟨h.1, rfl, (fun h => by cases h), h.2⟩
  | cons sh shs ih =>
    intro i cs c1 k h
    have step : (isArr (sh :: shs) = false) → asC (PA M) cs (fun c cs => lit (PA M) c.one (exp0 (PA M) sh (nm i) c c1 fun c cl => expC (PA M) nm shs (i + 1) cs cl fun r cl => k (c :: r) cl)) →
        asC (PA M) cs (fun c cs => lit (PA M) c.one (exp0 (PA M) sh (nm i) c c1 fun c cl => expC (PA M) nm shs (i + 1) cs cl fun r cl => (c :: r).all fitC = true ∧ (isArr (sh :: shs) = true → (c :: r).all AV.flat1 = true) ∧ k (c :: r) cl)) := by
      intro ha h
      simp only [PA_asC, PA_lit] at h ⊢
      obtain ⟨c, cr, rfl, ho, h⟩ := h
      refine ⟨c, cr, rfl, ho, ?_⟩
      refine exp0_mono (exp0_out h) ?_
      rintro c' cl' ⟨hf, h2⟩
      refine expC_mono (ih _ _ _ _ h2) ?_
      rintro r cl2 ⟨hr, _, hk⟩
      exact ⟨by simp only [List.all_cons, Bool.and_eq_true]; exact ⟨hf, hr⟩, (fun h => by rw [ha] at h; cases h), hk⟩
    cases sh <;> cases shs <;> first
      | exact step rfl h
      | (simp only [expC, PA_chk] at h ⊢; exact ⟨h.1, fl _ h.1, fun _ => h.1, h.2⟩)

/-! Names, and what leans on them. -/
theorem ok0_of_fit {nm : Nm} {c : AV} (h : fitC c = true) : OkF0 (fun q => ∃ x, (q, x) ∈ nm0 nm c) (fr0 nm c) := by
  unfold fitC at h
  split at h
  · exact ⟨_, List.mem_singleton.2 rfl⟩
  · exact ⟨_, List.mem_singleton.2 rfl⟩
  · rw [fr0_flat h]; exact okF0_flat h
theorem okC_of_fit {nm : Nat → Nm} : ∀ {cs : List AV} {i : Nat}, cs.all fitC = true → ∀ c, c ∈ frC nm i cs → OkF0 (fun q => ∃ x, (q, x) ∈ nmC nm i cs) c
  | [], i, _, c, hc => by simp [frC] at hc
  | x :: cs, i, h, c, hc => by
    simp only [List.all_cons, Bool.and_eq_true] at h
    simp only [frC, List.mem_cons] at hc
    rcases hc with rfl | hc
    · exact (ok0_of_fit h.1).mono fun q ⟨y, hy⟩ => ⟨y, by simp [nmC, hy]⟩
    · exact (okC_of_fit h.2 c hc).mono fun q ⟨y, hy⟩ => ⟨y, by simp [nmC, hy]⟩
theorem nm1_not {nm : Nm} {c : AV} (h : ∀ l, c ≠ .agg l) : nm1 nm c = nm0 nm c := by
  unfold nm1
  split
  · exact absurd rfl (h _)
  · rfl
theorem ok1_of_fit {nm : Nm} {c : AV} (h : fitU c = true) : OkF (fun q => ∃ x, (q, x) ∈ nm1 nm c) (fr1 nm c) := by
  by_cases ha : ∃ l, c = .agg l
  · obtain ⟨l, rfl⟩ := ha
    exact okC_of_fit h
  · have hna : ∀ l, c ≠ .agg l := fun l e => ha ⟨l, e⟩
    rw [fr1_not hna]
    have h0 : fitC c = true := by
      unfold fitU at h
      split at h
      · exact absurd rfl (hna _)
      · exact h
    have h1 := ok0_of_fit (nm := nm) h0
    unfold OkF
    split
    · rename_i cs e
      exfalso
      unfold fr0 at e
      split at e
      · cases e
      · exact hna _ e
    · exact h1.mono fun q ⟨x, hx⟩ => ⟨x, by rw [nm1_not hna]; exact hx⟩
theorem good0 {nm : Nm} {c : AV} (h : Named0 cl nm c) {q : Nm} {x : Cs} (hq : (q, x) ∈ nm0 nm c) : GoodN cl q x := by
  unfold nm0 at hq
  split at hq
  · rename_i q' wd l
    simp only [Named0] at h
    simp only [List.mem_singleton, Prod.mk.injEq] at hq
    obtain ⟨rfl, rfl⟩ := hq
    exact ⟨h.2, rfl, fun l e => by cases e⟩
  · rename_i wd l
    simp only [Named0] at h
    simp only [List.mem_singleton, Prod.mk.injEq] at hq
    obtain ⟨rfl, rfl⟩ := hq
    exact ⟨h.1, rfl, fun l e => by cases e; exact h.2⟩
  · cases hq
theorem goodC {nm : Nat → Nm} : ∀ {cs : List AV} {i : Nat}, (∀ (p : Nat) c, cs[p]? = some c → Named0 cl (nm (i + p)) c) → ∀ {q : Nm} {x : Cs}, (q, x) ∈ nmC nm i cs → GoodN cl q x
  | [], i, _, q, x, hq => by simp [nmC] at hq
  | c :: cs, i, h, q, x, hq => by
    simp only [nmC, List.mem_append] at hq
    rcases hq with hq | hq
    · exact good0 (h 0 c rfl) hq
    · exact goodC (fun p y hy => by have := h (p + 1) y (by simpa using hy); rwa [show i + (p + 1) = i + 1 + p from by omega] at this) hq
theorem good1 {nm : Nm} {c : AV} (h : Named1 cl nm c) {q : Nm} {x : Cs} (hq : (q, x) ∈ nm1 nm c) : GoodN cl q x := by
  by_cases ha : ∃ l, c = .agg l
  · obtain ⟨l, rfl⟩ := ha
    exact goodC (nm := subN nm) (fun p y hy => by rw [Nat.zero_add]; exact h p y hy) hq
  · have hna : ∀ l, c ≠ .agg l := fun l e => ha ⟨l, e⟩
    rw [nm1_not hna] at hq
    exact good0 ((named1_not hna).1 h) hq
theorem goodN_congr {c c' : Cl} {q : Nm} {x : Cs} (h : c' q = c q) (k : GoodN c q x) : GoodN c' q x := ⟨by rw [h]; exact k.1, k.2⟩
theorem ofN_some : ∀ {l : List (Nm × Cs)} {q : Nm} {x : Cs}, ofN l q = some x → (q, x) ∈ l
  | [], q, x, h => by cases h
  | (p, c) :: l, q, x, h => by
    simp only [ofN] at h
    cases hb : Nm.beq p q with
    | true =>
      rw [hb] at h
      simp only [cond_true, Option.some.injEq] at h
      rw [Nm.beq_iff.1 hb, h]
      exact List.mem_cons_self ..
    | false =>
      rw [hb] at h
      exact List.mem_cons_of_mem _ (ofN_some h)
theorem ofN_isSome : ∀ {l : List (Nm × Cs)} {q : Nm} {x : Cs}, (q, x) ∈ l → (ofN l q).isSome = true
  | [], q, x, h => by cases h
  | (p, c) :: l, q, x, h => by
    simp only [ofN]
    cases hb : Nm.beq p q with
    | true => rfl
    | false =>
      rcases List.mem_cons.1 h with h | h
      · cases h; rw [Nm.beq_iff.2 rfl] at hb; cases hb
      · exact ofN_isSome h
end Go.Proofs.Ythmocicjocjdoaa.V
