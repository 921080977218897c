/- The meaning of a call, and that calls are sound. -/
import Derived.Test.YthmocicjocjdoaaAi
set_option linter.unusedVariables false
set_option linter.unusedSimpArgs false
namespace Go.Proofs.Ythmocicjocjdoaa.V
open Go

/-- Claims that stand at a place, in what goes over, bear its name. -/
def Named0 (cl : Cl) (nm : Nm) (v : AV) : Prop :=
  match v with
  | .lst (.own q) _ _ => q = nm ∧ cl q = some .own
  | .lst .uq _ l => cl nm = some (.row l) ∧ l.all AV.flat = true
  | _ => True
def NamedC (cl : Cl) (nm : Nat → Nm) (cs : List AV) : Prop := ∀ i v, cs[i]? = some v → Named0 cl (nm i) v
def Named1 (cl : Cl) (nm : Nm) (v : AV) : Prop :=
  match v with
  | .agg cs => NamedC cl (subN nm) cs
  | v => Named0 cl nm v
def objsOf (ins : List (Nat × List AV)) : Os := ofL (ins.map fun p => (p.1, Ob.live (frC (Nm.E p.1) 0 p.2)))
def NamedO (outs : List (Nat × List AV)) (cl : Cl) : Prop := ∀ j cs, (j, cs) ∈ outs → NamedC cl (Nm.E j) cs
def frR : Nat → List AV → List AV
  | _, [] => []
  | r, v :: l => fr1 (.R r) v :: frR (r + 1) l
def NamedR (res : List AV) (cl : Cl) : Prop := ∀ (r : Nat) v, res[r]? = some v → Named1 cl (.R r) v
def NamedA (args : List AV) (cl : Cl) : Prop := ∀ (j : Nat) v, args[j]? = some v → Named1 cl (.Y 3 j 0 0) v

/-- A call of function f: with these arguments, and these objects behind its pointers, it returns, and what it returns and leaves is one of Q. -/
def Sem (P : Program) (f : Nat) (args : List AV) (ins : List (Nat × List AV)) (Q : List AV → List (Nat × List AV) → Prop) : Prop :=
  ∀ (F : Fr) (E : E3) (cl : Cl) (w : World) (vals : Array Value), F.w0 = w → F.S0 = E.S → F.mu0 = E.mu → RepT E (frA 0 args) vals.toList → WI F E (objsOf ins) cl w → NamedO ins cl → NamedA args cl →
    Calls P f vals w fun e w' => ∃ v res outs E' cl', e = .returned v ∧ Q res outs ∧ Rep E' (one1 (frR 0 res)) v ∧ WI F E' (objsOf outs) cl' w' ∧ NamedO outs cl' ∧ NamedR res cl' ∧ (outs.map (·.1)).Nodup
theorem Sem.mono {P : Program} {f : Nat} {args : List AV} {ins : List (Nat × List AV)} {Q Q' : List AV → List (Nat × List AV) → Prop} (h : Sem P f args ins Q) (hq : ∀ r o, Q r o → Q' r o) : Sem P f args ins Q' :=
  fun F E cl w vals h1 h2 h3 h4 h5 h6 h7 => (h F E cl w vals h1 h2 h3 h4 h5 h6 h7).mono fun e w' ⟨v, res, outs, E', cl', g1, g2, g3⟩ => ⟨v, res, outs, E', cl', g1, hq _ _ g2, g3⟩
def SM (P : Program) (L : LoopM) : Meaning := ⟨Sem P, L⟩

variable {P : Program} {T : Tab} {F : Fr} {E : E3} {objs : Os} {cl : Cl} {w : World}

/-- An object that stands in memory is taken in. -/
theorem WI.add_obj (h : WI F E objs cl w) {o b : Nat} {t : TypeId} {cs : List AV} {vs : List Value} (hm : E.mu o = some b) (hb : w.heap[b]? = some (.cells vs.toArray t (0, 0))) (hr : RepL E cs vs) (hS : ∀ i, E.S b i = none) (hown : F.own b)
    (h1 : ∀ o' cs', o' ≠ o → objs o' = some (.live cs') → E.mu o' ≠ some b) (h2 : ∀ q v s, isAl (cl q) = true → E.ka q = some (v, s) → v.ownBlock ≠ some b) (hpm : ∀ b', F.mu0 o = some b' → b' = b) : WI F E (upd objs o (.live cs)) cl w := by
  have oldo : ∀ {p : Nat} {x : Ob}, (upd objs o (.live cs)) p = some x → (p = o ∧ x = .live cs) ∨ (p ≠ o ∧ objs p = some x) := by
    intro p x hp
    by_cases hod : o = p
    · subst hod; rw [upd_same] at hp; cases hp; exact .inl ⟨rfl, rfl⟩
    · rw [upd_ne _ _ hod] at hp; exact .inr ⟨fun e => hod e.symm, hp⟩
  refine { h with live := ?_, frz := ?_, oo := ?_, oc := ?_, mdom := ?_, pm := ?_ }
  · intro p c hp
    rcases oldo hp with ⟨e1, e2⟩ | ⟨_, hp⟩
    · cases e2; subst e1; exact ⟨b, t, vs, hm, hb, hr, hS, hown⟩
    · exact h.live p c hp
  · intro p c hp
    rcases oldo hp with ⟨_, e2⟩ | ⟨_, hp⟩
    · cases e2
    · exact h.frz p c hp
  · intro p p' c c' b' hp hp' hm1 hm2
    rcases oldo hp with ⟨e1, _⟩ | ⟨n1, hp1⟩ <;> rcases oldo hp' with ⟨e2, _⟩ | ⟨n2, hp2⟩
    · rw [e1, e2]
    · subst e1; rw [hm] at hm1; cases hm1; exact absurd hm2 (h1 p' c' n2 hp2)
    · subst e2; rw [hm] at hm2; cases hm2; exact absurd hm1 (h1 p c n1 hp1)
    · exact h.oo p p' c c' b' hp1 hp2 hm1 hm2
  · intro p c b' q v s hp hm1 hq hk
    rcases oldo hp with ⟨e1, _⟩ | ⟨_, hp⟩
    · subst e1; rw [hm] at hm1; cases hm1; exact h2 q v s hq hk
    · exact h.oc p c b' q v s hp hm1 hq hk
  · intro p b' hp
    by_cases hop : o = p
    · subst hop; rw [upd_same]; simp
    · rw [upd_ne _ _ hop]; exact h.mdom p b' hp
  · intro j b' c hj hp
    rcases oldo hp with ⟨e1, _⟩ | ⟨_, hp⟩
    · subst e1
      rw [hpm b' hj]
      exact hm
    · exact h.pm j b' c hj hp

/-- Two frames' worth of objects and claims in one memory, none of them in both. -/
structure Two (F1 : Fr) (E1 : E3) (o1 : Os) (c1 : Cl) (F2 : Fr) (E2 : E3) (o2 : Os) (c2 : Cl) (w : World) : Prop where
  a : WI F1 E1 o1 c1 w
  b : WI F2 E2 o2 c2 w
  S : E2.S = E1.S
  own : ∀ g, F1.own g → F2.own g
  oo : ∀ o o' cs cs' g, o1 o = some (.live cs) → o2 o' = some (.live cs') → E1.mu o = some g → E2.mu o' = some g → False
  oc : ∀ o cs g q v s, o1 o = some (.live cs) → E1.mu o = some g → isAl (c2 q) = true → E2.ka q = some (v, s) → v.ownBlock ≠ some g
  co : ∀ o cs g q v s, o2 o = some (.live cs) → E2.mu o = some g → isAl (c1 q) = true → E1.ka q = some (v, s) → v.ownBlock ≠ some g
  cc : ∀ q q' v v' s s' g, isAl (c1 q) = true → isAl (c2 q') = true → E1.ka q = some (v, s) → E2.ka q' = some (v', s') → v.ownBlock = some g → v'.ownBlock ≠ some g

variable {F1 F2 : Fr} {E1 E2 : E3} {o1 o2 : Os} {c1 c2 : Cl}
theorem updN_true {c : Cl} {q p : Nm} {x : Cs} (h : isAl (updN c q x p) = true) : p = q ∨ (p ≠ q ∧ isAl (c p) = true) := by
  by_cases hqp : q = p
  · exact .inl hqp.symm
  · rw [updN_ne _ _ hqp] at h; exact .inr ⟨fun e => hqp e.symm, h⟩
theorem updN_false {c : Cl} {q p : Nm} (h : isAl (updN c q .dead p) = true) : p ≠ q ∧ isAl (c p) = true := by
  by_cases hqp : q = p
  · subst hqp; rw [updN_same] at h; cases h
  · rw [updN_ne _ _ hqp] at h; exact ⟨fun e => hqp e.symm, h⟩
theorem updK_some {f : Nm → Option (Value × Nat)} {q p : Nm} {x y : Value × Nat} (h : updK f q x p = some y) : (p = q ∧ y = x) ∨ (p ≠ q ∧ f p = some y) := by
  simp only [updK] at h
  split at h
  · rename_i e; injection h with h; exact .inl ⟨e.symm, h.symm⟩
  · rename_i e; exact .inr ⟨fun e' => e e'.symm, h⟩
theorem updK_same {f : Nm → Option (Value × Nat)} {q : Nm} {x : Value × Nat} : updK f q x q = some x := by simp [updK]

/-- A claim goes over. -/
theorem Two.move_claim (h : Two F1 E1 o1 c1 F2 E2 o2 c2 w) {q nm : Nm} {x : Cs} (hq0 : c1 q = some x) (hal : isAl (some x) = true) (hfl : ∀ l, x = .row l → l.all AV.flat = true) (hnm : c2 nm = none) {v : Value} {s : Nat} (hk : E1.ka q = some (v, s)) :
    E2.le { E2 with ka := updK E2.ka nm (v, s) } ∧ Two F1 E1 o1 (updN c1 q .dead) F2 { E2 with ka := updK E2.ka nm (v, s) } o2 (updN c2 nm x) w := by
  have hq : isAl (c1 q) = true := by rw [hq0]; exact hal
  obtain ⟨v', s', t, n, xs, k1, k2, k3, k4⟩ := h.a.claim q hq
  rw [hk] at k1; cases k1
  obtain ⟨t, n, xs, k3, k4, k5⟩ : ∃ t n xs, w.ownsRow 0 t s v n xs ∧ (∀ g, v.ownBlock = some g → F1.own g ∧ ∀ i, n * s ≤ i → E1.S g i = none) ∧ (∀ l, x = .row l → SrcR E2 s l xs ∧ l.length = n ∧ ∀ g, v.ownBlock = some g → ∀ i, E2.S g i = none) := by
    cases x with
    | row l =>
      obtain ⟨v', s', t', n', xs', m1, m2, m3, m4, m5⟩ := h.a.rows q l hq0
      rw [hk] at m1; cases m1
      refine ⟨t', n', xs', m2, fun g hg => ⟨(k4 g hg).1, fun i _ => m5 g hg i⟩, fun l' e => ?_⟩
      cases e
      refine ⟨(SrcE.mono (E' := E2) (fun b i v hv => by rw [h.S]; exact hv) (m3.toE (hfl l rfl))).toR, m4, fun g hg i => by rw [h.S]; exact m5 g hg i⟩
    | _ => exact ⟨t, n, xs, k3, k4, fun l e => by cases e⟩
  obtain ⟨g1, g2⟩ := h.b.new_claimC (c := x) hnm hal k2 k3 (fun g hg => ⟨h.own g (k4 g hg).1, fun i hi => by rw [h.S]; exact (k4 g hg).2 i hi, fun o cs ho hm => h.co o cs g q v s ho hm hq hk hg, fun q' v' s' hq' hk' hg' => h.cc q q' v v' s s' g hq hq' hk hk' hg hg'⟩) k5
  refine ⟨g1, h.a.kill_claim q, g2, h.S, h.own, h.oo, ?_, ?_, ?_⟩
  · intro o cs g p v1 s1 ho hm hp hk1 hg
    rcases updN_true hp with rfl | ⟨hne, hp⟩
    · rcases updK_some hk1 with ⟨_, e⟩ | ⟨hne, _⟩
      · cases e; exact h.a.oc o cs g q v s ho hm hq hk hg
      · exact hne rfl
    · rcases updK_some hk1 with ⟨e, _⟩ | ⟨_, hk1⟩
      · exact hne e
      · exact h.oc o cs g p v1 s1 ho hm hp hk1 hg
  · intro o cs g p v1 s1 ho hm hp hk1
    exact h.co o cs g p v1 s1 ho hm (updN_false hp).2 hk1
  · intro p p' v1 v2 s1 s2 g hp hp' hk1 hk2 hg1 hg2
    obtain ⟨hne, hp⟩ := updN_false hp
    rcases updN_true hp' with rfl | ⟨hne', hp'⟩
    · rcases updK_some hk2 with ⟨_, e⟩ | ⟨hne2, _⟩
      · cases e; exact hne (h.a.cc p q v1 v s1 s g hp hq hk1 hk hg1 hg2)
      · exact hne2 rfl
    · rcases updK_some hk2 with ⟨e, _⟩ | ⟨_, hk2⟩
      · exact hne' e
      · exact h.cc p p' v1 v2 s1 s2 g hp hp' hk1 hk2 hg1 hg2
/-- A claim on nothing. -/
theorem Two.nil_claim (h : Two F1 E1 o1 c1 F2 E2 o2 c2 w) {nm : Nm} {x : Cs} (hal : isAl (some x) = true) (hx : ∀ l, x = .row l → l = []) (hnm : c2 nm = none) {s : Nat} (hs : 0 < s) :
    E2.le { E2 with ka := updK E2.ka nm (.slice none 0 0, s) } ∧ Two F1 E1 o1 c1 F2 { E2 with ka := updK E2.ka nm (.slice none 0 0, s) } o2 (updN c2 nm x) w := by
  obtain ⟨g1, g2⟩ := h.b.new_claimC (q := nm) (c := x) hnm hal (v := .slice none 0 0) (t := 0) (n := 0) (xs := []) hs (World.ownsRow_nil w 0 0 s) (fun g hg => by simp [Value.ownBlock] at hg) (fun l e => by
    have := hx l e
    subst this
    exact ⟨SrcR.nil E2 s, rfl, fun g hg => by simp [Value.ownBlock] at hg⟩)
  refine ⟨g1, h.a, g2, h.S, h.own, h.oo, ?_, h.co, ?_⟩
  · intro o cs g p v1 s1 ho hm hp hk1 hg
    rcases updN_true hp with rfl | ⟨hne, hp⟩
    · rcases updK_some hk1 with ⟨_, e⟩ | ⟨hne, _⟩
      · cases e; simp [Value.ownBlock] at hg
      · exact hne rfl
    · rcases updK_some hk1 with ⟨e, _⟩ | ⟨_, hk1⟩
      · exact hne e
      · exact h.oc o cs g p v1 s1 ho hm hp hk1 hg
  · intro p p' v1 v2 s1 s2 g hp hp' hk1 hk2 hg1 hg2
    rcases updN_true hp' with rfl | ⟨hne', hp'⟩
    · rcases updK_some hk2 with ⟨_, e⟩ | ⟨hne2, _⟩
      · cases e; simp [Value.ownBlock] at hg2
      · exact hne2 rfl
    · rcases updK_some hk2 with ⟨e, _⟩ | ⟨_, hk2⟩
      · exact hne' e
      · exact h.cc p p' v1 v2 s1 s2 g hp hp' hk1 hk2 hg1 hg2
theorem upd_live {f : Os} {o p : Nat} {x : Ob} {cs : List AV} (h : upd f o x p = some (.live cs)) : (p = o ∧ x = .live cs) ∨ (p ≠ o ∧ f p = some (.live cs)) := by
  by_cases hod : o = p
  · subst hod; rw [upd_same] at h; cases h; exact .inl ⟨rfl, rfl⟩
  · rw [upd_ne _ _ hod] at h; exact .inr ⟨fun e => hod e.symm, h⟩
/-- An object goes over. -/
theorem Two.move_obj (h : Two F1 E1 o1 c1 F2 E2 o2 c2 w) {o j b : Nat} {cs cs' : List AV} (ho : o1 o = some (.live cs)) (hm : E1.mu o = some b) (hj : E2.mu j = some b) {t : TypeId} {vs : List Value} (k2 : w.heap[b]? = some (.cells vs.toArray t (0, 0)))
    (hr : RepL E2 cs' vs) (hpm : ∀ b', F2.mu0 j = some b' → b' = b) : Two F1 E1 (upd o1 o .dead) c1 F2 E2 (upd o2 j (.live cs')) c2 w := by
  obtain ⟨b', t', vs', k1, _, _, k4, k5⟩ := h.a.live o cs ho
  rw [hm] at k1; cases k1
  have hB := h.b.add_obj (o := j) (b := b) (t := t) (cs := cs') (vs := vs) hj k2 hr (by rw [h.S]; exact k4) (h.own b k5)
    (fun o' c' _ ho' hm' => h.oo o o' cs c' b ho ho' hm hm') (fun q v s hq hk hg => h.oc o cs b q v s ho hm hq hk hg) hpm
  refine ⟨h.a.kill_obj o, hB, h.S, h.own, ?_, ?_, ?_, h.cc⟩
  · intro p p' c c' g hp hp' hm1 hm2
    rcases upd_live hp with ⟨_, e⟩ | ⟨hne, hp⟩
    · cases e
    · rcases upd_live hp' with ⟨rfl, _⟩ | ⟨_, hp'⟩
      · rw [hj] at hm2; cases hm2; exact hne (h.a.oo p o c cs b hp ho hm1 hm)
      · exact h.oo p p' c c' g hp hp' hm1 hm2
  · intro p c g q v s hp hm1 hq hk
    rcases upd_live hp with ⟨_, e⟩ | ⟨_, hp⟩
    · cases e
    · exact h.oc p c g q v s hp hm1 hq hk
  · intro p c g q v s hp hm1 hq hk
    rcases upd_live hp with ⟨rfl, _⟩ | ⟨_, hp⟩
    · rw [hj] at hm1; cases hm1; exact h.a.oc o cs b q v s ho hm hq hk
    · exact h.co p c g q v s hp hm1 hq hk
/-- A name for a block that goes over. -/
theorem Two.name (h : Two F1 E1 o1 c1 F2 E2 o2 c2 w) {j b : Nat} (hj : o2 j = none) : E2.le { E2 with mu := upd E2.mu j b } ∧ Two F1 E1 o1 c1 F2 { E2 with mu := upd E2.mu j b } (upd o2 j .dead) c2 w := by
  have hmd : E2.mu j = none := by
    cases hm : E2.mu j with
    | none => rfl
    | some b => exact absurd hj (h.b.mdom j b hm)
  have hle := le_mu (b := b) hmd
  have hold : ∀ {p : Nat} {c : List AV}, upd o2 j .dead p = some (.live c) → p ≠ j ∧ o2 p = some (.live c) := by
    intro p c hp
    rcases upd_live hp with ⟨_, e⟩ | h
    · cases e
    · exact h
  have hmu : ∀ {p : Nat}, p ≠ j → upd E2.mu j b p = E2.mu p := fun hp => upd_ne _ _ (Ne.symm hp)
  refine ⟨hle, h.a, ?_, h.S, h.own, ?_, h.oc, ?_, h.cc⟩
  · refine { h.b with live := ?_, frz := ?_, oo := ?_, oc := ?_, mdom := ?_, pm := ?_, claim := h.b.claim, rows := fun q l hq => (by
      obtain ⟨v, sz, t, n, xs, g1, g2, g3, g4⟩ := h.b.rows q l hq
      exact ⟨v, sz, t, n, xs, g1, g2, g3.mono hle, g4⟩) }
    · intro p c hp
      obtain ⟨hne, hp⟩ := hold hp
      obtain ⟨b', t, vs, g1, g2, g3, g4⟩ := h.b.live p c hp
      exact ⟨b', t, vs, (hmu hne).trans g1, g2, g3.mono hle, g4⟩
    · intro p c hp
      have hne : p ≠ j := by rintro rfl; rw [upd_same] at hp; cases hp
      rw [upd_ne _ _ (Ne.symm hne)] at hp
      obtain ⟨b', vs, g1, g2, g3, g4⟩ := h.b.frz p c hp
      exact ⟨b', vs, (hmu hne).trans g1, g2, g3.mono hle, g4⟩
    · intro p p' c c' g hp hp' hm1 hm2
      obtain ⟨n1, hp⟩ := hold hp
      obtain ⟨n2, hp'⟩ := hold hp'
      exact h.b.oo p p' c c' g hp hp' ((hmu n1).symm.trans hm1) ((hmu n2).symm.trans hm2)
    · intro p c g q v s hp hm1 hq hk
      obtain ⟨n1, hp⟩ := hold hp
      exact h.b.oc p c g q v s hp ((hmu n1).symm.trans hm1) hq hk
    · intro p b' hp
      by_cases hne : p = j
      · subst hne; rw [upd_same]; simp
      · rw [upd_ne _ _ (Ne.symm hne)]; exact h.b.mdom p b' ((hmu hne).symm.trans hp)
    · intro p b' c hj' hp
      obtain ⟨n1, hp⟩ := hold hp
      exact (hmu n1).trans (h.b.pm p b' c hj' hp)
  · intro p p' c c' g hp hp' hm1 hm2
    obtain ⟨n2, hp'⟩ := hold hp'
    exact h.oo p p' c c' g hp hp' hm1 ((hmu n2).symm.trans hm2)
  · intro p c g q v s hp hm1 hq hk
    obtain ⟨n1, hp⟩ := hold hp
    exact h.co p c g q v s hp ((hmu n1).symm.trans hm1) hq hk

theorem eS {E1 E2 : E3} (h : E2.S = E1.S) : ∀ b i v, E1.S b i = some v → E2.S b i = some v := fun b i v hv => by rw [h]; exact hv
variable {M : Meaning}
theorem fr0_flat {nm : Nm} {c : AV} (h : c.flat = true) : fr0 nm c = c := by
  unfold fr0
  split
  · simp [AV.flat, AV.flat1] at h
  · rfl
theorem fr0_flat1 {nm : Nm} {c : AV} (h : c.flat1 = true) : fr0 nm c = c := by
  unfold fr0
  split
  · simp [AV.flat1] at h
  · rfl
theorem named0_flat {cl : Cl} {nm : Nm} {c : AV} (h : c.flat = true) : Named0 cl nm c := by
  unfold Named0
  split
  · simp [AV.flat, AV.flat1] at h
  · simp [AV.flat, AV.flat1] at h
  · trivial
theorem flat_of_flat1 {c : AV} (h : c.flat1 = true) : c.flat = true := by
  cases c <;> first | exact h | (simp [AV.flat1] at h; done)
theorem frC_flat {nm : Nat → Nm} : ∀ {cs : List AV} {i : Nat}, cs.all AV.flat1 = true → frC nm i cs = cs
  | [], i, _ => rfl
  | c :: cs, i, h => by
    simp only [List.all_cons, Bool.and_eq_true] at h
    simp only [frC, fr0_flat1 h.1, frC_flat h.2]
theorem named0_congr {c c' : Cl} {nm : Nm} {v : AV} (h : c' nm = c nm) (k : Named0 c nm v) : Named0 c' nm v := by
  unfold Named0 at k ⊢
  split at k
  · obtain ⟨rfl, k⟩ := k; exact ⟨rfl, by rw [h]; exact k⟩
  · rw [h]; exact k
  · trivial
theorem frC_get {nm : Nat → Nm} : ∀ {cs : List AV} {i p : Nat}, (frC nm i cs)[p]? = (cs[p]?).map (fr0 (nm (i + p)))
  | [], i, p => by simp [frC]
  | c :: cs, i, 0 => by simp [frC]
  | c :: cs, i, p + 1 => by
    simp only [frC, List.getElem?_cons_succ]
    rw [frC_get, show i + 1 + p = i + (p + 1) from by omega]
theorem frC_length {nm : Nat → Nm} : ∀ {cs : List AV} {i : Nat}, (frC nm i cs).length = cs.length
  | [], i => rfl
  | c :: cs, i => by simp [frC, frC_length]
theorem subN_inj (nm : Nm) : ∀ i j, subN nm i = subN nm j → i = j := by
  intro i j h
  cases nm with
  | Y k a b c =>
    unfold subN at h
    split at h <;> simp_all
  | _ => simp_all [subN]

theorem exp0_two {sh : Sh} {nm : Nm} {c : AV} {k : AV → Cl → Prop} (h : Two F1 E1 o1 c1 F2 E2 o2 c2 w) (hnm : c2 nm = none) {v : Value} (hc : Rep E1 c v) (hx : exp0 (PA M) sh nm c c1 k) :
    ∃ c' c1' E2' c2', k c' c1' ∧ Two F1 E1 o1 c1' F2 E2' o2 c2' w ∧ E2.le E2' ∧ E2'.mu = E2.mu ∧ Rep E2' (fr0 nm c') v ∧ Named0 c2' nm c' ∧ (∀ q, q ≠ nm → c2' q = c2 q) ∧ (c.one = true → (fr0 nm c').one = true) ∧ (∀ q, c1 q = none → c1' q = none) := by
  have flat : ∀ {c : AV}, Rep E1 c v → c.flat = true → k c c1 → ∃ c' c1' E2' c2', k c' c1' ∧ Two F1 E1 o1 c1' F2 E2' o2 c2' w ∧ E2.le E2' ∧ E2'.mu = E2.mu ∧ Rep E2' (fr0 nm c') v ∧ Named0 c2' nm c' ∧ (∀ q, q ≠ nm → c2' q = c2 q) ∧ (c.one = true → (fr0 nm c').one = true) ∧ (∀ q, c1 q = none → c1' q = none) := by
    intro c hc hf hk
    exact ⟨c, c1, E2, c2, hk, h, E3.le.refl E2, rfl, by rw [fr0_flat hf]; exact hc.flat_mono (eS h.S) hf, named0_flat hf, fun _ _ => rfl, fun ho => by rw [fr0_flat hf]; exact ho, fun _ h => h⟩
  unfold exp0 at hx
  split at hx
  · rename_i wd q wd' l
    simp only [PA_lit, Bool.and_eq_true, Nat.beq_eq] at hx
    obtain ⟨⟨rfl, hq⟩, hk⟩ := hx
    have hq : c1 q = some .own := by unfold isOwn at hq; split at hq <;> simp_all
    have hc' := hc
    simp only [Rep] at hc
    obtain ⟨a, len, cap, rfl, hl, hlc, hcm, he1, _, hka⟩ := hc
    have hkq := hka q rfl
    obtain ⟨g1, g2⟩ := h.move_claim hq rfl (fun l e => by cases e) hnm hkq
    have hne : ∀ p, c1 p = none → updN c1 q .dead p = none := fun p hp => by
      rw [updN_ne _ _ (by rintro rfl; rw [hq] at hp; cases hp)]; exact hp
    refine ⟨_, _, _, _, hk, g2, g1, rfl, ?_, ⟨rfl, updN_same _ _ _⟩, fun p hp => updN_ne _ _ (Ne.symm hp), fun _ => rfl, hne⟩
    have hro : Rep E2 (.lst .ro wd' l) (.slice a len cap) := (rep_ro hc').flat_mono (eS h.S) rfl
    simp only [fr0, Rep] at hro ⊢
    obtain ⟨a', len', cap', e, r1, r2, r3, r4, _, _⟩ := hro
    refine ⟨a', len', cap', e, r1, r2, r3, ?_, by simp, fun p hp => by injection hp with hp; subst hp; rw [updK_same]⟩
    intro hne
    obtain ⟨b, off, e2, r5⟩ := r4 hne
    refine ⟨b, off, e2, RepE.of_get fun i x hx => ?_⟩
    obtain ⟨s1, u, s2, s3⟩ := r5.get i x hx
    exact ⟨s1, u, s2.mono g1, s3⟩
  · rename_i wd wd' l
    simp only [PA_lit, Nat.blt_eq] at hx
    obtain ⟨hw, hk⟩ := hx
    obtain ⟨rfl, rfl⟩ := rep_nil hc
    obtain ⟨g1, g2⟩ := h.nil_claim (x := .own) rfl (fun l e => by cases e) hnm hw
    refine ⟨_, _, _, _, hk, g2, g1, rfl, ?_, ⟨rfl, updN_same _ _ _⟩, fun p hp => updN_ne _ _ (Ne.symm hp), fun _ => rfl, fun _ h => h⟩
    simp only [fr0, Rep]
    exact ⟨none, 0, 0, rfl, rfl, Nat.le_refl _, Nat.zero_le _, fun h => absurd rfl h, by simp, fun p hp => by injection hp with hp; subst hp; rw [updK_same]⟩
  · cases hx
  · rename_i wd q wd'
    simp only [PA_lit, PA_asRow, Nat.beq_eq] at hx
    obtain ⟨rfl, l, hq, hf, hk⟩ := hx
    simp only [Rep] at hc
    obtain ⟨hkq, hsl⟩ := hc
    obtain ⟨g1, g2⟩ := h.move_claim hq rfl (fun l e => by cases e; exact hf) hnm hkq
    have hne : ∀ p, c1 p = none → updN c1 q .dead p = none := fun p hp => by
      rw [updN_ne _ _ (by rintro rfl; rw [hq] at hp; cases hp)]; exact hp
    refine ⟨_, _, _, _, hk, g2, g1, rfl, ?_, ⟨updN_same _ _ _, hf⟩, fun p hp => updN_ne _ _ (Ne.symm hp), fun _ => rfl, hne⟩
    simp only [fr0, Rep]
    exact ⟨by rw [updK_same], hsl⟩
  · rename_i wd wd' l
    simp only [PA_lit, Nat.blt_eq] at hx
    obtain ⟨hw, hk⟩ := hx
    obtain ⟨rfl, rfl⟩ := rep_nil hc
    obtain ⟨g1, g2⟩ := h.nil_claim (x := .row []) rfl (fun l e => by cases e; rfl) hnm hw
    refine ⟨_, _, _, _, hk, g2, g1, rfl, ?_, ⟨updN_same _ _ _, rfl⟩, fun p hp => updN_ne _ _ (Ne.symm hp), fun _ => rfl, fun _ h => h⟩
    simp only [fr0, Rep]
    exact ⟨by rw [updK_same], _, _, _, rfl⟩
  · cases hx
  · rename_i wd wd' l
    obtain ⟨rfl, rfl⟩ := rep_nil hc
    refine ⟨_, _, E2, c2, hx, h, E3.le.refl E2, rfl, ?_, trivial, fun _ _ => rfl, fun _ => rfl, fun _ h => h⟩
    exact (rep_nilw hc).flat_mono (eS h.S) rfl
  · rename_i wd m wd' l hnn
    simp only [PA_lit, Nat.beq_eq] at hx
    obtain ⟨rfl, hk⟩ := hx
    exact ⟨_, _, E2, c2, hk, h, E3.le.refl E2, rfl, (rep_ro hc).flat_mono (eS h.S) rfl, trivial, fun _ _ => rfl, fun _ => rfl, fun _ h => h⟩
  · cases hx
  · rename_i shs l
    simp only [PA_lit] at hx
    have hr : Rep E1 (.agg (demSL shs l)) v := rep_demS (sh := .agg shs) hc
    obtain ⟨c', c1', E2', c2', q1, q2, q3, q4, q5, q6, q7, q8, q9⟩ := flat hr hx.1 hx.2
    exact ⟨c', c1', E2', c2', q1, q2, q3, q4, q5, q6, q7, (fun h => by cases h), q9⟩
  · simp only [PA_lit] at hx
    exact flat hc hx.1 hx.2

/-- What cells come to, in the other frame. -/
def CellsTo (F1 : Fr) (E1 : E3) (o1 : Os) (F2 : Fr) (E2 : E3) (o2 : Os) (c1 c2 : Cl) (w : World) (nm : Nat → Nm) (i : Nat) (vs : List Value) (k : List AV → Cl → Prop) : Prop :=
  ∃ cs' c1' E2' c2', k cs' c1' ∧ Two F1 E1 o1 c1' F2 E2' o2 c2' w ∧ E2.le E2' ∧ E2'.mu = E2.mu ∧ RepL E2' (frC nm i cs') vs ∧
      (∀ (p : Nat) c, cs'[p]? = some c → Named0 c2' (nm (i + p)) c) ∧ (∀ q, (∀ j, i ≤ j → q ≠ nm j) → c2' q = c2 q) ∧ (∀ q, c1 q = none → c1' q = none)
theorem cellsTo_flat {nm : Nat → Nm} {i : Nat} {cs : List AV} {vs : List Value} {k : List AV → Cl → Prop} (h : Two F1 E1 o1 c1 F2 E2 o2 c2 w) (hr : RepL E1 cs vs) (hf : cs.all AV.flat1 = true) (hk : k cs c1) :
    CellsTo F1 E1 o1 F2 E2 o2 c1 c2 w nm i vs k :=
  ⟨cs, c1, E2, c2, hk, h, E3.le.refl E2, rfl, by rw [frC_flat hf]; exact hr.flat_mono (eS h.S) hf, fun p c e => named0_flat (flat_of_flat1 (List.all_eq_true.1 hf _ (List.mem_of_getElem? e))), fun _ _ => rfl, fun _ h => h⟩
theorem cellsTo_cons {nm : Nat → Nm} (hinj : ∀ i j, nm i = nm j → i = j) {i : Nat} {vs : List Value} {sh : Sh} {cs : List AV} {k : List AV → Cl → Prop} (h : Two F1 E1 o1 c1 F2 E2 o2 c2 w) (hn : ∀ j, i ≤ j → c2 (nm j) = none) (hr : RepL E1 cs vs) {rest : List AV → Cl → (List AV → Cl → Prop) → Prop}
    (ih : ∀ (cs : List AV) (c1 : Cl) (vs : List Value) (E2 : E3) (c2 : Cl) (k : List AV → Cl → Prop), Two F1 E1 o1 c1 F2 E2 o2 c2 w → (∀ j, i + 1 ≤ j → c2 (nm j) = none) → RepL E1 cs vs → rest cs c1 k → CellsTo F1 E1 o1 F2 E2 o2 c1 c2 w nm (i + 1) vs k)
    (hx : asC (PA M) cs (fun c cs => lit (PA M) c.one (exp0 (PA M) sh (nm i) c c1 fun c cl => rest cs cl fun r cl => k (c :: r) cl))) : CellsTo F1 E1 o1 F2 E2 o2 c1 c2 w nm i vs k := by
  simp only [PA_asC, PA_lit] at hx
  obtain ⟨c, cr, rfl, ho, hx⟩ := hx
  simp only [RepL] at hr
  obtain ⟨v, r, rfl, r1, r2, r3, r4⟩ := hr
  obtain ⟨c', c1', E2', c2', g1, g2, g3, g3m, g4, g5, g6, g7, g8⟩ := exp0_two h (hn i (Nat.le_refl _)) r3 hx
  obtain ⟨cs', c1'', E2'', c2'', q1, q2, q3, q3m, q4, q5, q6, q7⟩ := ih cr c1' r E2' c2' _ g2 (fun j hj => by rw [g6 _ (fun e => by have := hinj _ _ e; omega)]; exact hn j (by omega)) r4 g1
  refine ⟨c' :: cs', c1'', E2'', c2'', q1, q2, g3.trans q3, q3m.trans g3m, ?_, fun p c e => ?_, fun q hq => ?_, fun q hq => q7 q (g8 q hq)⟩
  · simp only [RepL, frC]
    exact ⟨v, r, rfl, g7 r1, r2, g4.mono q3, q4⟩
  · cases p with
    | zero =>
      simp at e
      subst e
      exact named0_congr (q6 _ (fun j hj e3 => by have := hinj _ _ e3; omega)) g5
    | succ p =>
      simp at e
      have := q5 p c e
      rwa [show i + 1 + p = i + (p + 1) from by omega] at this
  · rw [q6 q (fun j hj => hq j (by omega)), g6 q (hq i (Nat.le_refl _))]
theorem expA_two {nm : Nat → Nm} (hinj : ∀ i j, nm i = nm j → i = j) : ∀ (shs : List Sh) (i : Nat) (cs : List AV) (c1 : Cl) (vs : List Value) (E2 : E3) (c2 : Cl) (k : List AV → Cl → Prop), Two F1 E1 o1 c1 F2 E2 o2 c2 w → (∀ j, i ≤ j → c2 (nm j) = none) → RepL E1 cs vs →
    expA (PA M) nm shs i cs c1 k → CellsTo F1 E1 o1 F2 E2 o2 c1 c2 w nm i vs k
  | [], i, cs, c1, vs, E2, c2, k, h, _, hr, hx => by
    simp only [expA, PA_asN] at hx
    obtain ⟨rfl, hx⟩ := hx
    exact cellsTo_flat h hr rfl hx
  | sh :: shs, i, cs, c1, vs, E2, c2, k, h, hn, hr, hx =>
    cellsTo_cons (rest := fun cs cl k => expA (PA M) nm shs (i + 1) cs cl k) hinj h hn hr (fun cs c1 vs E2 c2 k h hn hr hx => expA_two hinj shs (i + 1) cs c1 vs E2 c2 k h hn hr hx) hx
theorem expC_two {nm : Nat → Nm} (hinj : ∀ i j, nm i = nm j → i = j) : ∀ (shs : List Sh) (i : Nat) (cs : List AV) (c1 : Cl) (vs : List Value) (E2 : E3) (c2 : Cl) (k : List AV → Cl → Prop), Two F1 E1 o1 c1 F2 E2 o2 c2 w → (∀ j, i ≤ j → c2 (nm j) = none) → RepL E1 cs vs →
    expC (PA M) nm shs i cs c1 k → CellsTo F1 E1 o1 F2 E2 o2 c1 c2 w nm i vs k := by
  intro shs
  induction shs with
  | nil =>
    intro i cs c1 vs E2 c2 k h _ hr hx
    simp only [expC, PA_asN] at hx
    obtain ⟨rfl, hx⟩ := hx
    exact cellsTo_flat h hr rfl hx
  | cons sh shs ih =>
    intro i cs c1 vs E2 c2 k h hn hr hx
    have step : asC (PA M) cs (fun c cs => lit (PA M) c.one (exp0 (PA M) sh (nm i) c c1 fun c cl => expC (PA M) nm shs (i + 1) cs cl fun r cl => k (c :: r) cl)) → CellsTo F1 E1 o1 F2 E2 o2 c1 c2 w nm i vs k := fun hx =>
      cellsTo_cons (rest := fun cs cl k => expC (PA M) nm shs (i + 1) cs cl k) hinj h hn hr (fun cs c1 vs E2 c2 k h hn hr hx => ih (i + 1) cs c1 vs E2 c2 k h hn hr hx) hx
    cases sh <;> cases shs <;> first
      | exact step hx
      | (simp only [expC, PA_chk] at hx; exact cellsTo_flat h hr hx.1 hx.2)
/-- The names that a place may give. -/
def inP (nm q : Nm) : Prop := q = nm ∨ ∃ i, q = subN nm i
theorem fr1_not {nm : Nm} {c : AV} (h : ∀ l, c ≠ .agg l) : fr1 nm c = fr0 nm c := by
  unfold fr1
  split
  · exact absurd rfl (h _)
  · rfl
theorem named1_not {cl : Cl} {nm : Nm} {c : AV} (h : ∀ l, c ≠ .agg l) : Named1 cl nm c ↔ Named0 cl nm c := by
  unfold Named1
  split
  · exact absurd rfl (h _)
  · exact Iff.rfl
theorem fr1_flat {nm : Nm} {c : AV} (h : c.flat = true) : fr1 nm c = c := by
  unfold fr1
  split
  · rename_i l
    rw [frC_flat h]
  · exact fr0_flat h
theorem named1_flat {cl : Cl} {nm : Nm} {c : AV} (h : c.flat = true) : Named1 cl nm c := by
  unfold Named1
  split
  · rename_i l
    exact fun i v hv => named0_flat (flat_of_flat1 (List.all_eq_true.1 h _ (List.mem_of_getElem? hv)))
  · exact named0_flat h
theorem named1_congr {c c' : Cl} {nm : Nm} {v : AV} (h : ∀ q, inP nm q → c' q = c q) (k : Named1 c nm v) : Named1 c' nm v := by
  unfold Named1 at k ⊢
  split at k
  · exact fun i v hv => named0_congr (h _ (.inr ⟨i, rfl⟩)) (k i v hv)
  · exact named0_congr (h _ (.inl rfl)) k
theorem nmC_flat {nm : Nat → Nm} : ∀ {cs : List AV} {i : Nat}, cs.all AV.flat1 = true → nmC nm i cs = []
  | [], i, _ => rfl
  | c :: cs, i, h => by
    simp only [List.all_cons, Bool.and_eq_true] at h
    have : nm0 (nm i) c = [] := by
      unfold nm0
      split
      · simp [AV.flat1] at h
      · simp [AV.flat1] at h
      · rfl
    simp only [nmC, this, nmC_flat h.2, List.nil_append]
theorem exp0_agg {sh : Sh} {nm : Nm} {c : AV} {k : AV → Cl → Prop} (h : exp0 (PA M) sh nm c c1 k) : exp0 (PA M) sh nm c c1 (fun c' cl => (∀ l, c' = .agg l → c'.flat = true) ∧ k c' cl) := by
  unfold exp0 at h ⊢
  split at h <;> try simp only [PA_lit, PA_fail, PA_asRow] at h ⊢
  · exact ⟨h.1, fun l e => (by cases e), h.2⟩
  · exact ⟨h.1, fun l e => (by cases e), h.2⟩
  · obtain ⟨h1, l, h2, h3, h4⟩ := h
    exact ⟨h1, l, h2, h3, fun l e => (by cases e), h4⟩
  · exact ⟨h.1, fun l e => (by cases e), h.2⟩
  · exact ⟨fun l e => (by cases e), h⟩
  · exact ⟨h.1, fun l e => (by cases e), h.2⟩
  · exact ⟨h.1, fun _ _ => h.1, h.2⟩
  · exact ⟨h.1, fun _ _ => h.1, h.2⟩
theorem exp1_two {sh : Sh} {nm : Nm} {c : AV} {k : AV → Cl → Prop} (h : Two F1 E1 o1 c1 F2 E2 o2 c2 w) (hnm : ∀ q, inP nm q → c2 q = none) {v : Value} (hc : Rep E1 c v) (hx : exp1 (PA M) sh nm c c1 k) :
    ∃ c' c1' E2' c2', k c' c1' ∧ Two F1 E1 o1 c1' F2 E2' o2 c2' w ∧ E2.le E2' ∧ E2'.mu = E2.mu ∧ Rep E2' (fr1 nm c') v ∧ Named1 c2' nm c' ∧ (∀ q, ¬ inP nm q → c2' q = c2 q) ∧ (∀ q, c1 q = none → c1' q = none) ∧ frS sh nm c' = fr1 nm c' ∧ nmS sh nm c' = nm1 nm c' := by
  unfold exp1 at hx
  cases hu : isUqs sh with
  | true =>
    rw [hu] at hx
    simp only [cond_true, PA_asA] at hx
    obtain ⟨l, rfl, hx⟩ := hx
    simp only [Rep] at hc
    obtain ⟨vs, rfl, hc⟩ := hc
    obtain ⟨cs', c1', E2', c2', q1, q2, q3, q4, q5, q6, q7, q8⟩ := expA_two (subN_inj nm) _ 0 l c1 vs E2 c2 _ h (fun j _ => hnm _ (.inr ⟨j, rfl⟩)) hc hx
    refine ⟨.agg cs', c1', E2', c2', q1, q2, q3, q4, ?_, fun i x hx => by have := q6 i x hx; rwa [Nat.zero_add] at this, fun q hq => q7 q (fun j _ e => hq (.inr ⟨j, e⟩)), q8, by simp [frS, hu], by simp [nmS, hu]⟩
    simp only [fr1, Rep]
    exact ⟨vs, rfl, q5⟩
  | false =>
    rw [hu] at hx
    obtain ⟨c', c1', E2', c2', ⟨q0, q1⟩, q2, q3, q4, q5, q6, q7, q8, q9⟩ := exp0_two h (hnm _ (.inl rfl)) hc (exp0_agg hx)
    have hfr : fr1 nm c' = fr0 nm c' := by
      by_cases ha : ∃ l, c' = .agg l
      · obtain ⟨l, e⟩ := ha
        rw [fr1_flat (q0 l e), fr0_flat (q0 l e)]
      · exact fr1_not fun l e => ha ⟨l, e⟩
    refine ⟨c', c1', E2', c2', q1, q2, q3, q4, by rw [hfr]; exact q5, ?_, fun q hq => q7 q (fun e => hq (.inl e)), q9, by simp [frS, hu, hfr], ?_⟩
    by_cases ha : ∃ l, c' = .agg l
    · obtain ⟨l, e⟩ := ha
      exact named1_flat (q0 l e)
    · exact (named1_not fun l e => ha ⟨l, e⟩).2 q6
    · simp only [nmS, hu, cond_false]
      cases c' with
      | agg l => rw [nm1, nmC_flat (q0 l rfl)]; rfl
      | _ => rfl
end Go.Proofs.Ythmocicjocjdoaa.V
