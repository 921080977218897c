/- Code is sound; loops have contracts of their own. -/
import Derived.Test.YthmocicjocjdoaaAq
set_option linter.unusedVariables false
set_option linter.unusedSimpArgs false
namespace Go.Proofs.Ythmocicjocjdoaa.V
open Go
variable {P : Program} {L : LoopM} {T : Tab} {M : Meaning} {F : Fr} {E : E3} {objs : Os} {cl : Cl} {w : World}

def Xt.exit' : Xt → Exit
  | .normal => .normal
  | .exit id => .exit id
  | .ret => .ret
def codeOK (n : Nat) : Code → Bool
  | .skip => true
  | .region _ ops draw => dstIn n ops && (!draw || Region.noSelect ops)
  | .seq a b => codeOK n a && codeOK n b
  | .cond _ a b => codeOK n a && codeOK n b
  | .block _ a => codeOK n a
  | .loop a => isL (firstR a) && codeOK n a
  | .exit _ => true
  | .ret => true
  | _ => false
/-- B tells each loop's body by the loop's name, and what follows a meet. -/
def loopsIn (an : Ann) (B : Nat → Code) : Code → Prop
  | .seq a b => loopsIn an B a ∧ loopsIn an B b ∧ (an.meet (firstR b) = true → B (bid (firstR b)) = b)
  | .cond _ a b => loopsIn an B a ∧ loopsIn an B b
  | .block _ a => loopsIn an B a
  | .loop a => B (firstR a) = a ∧ loopsIn an B a
  | _ => True

def InLoop (P : Program) (c : Code) (Q : Exit → Act → World → Prop) (a : Act) (w : World) : Prop :=
  ∀ (b : Frame) (k : List Item) (cs : List Frame), ∃ e a' w', Q e a' w' ∧ Arrives P (lone (b.at a (.code c :: .inLoop c :: k)) cs w) b k cs e a' w'
theorem in_loop_step {c : Code} {Q : Exit → Act → World → Prop} {a : Act} (h : c.wp P (Exit.then (InLoop P c Q) Q) a w) : InLoop P c Q a w := by
  intro b k cs
  obtain ⟨e, a₁, w₁, hq, harr⟩ := h b (.inLoop c :: k) cs
  cases e with
  | normal =>
    obtain ⟨e₂, a₂, w₂, hq₂, harr₂⟩ := hq b k cs
    exact ⟨e₂, a₂, w₂, hq₂, .of_steps (Steps.trans harr (.one step_inLoop)) harr₂⟩
  | exit id => exact ⟨_, a₁, w₁, hq, .pass (x := .inLoop c) rfl (fun _ _ => .inl (by simp)) harr⟩
  | goto l => exact ⟨_, a₁, w₁, hq, .pass (x := .inLoop c) rfl (fun _ _ => .inl (by simp)) harr⟩
  | ret => exact ⟨_, a₁, w₁, hq, .pass (x := .inLoop c) rfl (fun _ _ => .inl (by simp)) harr⟩
  | panic ch => exact ⟨_, a₁, w₁, hq, .pass (x := .inLoop c) rfl (fun _ _ => .inl (by simp)) harr⟩
  | outgrown => exact ⟨_, a₁, w₁, hq, .pass (x := .inLoop c) rfl (fun _ _ => .inl (by simp)) harr⟩
theorem wp_in_loop {c : Code} {Q : Exit → Act → World → Prop} {a : Act} (h : InLoop P c Q a w) : (Code.loop c).wp P Q a w := by
  intro b k cs
  obtain ⟨e, a', w', hq, harr⟩ := h b k cs
  exact ⟨e, a', w', hq, .of_steps (.one step_loop) harr⟩

def getX : List (Option Nat × Spec) → Nat → Option (Option Nat × Spec)
  | [], _ => none
  | (x, sp) :: l, j => bif Nat.beq j (xcode x) then some (x, sp) else getX l j
theorem pickX_iff {k : Option Nat → Spec → Prop} : ∀ {out : List (Option Nat × Spec)} {j : Nat}, pickX (PA M) out j k → ∃ x sp, getX out j = some (x, sp) ∧ k x sp
  | [], j, h => h.elim
  | (x, sp) :: l, j, h => by
    simp only [pickX, getX] at h ⊢
    cases hb : Nat.beq j (xcode x) with
    | true => rw [hb] at h; exact ⟨x, sp, rfl, h⟩
    | false => rw [hb] at h; exact pickX_iff h
theorem findX_iff {k : Spec → Prop} : ∀ {out : List (Option Nat × Spec)} {y : Option Nat}, findX (PA M) out y k → ∃ sp, getX out (xcode y) = some (y, sp) ∧ k sp
  | [], j, h => h.elim
  | (x, sp) :: l, y, h => by
    simp only [findX, getX] at h ⊢
    cases hb : Nat.beq (xcode y) (xcode x) with
    | true =>
      rw [hb] at h
      have := Nat.eq_of_beq_eq_true hb
      have hxy : x = y := by cases x <;> cases y <;> simp [xcode] at this ⊢; exact this.symm
      subst hxy
      exact ⟨sp, rfl, h⟩
    | false => rw [hb] at h; exact findX_iff h

theorem shN_same {sh : Sh} {nm : Nm} {v : AV} {k : AV → Prop} (h : shN (PA M) sh nm v k) : k v := by
  unfold shN at h
  split at h
  · unfold asOwn at h
    split at h
    · simp only [PA_lit, Nat.beq_eq] at h
      obtain ⟨h1, h2, h3⟩ := h
      rw [h1, Nm.beq_iff.1 h2]
      exact h3
    · exact h.elim
  · exact shape_same h
theorem shE_same : ∀ {l : List (Nat × Sh)} {vs : List AV} {k : List AV → Prop}, shE (PA M) l vs k → k vs
  | [], vs, k, h => by simp only [shE, PA_asN] at h; obtain ⟨rfl, h⟩ := h; exact h
  | (t, sh) :: l, vs, k, h => by
    simp only [shE] at h
    split at h
    · exact shE_same h
    · simp only [PA_asC] at h
      obtain ⟨v, r, rfl, h⟩ := h
      exact shE_same (k := fun r => k (v :: r)) (shN_same h)
theorem shC_same {nm : Nat → Nm} : ∀ {shs : List Sh} {i : Nat} {cs : List AV} {k : List AV → Prop}, shC (PA M) nm i shs cs k → k cs := by
  intro shs
  induction shs with
  | nil => intro i cs k h; simp only [shC, PA_asN] at h; obtain ⟨rfl, h⟩ := h; exact h
  | cons sh shs ih =>
    intro i cs k h
    have step : asC (PA M) cs (fun v cs => shN (PA M) sh (nm i) v fun v => shC (PA M) nm (i + 1) shs cs fun r => k (v :: r)) → k cs := by
      intro h2
      simp only [PA_asC] at h2
      obtain ⟨v, r, e, h3⟩ := h2
      rw [e]
      exact ih (k := fun r => k (v :: r)) (shN_same h3)
    cases sh <;> cases shs <;> first
      | exact step h
      | exact h
theorem shO_same : ∀ {l : List (Nat × List Sh)} {os : List (List AV)} {k : List (List AV) → Prop}, shO (PA M) l os k → k os
  | [], os, k, h => by simp only [shO, PA_asN] at h; obtain ⟨rfl, h⟩ := h; exact h
  | (o, shs) :: l, os, k, h => by
    simp only [shO, PA_asC] at h
    obtain ⟨cs, r, rfl, h⟩ := h
    exact shO_same (k := fun r => k (cs :: r)) (shC_same h)

def Enters (P : Program) (id : Nat) (c : Code) (Q : Exit → Act → World → Prop) (a : Act) (w : World) : Prop := bif isL id then InLoop P c Q a w else c.wp P Q a w
/-- What a loop's contract says. -/
def LSem (P : Program) (n : Nat) (an : Ann) (B : Nat → Code) : LoopM := fun id vs os Q =>
  ∀ (F : Fr) (E : E3) (a : Act) (w : World) (Qx : Exit → Act → World → Prop), (∀ c a w, ¬ Qx (.panic c) a w) → WI F E (ofL (zipO (an.loop id).2 os)) (clZ (an.loop id) vs os) w → EnvOK E (ofL (zipE (an.loop id).1 vs)) a → a.defers = [] → a.tmps.size = n →
    (∀ j x sp vs' os' E' a' w', getX (an.out id) j = some (x, sp) → Q j vs' os' → WI F E' (ofL (zipO sp.2 os')) (clZ sp vs' os') w' → EnvOK E' (ofL (zipE sp.1 vs')) a' → a'.defers = [] → a'.tmps.size = n → Qx (xt x).exit' a' w') → Enters P id (B id) Qx a w
theorem LSem.mono {n : Nat} {an : Ann} {B : Nat → Code} {id : Nat} {vs : List AV} {os : List (List AV)} {Q Q' : Nat → List AV → List (List AV) → Prop} (h : LSem P n an B id vs os Q) (hq : ∀ j vs os, Q j vs os → Q' j vs os) : LSem P n an B id vs os Q' :=
  fun F E a w Qx h1 h2 h3 h4 h5 h6 => h F E a w Qx h1 h2 h3 h4 h5 fun j x sp vs' os' E' a' w' g1 g2 => h6 j x sp vs' os' E' a' w' g1 (hq _ _ _ g2)

def Post (F : Fr) (n : Nat) (k : Xt → Ev → Os → Cl → Prop) (Q : Exit → Act → World → Prop) : Prop :=
  ∀ x E env objs cl a w, k x env objs cl → WI F E objs cl w → EnvOK E env a → a.defers = [] → a.tmps.size = n → Q x.exit' a w
def Sound (P : Program) (T : Tab) (an : Ann) (L : LoopM) (n : Nat) (c : Code) : Prop :=
  ∀ (F : Fr) (E : E3) (env : Ev) (objs : Os) (cl : Cl) (a : Act) (w : World) (k : Xt → Ev → Os → Cl → Prop) (Q : Exit → Act → World → Prop), (∀ c a w, ¬ Q (.panic c) a w) → WI F E objs cl w → EnvOK E env a → a.defers = [] → a.tmps.size = n →
    run (PA (SM P L)) T an c env objs cl k → Post F n k Q → c.wp P Q a w

theorem freezeV_sound {k : Os → Prop} : ∀ {l : List Nat} {E : E3} {objs : Os}, WI F E objs cl w → freezeV (PA M) l objs k → ∃ E' objs', k objs' ∧ E.le E' ∧ WI F E' objs' cl w
  | [], E, objs, hI, h => ⟨E, objs, h, E3.le.refl E, hI⟩
  | o :: l, E, objs, hI, h => by
    unfold freezeV at h
    split at h
    · rename_i cs ho
      simp only [PA_lit] at h
      obtain ⟨b, vs, _, _, _, g4, g5⟩ := hI.freeze ho h.1
      obtain ⟨E', objs', k1, k2, k3⟩ := freezeV_sound g5 h.2
      exact ⟨E', objs', k1, g4.trans k2, k3⟩
    · exact freezeV_sound hI h
theorem tabAt_ok (hT : TabOK P T) (an : Ann) : TabOK P (tabAt T an) := fun t => ⟨(hT t).desc, (hT t).info, (hT t).eq⟩
theorem unr_sound {an : Ann} {L : LoopM} {n : Nat} {c : Code} (hS : Sound P T an L n c) : ∀ (m : Nat) (F : Fr) (E : E3) (env : Ev) (objs : Os) (cl : Cl) (a : Act) (w : World) (k : Xt → Ev → Os → Cl → Prop) (Q : Exit → Act → World → Prop), (∀ c a w, ¬ Q (.panic c) a w) → WI F E objs cl w → EnvOK E env a → a.defers = [] → a.tmps.size = n →
    unrV (PA (SM P L)) (run (PA (SM P L)) T an c) m env objs cl k → Post F n k Q → InLoop P c Q a w
  | 0, F, E, env, objs, cl, a, w, k, Q, hq, hI, hE, hdf, hn, h, hP => h.elim
  | m + 1, F, E, env, objs, cl, a, w, k, Q, hq, hI, hE, hdf, hn, h, hP => by
    simp only [unrV] at h
    refine in_loop_step (hS F E env objs cl a w _ _ ?_ hI hE hdf hn h ?_)
    · intro c a w hh; exact hq _ _ _ hh
    · intro x E' env' objs' cl' a' w' g1 g2 g3 g4 g5
      cases x with
      | normal => exact unr_sound hS m F E' env' objs' cl' a' w' k Q hq g2 g3 g4 g5 g1 hP
      | exit i => exact hP (.exit i) E' env' objs' cl' a' w' g1 g2 g3 g4 g5
      | ret => exact hP .ret E' env' objs' cl' a' w' g1 g2 g3 g4 g5
theorem blt_f {a b : Nat} (h : b ≤ a) : Nat.blt a b = false := by
  rw [Bool.eq_false_iff, ne_eq, Nat.blt_eq]; omega
theorem isL_bid (r : Nat) : isL (bid r) = false := blt_f (Nat.le_add_left _ _)
theorem run_sound (hT : TabOK P T) (hF : FnOK P T) (hm : P.follows .mixedOrders = true) {an : Ann} {n : Nat} {B : Nat → Code} : ∀ (c : Code), codeOK n c = true → loopsIn an B c → Sound P T an (LSem P n an B) n c
  | .skip, _, _ => fun F E env objs cl a w k Q hq hI hE hdf hn h hP => wp_skip (hP .normal E env objs cl a w h hI hE hdf hn)
  | .region id ops draw, hc, _ => fun F E env objs cl a w k Q hq hI hE hdf hn h hP => by
    simp only [codeOK, Bool.and_eq_true] at hc
    obtain ⟨hd, hs⟩ := hc
    simp only [run] at h
    obtain ⟨E1, objs1, h, hle1, hI⟩ := freezeV_sound hI h
    have hE := hE.mono hle1
    obtain ⟨E2, env2, objs2, cl2, h, hle2, hI, hE⟩ := stillT_sound hI hE h
    have hT := tabAt_ok hT an
    have hF : FnOK P (tabAt T an) := hF
    cases draw with
    | true =>
      simp only [cond_true] at h
      exact region_draw_sound hT hF hm hd (by simpa using hs) hq hI hE hdf hn h (fun E' env' objs' cl' a' w' g1 g2 g3 g4 g5 => hP .normal E' env' objs' cl' a' w' g1 g2 g3 g4 g5)
    | false =>
      simp only [cond_false] at h
      split at h
      · exact region_sound hT hF hd hI hE hdf hn h (fun E' env' objs' cl' a' w' g1 g2 g3 g4 g5 => hP .normal E' env' objs' cl' a' w' g1 g2 g3 g4 g5)
      · exact joinV_sound hT hF hd hI hE hdf hn h (fun E' env' a' w' g1 g2 g3 g4 g5 => hP .normal E' env' objs2 cl2 a' w' g1 g2 g3 g4 g5)
  | .seq c d, hc, hl => fun F E env objs cl a w k Q hq hI hE hdf hn h hP => by
    simp only [codeOK, Bool.and_eq_true] at hc
    simp only [loopsIn] at hl
    simp only [run] at h
    refine wp_seq (run_sound hT hF hm c hc.1 hl.1 F E env objs cl a w _ _ ?_ hI hE hdf hn h ?_)
    · intro c a w hh; exact hq _ _ _ hh
    · intro x E' env' objs' cl' a' w' g1 g2 g3 g4 g5
      cases x with
      | normal =>
        dsimp only at g1
        cases hmt : an.meet (firstR d) with
        | false =>
          rw [hmt] at g1
          exact run_sound hT hF hm d hc.2 hl.2.1 F E' env' objs' cl' a' w' _ _ hq g2 g3 g4 g5 g1 hP
        | true =>
          rw [hmt] at g1
          have hB := hl.2.2 hmt
          have hid := isL_bid (firstR d)
          generalize bid (firstR d) = r at g1 hB hid
          simp only [cond_true, loopV] at g1
          obtain ⟨E2, vs, os, s1, s2, s3⟩ := flatV_sound g2 g3 g1
          have s1 : LSem P n an B r vs os _ := s1
          have key := s1 F E2 a' w' Q hq s2 s3 g4 g5 (fun j x sp vs' os' E' a' w' g1 g2 g3 g4 g5 g6 => by
            obtain ⟨x2, sp2, e, hk⟩ := pickX_iff g2
            rw [g1] at e
            injection e with e
            injection e with e1 e2
            subst e1; subst e2
            have hk := shO_same (shE_same hk)
            exact hP (xt x) E' _ _ _ a' w' hk g3 g4 g5 g6)
          rw [hB] at key
          unfold Enters at key
          rw [hid] at key
          exact key
      | exit id => exact hP (.exit id) E' env' objs' cl' a' w' g1 g2 g3 g4 g5
      | ret => exact hP .ret E' env' objs' cl' a' w' g1 g2 g3 g4 g5
  | .cond c x y, hc, hl => fun F E env objs cl a w k Q hq hI hE hdf hn h hP => by
    simp only [codeOK, Bool.and_eq_true] at hc
    simp only [loopsIn] at hl
    simp only [run, PA_orFail, PA_asB] at h
    obtain ⟨v, hv, b, rfl, h⟩ := h
    have hb := opv_rep hE hv
    simp only [Rep] at hb
    have he : ∀ b, opv env c = some (.bool b) → condE env c b = env := by
      intro b hv
      cases c with
      | tmp t => exact guard_env hv
      | _ => rfl
    cases b with
    | true =>
      simp only [cond_true, he true hv] at h
      exact wp_cond_true hb (run_sound hT hF hm x hc.1 hl.1 F E env objs cl a w _ _ hq hI hE hdf hn h hP)
    | false =>
      simp only [cond_false, he false hv] at h
      exact wp_cond_false hb (run_sound hT hF hm y hc.2 hl.2 F E env objs cl a w _ _ hq hI hE hdf hn h hP)
  | .block id c, hc, hl => fun F E env objs cl a w k Q hq hI hE hdf hn h hP => by
    simp only [codeOK] at hc
    simp only [loopsIn] at hl
    simp only [run] at h
    refine wp_block (run_sound hT hF hm c hc hl F E env objs cl a w _ _ ?_ hI hE hdf hn h ?_)
    · intro c a w hh; exact hq _ _ _ hh
    · intro x E' env' objs' cl' a' w' g1 g2 g3 g4 g5
      cases x with
      | normal => exact hP .normal E' env' objs' cl' a' w' g1 g2 g3 g4 g5
      | exit j =>
        dsimp only at g1
        show (if j = id then Q .normal a' w' else Q (.exit j) a' w')
        cases hb : Nat.beq j id with
        | true =>
          rw [hb] at g1
          rw [if_pos (Nat.eq_of_beq_eq_true hb)]
          exact hP .normal E' env' objs' cl' a' w' g1 g2 g3 g4 g5
        | false =>
          rw [hb] at g1
          rw [if_neg (fun e => by subst e; simp at hb)]
          exact hP (.exit j) E' env' objs' cl' a' w' g1 g2 g3 g4 g5
      | ret => exact hP .ret E' env' objs' cl' a' w' g1 g2 g3 g4 g5
  | .loop c, hc, hl => fun F E env objs cl a w k Q hq hI hE hdf hn h hP => by
    simp only [codeOK, Bool.and_eq_true] at hc
    simp only [loopsIn] at hl
    simp only [run] at h
    split at h
    rotate_left
    · exact wp_in_loop (unr_sound (run_sound hT hF hm c hc.2 hl.2) _ F E env objs cl a w k Q hq hI hE hdf hn h hP)
    simp only [loopV] at h
    obtain ⟨E2, vs, os, s1, s2, s3⟩ := flatV_sound hI hE h
    have s1 : LSem P n an B (firstR c) vs os _ := s1
    have key := s1 F E2 a w Q hq s2 s3 hdf hn (fun j x sp vs' os' E' a' w' g1 g2 g3 g4 g5 g6 => by
      obtain ⟨x2, sp2, e, hk⟩ := pickX_iff g2
      rw [g1] at e
      injection e with e
      injection e with e1 e2
      subst e1; subst e2
      have hk := shO_same (shE_same hk)
      exact hP (xt x) E' _ _ _ a' w' hk g3 g4 g5 g6)
    rw [hl.1] at key
    unfold Enters at key
    rw [hc.1] at key
    exact wp_in_loop key
  | .exit id, _, _ => fun F E env objs cl a w k Q hq hI hE hdf hn h hP => wp_exit (hP (.exit id) E env objs cl a w h hI hE hdf hn)
  | .ret, _, _ => fun F E env objs cl a w k Q hq hI hE hdf hn h hP => wp_ret (hP .ret E env objs cl a w h hI hE hdf hn)
  | .label _, hc, _ => by simp [codeOK] at hc
  | .goto _, hc, _ => by simp [codeOK] at hc
  | .scope _, hc, _ => by simp [codeOK] at hc
  | .rangeFunc _ _ _ _, hc, _ => by simp [codeOK] at hc

/-- A loop's contract, from one round. -/
theorem loop_round (hT : TabOK P T) (hF : FnOK P T) (hm : P.follows .mixedOrders = true) {an : Ann} {n : Nat} {B : Nat → Code} {id : Nat} (hc : codeOK n (B id) = true) (hl : loopsIn an B (B id)) {vs : List AV} {os : List (List AV)} {Q : Nat → List AV → List (List AV) → Prop}
    (h : roundV (PA (SM P (LSem P n an B))) id (an.loop id) (an.out id) (fun env objs cl k => run (PA (SM P (LSem P n an B))) T an (B id) env objs cl k) vs os (fun vs os => LSem P n an B id vs os Q) Q) : LSem P n an B id vs os Q := by
  intro F E a w Qx hq hI hE hdf hn hX
  unfold roundV at h
  unfold Enters
  cases hid : isL id with
  | false =>
    rw [hid] at h
    refine run_sound hT hF hm (B id) hc hl F E _ _ _ a w _ _ hq hI hE hdf hn h ?_
    intro x E' env' objs' cl' a' w' g1 g2 g3 g4 g5
    cases x with
    | normal =>
      obtain ⟨sp, e, g1⟩ := findX_iff g1
      obtain ⟨E2, vs2, os2, s1, s2, s3⟩ := flatV_sound g2 g3 g1
      exact hX 50001 (some 50000) sp vs2 os2 E2 a' w' e s1 s2 s3 g4 g5
    | exit i =>
      simp only [PA_lit, Nat.blt_eq] at g1
      obtain ⟨hi, g1⟩ := g1
      obtain ⟨sp, e, g1⟩ := findX_iff g1
      obtain ⟨E2, vs2, os2, s1, s2, s3⟩ := flatV_sound g2 g3 g1
      have hx := hX (i + 1) (some i) sp vs2 os2 E2 a' w' e s1 s2 s3 g4 g5
      have e2 : xt (some i) = .exit i := by
        unfold xt
        dsimp only
        rw [show Nat.beq i 50000 = false by rw [Bool.eq_false_iff]; intro h; rw [Nat.beq_eq] at h; omega]
        rfl
      rw [e2] at hx
      exact hx
    | ret =>
      obtain ⟨sp, e, g1⟩ := findX_iff g1
      obtain ⟨E2, vs2, os2, s1, s2, s3⟩ := flatV_sound g2 g3 g1
      exact hX 0 none sp vs2 os2 E2 a' w' e s1 s2 s3 g4 g5
  | true =>
  rw [hid] at h
  have s0 : ∀ (vs : List AV) (os : List (List AV)), LSem P n an B id vs os Q → ∀ (F : Fr) (E : E3) (a : Act) (w : World) (Qx : Exit → Act → World → Prop), (∀ c a w, ¬ Qx (.panic c) a w) → WI F E (ofL (zipO (an.loop id).2 os)) (clZ (an.loop id) vs os) w → EnvOK E (ofL (zipE (an.loop id).1 vs)) a → a.defers = [] → a.tmps.size = n →
    (∀ j x sp vs' os' E' a' w', getX (an.out id) j = some (x, sp) → Q j vs' os' → WI F E' (ofL (zipO sp.2 os')) (clZ sp vs' os') w' → EnvOK E' (ofL (zipE sp.1 vs')) a' → a'.defers = [] → a'.tmps.size = n → Qx (xt x).exit' a' w') → InLoop P (B id) Qx a w := by
    intro vs os hh F E a w Qx h1 h2 h3 h4 h5 h6
    have := hh F E a w Qx h1 h2 h3 h4 h5 h6
    unfold Enters at this
    rw [hid] at this
    exact this
  refine in_loop_step (run_sound hT hF hm (B id) hc hl F E _ _ _ a w _ _ ?_ hI hE hdf hn h ?_)
  · intro c a w hh; exact hq _ _ _ hh
  · intro x E' env' objs' cl' a' w' g1 g2 g3 g4 g5
    cases x with
    | normal =>
      obtain ⟨E2, vs2, os2, s1, s2, s3⟩ := flatV_sound g2 g3 g1
      exact s0 _ _ s1 F E2 a' w' Qx hq s2 s3 g4 g5 hX
    | exit i =>
      simp only [PA_lit, Nat.blt_eq] at g1
      obtain ⟨hi, g1⟩ := g1
      obtain ⟨sp, e, g1⟩ := findX_iff g1
      obtain ⟨E2, vs2, os2, s1, s2, s3⟩ := flatV_sound g2 g3 g1
      have hx := hX (i + 1) (some i) sp vs2 os2 E2 a' w' e s1 s2 s3 g4 g5
      have e2 : xt (some i) = .exit i := by
        unfold xt
        dsimp only
        rw [show Nat.beq i 50000 = false by rw [Bool.eq_false_iff]; intro h; rw [Nat.beq_eq] at h; omega]
        rfl
      rw [e2] at hx
      exact hx
    | ret =>
      obtain ⟨sp, e, g1⟩ := findX_iff g1
      obtain ⟨E2, vs2, os2, s1, s2, s3⟩ := flatV_sound g2 g3 g1
      exact hX 0 none sp vs2 os2 E2 a' w' e s1 s2 s3 g4 g5
end Go.Proofs.Ythmocicjocjdoaa.V
