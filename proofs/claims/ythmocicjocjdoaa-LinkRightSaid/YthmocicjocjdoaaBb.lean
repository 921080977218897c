/- The interpreter is the same at two algebras that are alike: calls, regions, code, functions. -/
import Derived.Test.YthmocicjocjdoaaBa
set_option linter.unusedVariables false
set_option linter.unusedSimpArgs false
namespace Go.Proofs.Ythmocicjocjdoaa.V
open Go
theorem r_cond {α β : Type} {R : α → β → Prop} {b : Bool} {x y : α} {x' y' : β} (h : R x x') (h' : R y y') : R (bif b then x else y) (bif b then x' else y') := by cases b; exact h'; exact h
section
variable {α β ι : Type} {A : Alg α} {B : Alg β} {R : ι → α → β → Prop} (H : AlgRel A B R) {i : ι}
include H
theorem r_argsV {T : Tab} : ∀ {vs : List AV} {shs : List Sh} {ts : List Nat} {j : Nat} {objs : Os} {cl : Cl} {k : List AV → List (Nat × List AV) → List (Nat × Nat × List Sh) → Os → Cl → α} {k' : List AV → List (Nat × List AV) → List (Nat × Nat × List Sh) → Os → Cl → β}, (∀ a b c d e, R i (k a b c d e) (k' a b c d e)) → R i (argsV A T j shs vs ts objs cl k) (argsV B T j shs vs ts objs cl k')
  | [], shs, ts, j, objs, cl, k, k', h => by cases ts; exact h _ _ _ _ _; exact H.fail _ _
  | v :: vs, shs, ts, j, objs, cl, k, k', h => by
    cases ts
    · exact H.fail _ _
    · rename_i t ts
      unfold argsV
      cases shOwned shs
      · dsimp only [cond_false]
        cases v <;> first
          | exact r_lit H (r_argsV fun _ _ _ _ _ => h _ _ _ _ _)
          | skip
        dsimp only
        split
        · exact r_lit H (r_expC H fun _ _ => r_argsV fun _ _ _ _ _ => h _ _ _ _ _)
        · exact r_argsV fun _ _ _ _ _ => h _ _ _ _ _
        · exact H.fail _ _
      · dsimp only [cond_true]
        exact r_exp1 H fun _ _ => r_argsV fun _ _ _ _ _ => h _ _ _ _ _
theorem r_outsV {d : Nat} : ∀ {bk : List (Nat × Nat × List Sh)} {outs : List (Nat × List AV)} {objs : Os} {cl : Cl} {k : List (Nat × List AV) → Os → Cl → α} {k' : List (Nat × List AV) → Os → Cl → β}, (∀ a b c, R i (k a b c) (k' a b c)) → R i (outsV A d bk outs objs cl k) (outsV B d bk outs objs cl k')
  | [], outs, objs, cl, k, k', h => h _ _ _
  | (j, o, shs) :: bk, outs, objs, cl, k, k', h => by
    unfold outsV
    exact r_asC' H fun _ _ => r_lit H (r_impO H fun _ _ => r_outsV h)
theorem r_resV {d : Nat} : ∀ {shs : List Sh} {r : Nat} {res : List AV} {outs : List (Nat × List AV)} {objs : Os} {cl : Cl} {k : List AV → Os → Cl → α} {k' : List AV → Os → Cl → β}, (∀ a b c, R i (k a b c) (k' a b c)) → R i (resV A d r shs res outs objs cl k) (resV B d r shs res outs objs cl k')
  | [], r, res, outs, objs, cl, k, k', h => r_asN' H (r_asN' H (h _ _ _))
  | sh :: shs, r, res, outs, objs, cl, k, k', h => by
    unfold resV
    refine r_asC' H fun v res => ?_
    cases sh <;> first
      | exact r_shape H fun _ => r_imp1 H fun _ _ => r_resV fun _ _ _ => h _ _ _
      | skip
    cases v <;> first | exact H.fail _ _ | skip
    rename_i o n
    cases n
    · exact r_lit H (r_asC' H fun _ _ => r_lit H (r_fresh H (r_impO H fun _ _ => r_resV fun _ _ _ => h _ _ _)))
    · exact H.fail _ _
theorem r_resX : ∀ {shs : List Sh} {res : List AV} {k : List AV → α} {k' : List AV → β}, (∀ a, R i (k a) (k' a)) → R i (resX A shs res k) (resX B shs res k')
  | [], res, k, k', h => r_asN' H (h _)
  | sh :: shs, res, k, k', h => by unfold resX; exact r_asC' H fun _ _ => r_shape H fun _ => r_lit H (r_resX fun _ => h _)
theorem r_capsV : ∀ {vs : List AV} {objs : Os} {k : List AV → Os → α} {k' : List AV → Os → β}, (∀ a b, R i (k a b) (k' a b)) → R i (capsV A vs objs k) (capsV B vs objs k')
  | [], objs, k, k', h => h _ _
  | v :: vs, objs, k, k', h => by
    unfold capsV
    split
    · split
      · exact r_lit H (r_capsV fun _ _ => h _ _)
      · exact r_capsV fun _ _ => h _ _
      · exact H.fail _ _
    · exact r_capsV fun _ _ => h _ _
    · exact H.fail _ _
theorem r_elemsV {uq : Bool} {td : TD} : ∀ {ps : List (Nat × Operand)} {z vs : List AV} {k : List AV → α} {k' : List AV → β}, (∀ a, R i (k a) (k' a)) → R i (elemsV A uq td z ps vs k) (elemsV B uq td z ps vs k')
  | [], z, vs, k, k', h => by cases vs; exact h _; exact H.fail _ _
  | (j, o) :: ps, z, vs, k, k', h => by
    cases vs
    · exact H.fail _ _
    · unfold elemsV; exact r_lit H (r_cellsAs H fun _ => r_elemsV h)
theorem r_putC {x : AV} {cs : List AV} {k : AV → α} {k' : AV → β} (h : ∀ b, R i (k b) (k' b)) : R i (putC A x cs k) (putC B x cs k') := by
  unfold putC
  split
  · exact h _
  · exact r_asC' H fun _ _ => r_asN' H (h _)
theorem r_srcV {w : Nat} {y : AV} {cl : Cl} {k : List AV → α} {k' : List AV → β} (h : ∀ b, R i (k b) (k' b)) : R i (srcV A w y cl k) (srcV B w y cl k') := by
  unfold srcV
  split
  · exact r_lit H (h _)
  · exact r_lit H (r_asRow' H fun _ => r_lit H (h _))
  · exact H.fail _ _
theorem r_appV {uq : Bool} {d sz : Nat} {x : AV} {r : List AV} {objs : Os} {cl : Cl} {len : Nat → α → α} {len' : Nat → β → β} {k : AV → Os → Cl → α} {k' : AV → Os → Cl → β} (hl : ∀ n x y, R i x y → R i (len n x) (len' n y)) (h : ∀ a b c, R i (k a b c) (k' a b c)) : R i (appV A uq d sz x r objs cl len k) (appV B uq d sz x r objs cl len' k') := by
  unfold appV
  split
  · exact hl _ _ _ (r_cond (r_freshN H (h _ _ _)) (r_freshN H (h _ _ _)))
  · exact hl _ _ _ (r_lit H (r_freshN H (h _ _ _)))
  · exact r_asRow' H fun _ => hl _ _ _ (r_lit H (r_freshN H (h _ _ _)))
  · exact H.fail _ _
theorem r_opV {T : Tab} {d : Nat} {op : Op} {vs : List AV} {objs : Os} {cl : Cl} {k : AV → Os → Cl → α} {k' : AV → Os → Cl → β} (h : ∀ a b c, R i (k a b c) (k' a b c)) : R i (opV A T d op vs objs cl k) (opV B T d op vs objs cl k') := by
  unfold opV
  split
  · exact r_lit H (r_fresh H (h _ _ _))
  · exact r_cellsAs H fun _ => r_fresh H (h _ _ _)
  · split <;> first | exact H.fail _ _ | skip
    · split <;> first | exact H.fail _ _ | exact r_cellsAs H fun _ => r_chk H (h _ _ _)
    · exact r_asRow' H fun _ => r_nthE H fun _ => r_cellsAs H fun _ => r_chk H (r_putC H fun _ => r_chk H (h _ _ _))
  · exact r_asRow' H fun _ => r_nthE H fun _ => r_part H fun _ => h _ _ _
  · split <;> first | exact H.fail _ _ | exact r_lit H (r_asRow' H fun _ => r_idxN H fun _ => h _ _ _)
  · split <;> first | exact H.fail _ _ | exact r_lit H (r_chk H (r_freshN H (h _ _ _)))
  · split <;> first | exact H.fail _ _ | skip
    exact r_cond (r_lit H (r_freshN H (r_cond (h _ _ _) (h _ _ _)))) (r_lit H (r_elemsV H fun _ => r_freshN H (r_cond (h _ _ _) (h _ _ _))))
  · exact r_lit H (r_capsV H fun _ _ => h _ _ _)
  · split <;> first | exact H.fail _ _ | skip
    split <;> first | exact H.fail _ _ | skip
    refine r_lit H ?_
    split
    · exact r_lit H (r_appV H (fun _ _ _ hr => r_chk H hr) h)
    · exact r_srcV H fun _ => r_lit H (r_appV H (fun _ _ _ hr => r_chk H hr) h)
  · split <;> first | exact H.fail _ _ | skip
    split <;> first | exact H.fail _ _ | exact r_lit H (r_asRow' H fun _ => r_srcV H fun _ => r_lit H (h _ _ _))
  · split <;> first | exact H.fail _ _ | skip
    split <;> first | exact H.fail _ _ | exact r_asRow' H fun _ => H.asm _ _ _ _ (h _ _ _)
  · split <;> first | exact H.fail _ _ | exact r_lit H (r_asRow' H fun _ => r_orFail H fun _ => h _ _ _)
  · split
    · exact r_lit H (h _ _ _)
    · exact r_conv H fun _ => h _ _ _
  · split <;> first | exact H.fail _ _ | skip
    refine r_lit H ?_
    exact r_cond (r_argsV H fun _ _ _ _ _ => H.call _ _ _ _ _ _ fun _ _ => r_outsV H fun _ _ _ => r_resV H fun _ _ _ => h _ _ _) (r_lit H (H.callx _ _ _ _ _ fun _ => r_resX H fun _ => h _ _ _))
  · exact r_pureV H fun _ => h _ _ _
theorem r_stillR : ∀ {qs : List Nm} {v : AV} {cl : Cl} {k : AV → Cl → α} {k' : AV → Cl → β}, (∀ a b, R i (k a b) (k' a b)) → R i (stillR A qs v cl k) (stillR B qs v cl k')
  | [], v, cl, k, k', h => h _ _
  | q :: qs, v, cl, k, k', h => r_asRow' H fun _ => r_lit H (r_stillR h)
theorem r_stillV : ∀ {qs : List Nm} {env : Ev} {objs : Os} {cl : Cl} {k : Ev → Os → Cl → α} {k' : Ev → Os → Cl → β}, (∀ a b c, R i (k a b c) (k' a b c)) → R i (stillV A qs env objs cl k) (stillV B qs env objs cl k')
  | [], env, objs, cl, k, k', h => h _ _ _
  | q :: qs, env, objs, cl, k, k', h => r_asRow' H fun _ => r_lit H (r_stillV h)
theorem r_stillT : ∀ {ts : List Nat} {env : Ev} {objs : Os} {cl : Cl} {k : Ev → Os → Cl → α} {k' : Ev → Os → Cl → β}, (∀ a b c, R i (k a b c) (k' a b c)) → R i (stillT A ts env objs cl k) (stillT B ts env objs cl k')
  | [], env, objs, cl, k, k', h => h _ _ _
  | t :: ts, env, objs, cl, k, k', h => r_stillV H fun _ _ _ => r_stillT h
theorem r_stepV {T : Tab} {ops : Array Oper} {o : Oper} {env : Ev} {objs : Os} {cl : Cl} {k : Ev → Os → Cl → α} {k' : Ev → Os → Cl → β} (h : ∀ a b c, R i (k a b c) (k' a b c)) : R i (stepV A T ops o env objs cl k) (stepV B T ops o env objs cl k') := by
  have hgo : ∀ env, R i (orFail A (opvs env o.op.operands.toList) fun vs => opV A T (o.dst.getD noDst) o.op vs objs cl fun v objs cl => bif T.fz (o.dst.getD noDst) then stillR A (rowsOf v) v cl fun v cl => k (setE env o.dst v) objs cl else k (setE env o.dst v) objs cl)
      (orFail B (opvs env o.op.operands.toList) fun vs => opV B T (o.dst.getD noDst) o.op vs objs cl fun v objs cl => bif T.fz (o.dst.getD noDst) then stillR B (rowsOf v) v cl fun v cl => k' (setE env o.dst v) objs cl else k' (setE env o.dst v) objs cl) := fun env =>
    r_orFail H fun _ => r_opV H fun _ _ _ => r_cond (r_stillR H fun _ _ => h _ _ _) (h _ _ _)
  unfold stepV
  dsimp only
  split
  · exact hgo _
  · refine r_orFail H fun t => r_orFail H fun b => r_cond (h _ _ _) (r_asB' H fun b => ?_)
    exact r_cond (r_cond (hgo _) (h _ _ _)) (r_cond (h _ _ _) (hgo _))
theorem r_stepsV {T : Tab} {ops : Array Oper} : ∀ {l : List Oper} {env : Ev} {objs : Os} {cl : Cl} {k : Ev → Os → Cl → α} {k' : Ev → Os → Cl → β}, (∀ a b c, R i (k a b c) (k' a b c)) → R i (stepsV A T ops l env objs cl k) (stepsV B T ops l env objs cl k')
  | [], env, objs, cl, k, k', h => h _ _ _
  | o :: l, env, objs, cl, k, k', h => r_stepV H fun _ _ _ => r_stepsV h
theorem r_allOf {f : Nat → α} {f' : Nat → β} (h : ∀ n, R i (f n) (f' n)) : ∀ {l : List Nat}, R i (allOf A f l) (allOf B f' l)
  | [] => H.fail _ _
  | [n] => h n
  | n :: m :: l => H.both _ _ _ _ _ (h n) (r_allOf h (l := m :: l))
theorem r_drawV {T : Tab} {ops : Array Oper} : ∀ {fuel : Nat} {listed : Array Bool} {env : Ev} {objs : Os} {cl : Cl} {k : Ev → Os → Cl → α} {k' : Ev → Os → Cl → β}, (∀ a b c, R i (k a b c) (k' a b c)) → R i (drawV A T ops fuel listed env objs cl k) (drawV B T ops fuel listed env objs cl k')
  | 0, listed, env, objs, cl, k, k', h => r_lit H (h _ _ _)
  | fuel + 1, listed, env, objs, cl, k, k', h => by
    unfold drawV
    generalize Region.ready Region.Mode.any ops listed = rd
    cases rd with
    | nil => exact h _ _ _
    | cons r rs =>
      dsimp only
      generalize (r :: rs).find? (isPnow T ops env objs) = fd
      cases fd with
      | some n => exact r_lit H (r_orFail H fun o => r_stepV H fun _ _ _ => r_drawV h)
      | none => exact r_allOf H fun n => r_orFail H fun o => r_stepV H fun _ _ _ => r_drawV h
theorem r_stepsJ {T : Tab} {ops : Array Oper} : ∀ {l : List Oper} {env : Ev} {objs : Os} {cl : Cl} {k : Ev → α} {k' : Ev → β}, (∀ a, R i (k a) (k' a)) → R i (stepsJ A T ops l env objs cl k) (stepsJ B T ops l env objs cl k')
  | [], env, objs, cl, k, k', h => h _
  | o :: l, env, objs, cl, k, k', h => r_lit H (r_stepV H fun _ _ _ => r_stepsJ h)
theorem r_joinV {T : Tab} {ops : Array Oper} {t : Nat} {env : Ev} {objs : Os} {cl : Cl} {k : Ev → α} {k' : Ev → β} (h : ∀ a, R i (k a) (k' a)) : R i (joinV A T ops t env objs cl k) (joinV B T ops t env objs cl k') :=
  H.join _ _ _ _ _ (fun _ _ _ hk => r_stepsJ H fun _ => r_orFail H fun _ => r_asB' H hk) fun _ => h _
theorem r_keepE {kept : Nat → Bool} : ∀ {l : List (Nat × Sh)} {env : Ev} {cl : Cl} {k : List AV → Cl → α} {k' : List AV → Cl → β}, (∀ a b, R i (k a b) (k' a b)) → R i (keepE A kept l env cl k) (keepE B kept l env cl k')
  | [], env, cl, k, k', h => h _ _
  | (t, sh) :: l, env, cl, k, k', h => by
    unfold keepE
    refine r_orFail H fun v => ?_
    cases sh <;> first
      | exact r_lit H (r_keepE h)
      | exact r_exp1 H fun _ _ => r_keepE fun _ _ => h _ _
theorem r_keepO : ∀ {l : List (Nat × List Sh)} {objs : Os} {cl : Cl} {k : List (List AV) → Cl → α} {k' : List (List AV) → Cl → β}, (∀ a b, R i (k a b) (k' a b)) → R i (keepO A l objs cl k) (keepO B l objs cl k')
  | [], objs, cl, k, k', h => h _ _
  | (o, shs) :: l, objs, cl, k, k', h => by
    unfold keepO
    split
    · exact r_lit H (r_expC H fun _ _ => r_keepO fun _ _ => h _ _)
    · exact r_lit H (r_keepO fun _ _ => h _ _)
    · exact H.fail _ _
theorem r_flatV {sp : Spec} {env : Ev} {objs : Os} {cl : Cl} {k : List AV → List (List AV) → α} {k' : List AV → List (List AV) → β} (h : ∀ a b, R i (k a b) (k' a b)) : R i (flatV A sp env objs cl k) (flatV B sp env objs cl k') :=
  r_lit H (r_keepE H fun _ _ => r_keepO H fun _ _ => h _ _)
theorem r_canonV {sp : Spec} {env : Ev} {objs : Os} {cl : Cl} {k : Ev → Os → Cl → α} {k' : Ev → Os → Cl → β} (h : ∀ a b c, R i (k a b c) (k' a b c)) : R i (canonV A sp env objs cl k) (canonV B sp env objs cl k') :=
  r_flatV H fun _ _ => h _ _ _
theorem r_shN {sh : Sh} {nm : Nm} {v : AV} {k : AV → α} {k' : AV → β} (h : ∀ b, R i (k b) (k' b)) : R i (shN A sh nm v k) (shN B sh nm v k') := by
  cases sh <;> simp only [shN] <;> first
    | exact r_asOwn' H fun _ _ => r_lit H (h _)
    | exact r_shape H h
theorem r_shE : ∀ {l : List (Nat × Sh)} {vs : List AV} {k : List AV → α} {k' : List AV → β}, (∀ a, R i (k a) (k' a)) → R i (shE A l vs k) (shE B l vs k')
  | [], vs, k, k', h => r_asN' H (h _)
  | (t, sh) :: l, vs, k, k', h => by
    unfold shE
    cases sh <;> first
      | exact r_shE h
      | exact r_asC' H fun _ _ => r_shN H fun _ => r_shE fun _ => h _
theorem r_shC {nm : Nat → Nm} : ∀ {shs : List Sh} {n : Nat} {cs : List AV} {k : List AV → α} {k' : List AV → β}, (∀ a, R i (k a) (k' a)) → R i (shC A nm n shs cs k) (shC B nm n shs cs k')
  | [], n, cs, k, k', h => by simp only [shC]; exact r_asN' H (h _)
  | [sh], n, cs, k, k', h => by
    cases sh <;> simp only [shC] <;> first
      | exact h _
      | exact r_asC' H fun v r => r_shN H fun _ => r_asN' H (h _)
  | sh :: sh2 :: shs, n, cs, k, k', h => by
    have ih := fun r v' => r_shC (nm := nm) (shs := sh2 :: shs) (n := n + 1) (cs := r) (k := fun r' => k (v' :: r')) (k' := fun r' => k' (v' :: r')) fun r' => h _
    cases sh <;> simp only [shC] <;> exact r_asC' H fun v r => r_shN H fun v' => ih r v'
theorem r_shO : ∀ {l : List (Nat × List Sh)} {os : List (List AV)} {k : List (List AV) → α} {k' : List (List AV) → β}, (∀ a, R i (k a) (k' a)) → R i (shO A l os k) (shO B l os k')
  | [], os, k, k', h => r_asN' H (h _)
  | (o, shs) :: l, os, k, k', h => by unfold shO; exact r_asC' H fun _ _ => r_shC H fun _ => r_shO fun _ => h _
theorem r_pickX : ∀ {out : List (Option Nat × Spec)} {j : Nat} {k : Option Nat → Spec → α} {k' : Option Nat → Spec → β}, (∀ a b, R i (k a b) (k' a b)) → R i (pickX A out j k) (pickX B out j k')
  | [], j, k, k', h => H.fail _ _
  | (x, sp) :: l, j, k, k', h => by unfold pickX; cases Nat.beq j (xcode x); exact r_pickX h; exact h _ _
theorem r_findX : ∀ {out : List (Option Nat × Spec)} {y : Option Nat} {k : Spec → α} {k' : Spec → β}, (∀ a, R i (k a) (k' a)) → R i (findX A out y k) (findX B out y k')
  | [], y, k, k', h => H.fail _ _
  | (x, sp) :: l, y, k, k', h => by unfold findX; cases Nat.beq (xcode y) (xcode x); exact r_findX h; exact h _
theorem r_loopV {sp : Spec} {out : List (Option Nat × Spec)} {id : Nat} {env : Ev} {objs : Os} {cl : Cl} {k : Xt → Ev → Os → Cl → α} {k' : Xt → Ev → Os → Cl → β} (h : ∀ a b c d, R i (k a b c d) (k' a b c d)) : R i (loopV A sp out id env objs cl k) (loopV B sp out id env objs cl k') :=
  r_flatV H fun _ _ => H.loop _ _ _ _ _ _ fun _ _ _ => r_pickX H fun _ _ => r_shE H fun _ => r_shO H fun _ => h _ _ _ _
theorem r_roundV {id : Nat} {sp : Spec} {out : List (Option Nat × Spec)} {body : Ev → Os → Cl → (Xt → Ev → Os → Cl → α) → α} {body' : Ev → Os → Cl → (Xt → Ev → Os → Cl → β) → β} {vs : List AV} {os : List (List AV)} {next : List AV → List (List AV) → α} {next' : List AV → List (List AV) → β} {k : Nat → List AV → List (List AV) → α} {k' : Nat → List AV → List (List AV) → β}
    (hb : ∀ env objs cl k k', (∀ a b c d, R i (k a b c d) (k' a b c d)) → R i (body env objs cl k) (body' env objs cl k')) (hn : ∀ a b, R i (next a b) (next' a b)) (h : ∀ a b c, R i (k a b c) (k' a b c)) : R i (roundV A id sp out body vs os next k) (roundV B id sp out body' vs os next' k') :=
  hb _ _ _ _ _ fun e _ _ _ => by
    cases e
    · exact r_cond (r_flatV H hn) (r_findX H fun _ => r_flatV H fun _ _ => h _ _ _)
    · exact r_lit H (r_findX H fun _ => r_flatV H fun _ _ => h _ _ _)
    · exact r_findX H fun _ => r_flatV H fun _ _ => h _ _ _
theorem r_freezeV : ∀ {l : List Nat} {objs : Os} {k : Os → α} {k' : Os → β}, (∀ a, R i (k a) (k' a)) → R i (freezeV A l objs k) (freezeV B l objs k')
  | [], objs, k, k', h => h _
  | o :: l, objs, k, k', h => by
    unfold freezeV
    split
    · exact r_lit H (r_freezeV h)
    · exact r_freezeV h
theorem r_unrV {f : Ev → Os → Cl → (Xt → Ev → Os → Cl → α) → α} {f' : Ev → Os → Cl → (Xt → Ev → Os → Cl → β) → β} (hf : ∀ env objs cl k k', (∀ a b c d, R i (k a b c d) (k' a b c d)) → R i (f env objs cl k) (f' env objs cl k')) : ∀ {n : Nat} {env : Ev} {objs : Os} {cl : Cl} {k : Xt → Ev → Os → Cl → α} {k' : Xt → Ev → Os → Cl → β}, (∀ a b c d, R i (k a b c d) (k' a b c d)) → R i (unrV A f n env objs cl k) (unrV B f' n env objs cl k')
  | 0, env, objs, cl, k, k', h => H.fail _ _
  | n + 1, env, objs, cl, k, k', h => hf _ _ _ _ _ fun e _ _ _ => by
    cases e
    · exact r_unrV hf h
    · exact h _ _ _ _
    · exact h _ _ _ _
theorem r_run {T : Tab} {an : Ann} : ∀ {c : Code} {env : Ev} {objs : Os} {cl : Cl} {k : Xt → Ev → Os → Cl → α} {k' : Xt → Ev → Os → Cl → β}, (∀ a b c d, R i (k a b c d) (k' a b c d)) → R i (run A T an c env objs cl k) (run B T an c env objs cl k')
  | .skip, env, objs, cl, k, k', h => h _ _ _ _
  | .region id ops draw, env, objs, cl, k, k', h => by
    unfold run
    refine r_freezeV H fun objs => r_stillT H fun env objs cl => ?_
    cases draw
    · dsimp only [cond_false]
      split
      · exact r_stepsV H fun _ _ _ => h _ _ _ _
      · exact r_joinV H fun _ => h _ _ _ _
    · exact r_drawV H fun _ _ _ => h _ _ _ _
  | .seq a b, env, objs, cl, k, k', h => by
    unfold run
    refine r_run fun e _ _ _ => ?_
    cases e
    · exact r_cond (r_loopV H h) (r_run h)
    · exact h _ _ _ _
    · exact h _ _ _ _
  | .cond c a b, env, objs, cl, k, k', h => by
    unfold run
    refine r_orFail H fun v => r_asB' H fun v => ?_
    cases v
    · exact r_run h
    · exact r_run h
  | .block id body, env, objs, cl, k, k', h => by
    unfold run
    refine r_run fun e _ _ _ => ?_
    rename_i j
    cases e
    · exact h _ _ _ _
    · rename_i j
      dsimp only
      cases Nat.beq j id
      · exact h _ _ _ _
      · exact h _ _ _ _
    · exact h _ _ _ _
  | .loop body, env, objs, cl, k, k', h => by
    unfold run
    split
    · exact r_loopV H h
    · exact r_unrV H (f := run A T an body) (f' := run B T an body) (fun _ _ _ _ _ h => r_run h) h
  | .exit id, env, objs, cl, k, k', h => h _ _ _ _
  | .ret, env, objs, cl, k, k', h => h _ _ _ _
  | .label _, env, objs, cl, k, k', h => H.fail _ _
  | .goto _, env, objs, cl, k, k', h => H.fail _ _
  | .scope _, env, objs, cl, k, k', h => H.fail _ _
  | .rangeFunc _ _ _ _, env, objs, cl, k, k', h => H.fail _ _
  | .refuse _, env, objs, cl, k, k', h => H.fail _ _
theorem r_retV {T : Tab} : ∀ {l : List ResultVar} {env : Ev} {objs : Os} {k : List AV → α} {k' : List AV → β}, (∀ a, R i (k a) (k' a)) → R i (retV A T l env objs k) (retV B T l env objs k')
  | [], env, objs, k, k', h => h _
  | .tmp t :: l, env, objs, k, k', h => r_orFail H fun _ => r_retV fun _ => h _
  | .cell t ty :: l, env, objs, k, k', h => by
    unfold retV
    refine r_orFail H fun a => ?_
    cases a <;> first | exact H.fail _ _ | skip
    dsimp only
    split
    · exact r_part H fun _ => r_retV fun _ => h _
    · exact r_part H fun _ => r_retV fun _ => h _
    · exact H.fail _ _
theorem r_expR : ∀ {shs : List Sh} {r : Nat} {vs : List AV} {objs : Os} {cl : Cl} {k : List AV → List (Nat × List AV) → Cl → α} {k' : List AV → List (Nat × List AV) → Cl → β}, (∀ a b c, R i (k a b c) (k' a b c)) → R i (expR A r shs vs objs cl k) (expR B r shs vs objs cl k')
  | [], r, vs, objs, cl, k, k', h => r_asN' H (h _ _ _)
  | sh :: shs, r, vs, objs, cl, k, k', h => by
    unfold expR
    refine r_asC' H fun v vs => ?_
    cases sh <;> first
      | exact r_exp1 H fun _ _ => r_expR fun _ _ _ => h _ _ _
      | skip
    cases v <;> first | exact H.fail _ _ | skip
    rename_i o n
    cases n
    · show R i (match objs o with | some (.live cs) => _ | _ => A.fail) (match objs o with | some (.live cs) => _ | _ => B.fail)
      generalize objs o = ob
      cases ob with
      | none => exact H.fail _ _
      | some x => cases x <;> first | exact H.fail _ _ | exact r_expC H fun _ _ => r_expR fun _ _ _ => h _ _ _
    · exact H.fail _ _
theorem r_expO : ∀ {l : List (Nat × List Sh)} {objs : Os} {cl : Cl} {k : List (Nat × List AV) → Os → Cl → α} {k' : List (Nat × List AV) → Os → Cl → β}, (∀ a b c, R i (k a b c) (k' a b c)) → R i (expO A l objs cl k) (expO B l objs cl k')
  | [], objs, cl, k, k', h => h _ _ _
  | (j, shs) :: l, objs, cl, k, k', h => by
    unfold expO
    split
    · exact r_expC H fun _ _ => r_expO fun _ _ _ => h _ _ _
    · exact H.fail _ _
theorem r_runF {T : Tab} {an : Ann} {fn : Func} {body : Code} {rs : List Sh} {osh : List (Nat × List Sh)} {args : List AV} {ins : List (Nat × List AV)} {k : List AV → List (Nat × List AV) → α} {k' : List AV → List (Nat × List AV) → β} (h : ∀ a b, R i (k a b) (k' a b)) : R i (runF A T an fn body rs osh args ins k) (runF B T an fn body rs osh args ins k') := by
  unfold runF
  refine r_lit H (r_run H fun e _ _ _ => ?_)
  cases e
  · exact r_stillT H fun _ _ _ => r_retV H fun _ => r_expO H fun _ _ _ => r_expR H fun _ _ _ => h _ _
  · exact H.fail _ _
  · exact r_stillT H fun _ _ _ => r_retV H fun _ => r_expO H fun _ _ _ => r_expR H fun _ _ _ => h _ _
end
end Go.Proofs.Ythmocicjocjdoaa.V
