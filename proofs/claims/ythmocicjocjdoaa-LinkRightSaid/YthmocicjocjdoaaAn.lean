/- Regions in their one order; regions seen as one Bool. -/
import Derived.Test.YthmocicjocjdoaaAm
set_option linter.unusedVariables false
set_option linter.unusedSimpArgs false
namespace Go.Proofs.Ythmocicjocjdoaa.V
open Go
variable {P : Program} {L : LoopM} {T : Tab} {F : Fr} {E : E3} {objs : Os} {cl : Cl} {w : World}

theorem opV_still {α : Type} {A : Alg α} {d : Nat} {op : Op} {vs : List AV} {k : AV → Os → Cl → α} (hs : isStill T op vs = true) : opV A T d op vs objs cl k = opV A T d op vs objs cl (fun v _ _ => k v objs cl) := by
  unfold opV
  split
  all_goals first
    | rfl
    | (exfalso; simp [isStill] at hs; done)
    | skip
  rename_i fo args ats fv vs'
  split
  · rename_i f caps
    simp only [isStill, Bool.not_eq_true'] at hs
    simp only [hs, cond_false]
  · rfl

theorem guard_env {env : Ev} {t : Nat} {y : AV} (h : env t = some y) : upd env t y = env := by
  funext j
  by_cases hj : t = j
  · subst hj; rw [upd_same, h]
  · rw [upd_ne _ _ hj]

theorem stepV_still {M : Meaning} {ops : Array Oper} {o : Oper} {env : Ev} {k : Ev → Os → Cl → Prop} (hs : (!T.fz (o.dst.getD noDst) && match opvs env o.op.operands.toList with | some vs => isStill T o.op vs | none => o.guard.isSome) = true)
    (h : stepV (PA M) T ops o env objs cl k) : stepV (PA M) T ops o env objs cl (fun env' o' c' => o' = objs ∧ c' = cl ∧ (∃ v, env' = setE env o.dst v) ∧ k env' objs cl) := by
  simp only [Bool.and_eq_true, Bool.not_eq_true'] at hs
  obtain ⟨hfz, hs⟩ := hs
  have run : orFail (PA M) (opvs env o.op.operands.toList) (fun vs => opV (PA M) T (o.dst.getD noDst) o.op vs objs cl fun v objs cl => k (setE env o.dst v) objs cl) → orFail (PA M) (opvs env o.op.operands.toList) (fun vs => opV (PA M) T (o.dst.getD noDst) o.op vs objs cl fun v o' c' => o' = objs ∧ c' = cl ∧ (∃ v', setE env o.dst v = setE env o.dst v') ∧ k (setE env o.dst v) objs cl) := by
    intro h
    simp only [PA_orFail] at h ⊢
    obtain ⟨vs, hv, h⟩ := h
    rw [hv] at hs
    refine ⟨vs, hv, ?_⟩
    rw [opV_still hs] at h ⊢
    have e : (fun (v : AV) (_ : Os) (_ : Cl) => objs = objs ∧ cl = cl ∧ (∃ v', setE env o.dst v = setE env o.dst v') ∧ k (setE env o.dst v) objs cl) = (fun v _ _ => k (setE env o.dst v) objs cl) := by
      funext v _ _
      exact propext ⟨fun h => h.2.2.2, fun h => ⟨rfl, rfl, ⟨v, rfl⟩, h⟩⟩
    rw [e]
    exact h
  unfold stepV at h ⊢
  simp only [hfz, cond_false] at h ⊢
  cases hg : o.guard with
  | none => simp only [hg] at h ⊢; exact run h
  | some gw =>
    obtain ⟨j, want⟩ := gw
    simp only [hg, PA_orFail] at h ⊢
    obtain ⟨t, ht, y, hy, h⟩ := h
    refine ⟨t, ht, _, hy, ?_⟩
    cases hsk : isSkip y with
    | true =>
      rw [hsk] at h
      exact ⟨trivial, trivial, ⟨_, rfl⟩, h⟩
    | false =>
    rw [hsk] at h
    simp only [cond_false, PA_asB] at h ⊢
    obtain ⟨b, rfl, h⟩ := h
    refine ⟨b, rfl, ?_⟩
    have e : upd env t (.bool b) = env := guard_env hy
    cases b <;> cases want <;> simp only [cond_true, cond_false, e] at h ⊢
    · simpa only [PA_orFail] using run (by simpa only [PA_orFail] using h)
    · exact ⟨trivial, trivial, ⟨_, rfl⟩, h⟩
    · exact ⟨trivial, trivial, ⟨_, rfl⟩, h⟩
    · simpa only [PA_orFail] using run (by simpa only [PA_orFail] using h)

def dstIn (n : Nat) (ops : Array Oper) : Bool := ops.all fun o => match o.dst with | some t => Nat.blt t n | none => true
theorem dstIn_spec {n : Nat} {ops : Array Oper} (h : dstIn n ops = true) {i : Nat} {o : Oper} (hi : ops[i]? = some o) {t : Nat} (ht : o.dst = some t) : t < n := by
  have := Array.all_eq_true_iff_forall_mem.1 h o (Array.mem_of_getElem? hi)
  rw [ht] at this
  simpa using this

theorem wpOps_of_op {ops : Array Oper} {i : Nat} {o : Oper} (hi : ops[i]? = some o) {rest : List Nat} {Q : Exit → Act → World → Prop} {a : Act} (h : wpOp P ops Q i (wpOps P ops Q rest) a w) : wpOps P ops Q (i :: rest) a w := by
  unfold wpOp at h
  simp only [wpOps, hi] at h ⊢
  exact h

theorem stepsV_sound (hT : TabOK P T) (hF : FnOK P T) {ops : Array Oper} {Q : Exit → Act → World → Prop} {n : Nat} (hd : dstIn n ops = true) :
    ∀ (l : List Oper) (i : Nat) {E : E3} {objs : Os} {cl : Cl} {w : World} {env : Ev} {a : Act} {k : Ev → Os → Cl → Prop}, (∀ j, l[j]? = ops[i + j]?) → WI F E objs cl w → EnvOK E env a → a.defers = [] → a.tmps.size = n → stepsV (PA (SM P L)) T ops l env objs cl k →
      (∀ E' env' objs' cl' a' w', k env' objs' cl' → WI F E' objs' cl' w' → EnvOK E' env' a' → a'.defers = [] → a'.tmps.size = n → Q .normal a' w') → wpOps P ops Q (List.range' i l.length) a w
  | [], i, E, objs, cl, w, env, a, k, hl, hI, hE, hdf, hn, h, hQ => by
    simpa [wpOps] using hQ E env objs cl a w h hI hE hdf hn
  | o :: l, i, E, objs, cl, w, env, a, k, hl, hI, hE, hdf, hn, h, hQ => by
    have hi : ops[i]? = some o := by simpa using (hl 0).symm
    rw [List.length_cons, List.range'_succ]
    refine wpOps_of_op hi (stepV_sound hT hF hi hI hE hdf (fun t ht => hn ▸ dstIn_spec hd hi ht) h ?_)
    intro E' env' objs' cl' a' w' hk hW hE' hdf' hn' _ _
    exact stepsV_sound hT hF hd l (i + 1) (fun j => by have := hl (j + 1); simpa [Nat.add_assoc, Nat.add_comm 1 j] using this) hW hE' hdf' (hn'.trans hn) hk hQ

theorem setE_eq {env : Ev} {d : Option Nat} {v : AV} {t : Nat} (h : d ≠ some t) : setE env d v t = env t := by
  cases d with
  | none => rfl
  | some d => exact upd_ne _ _ (fun e => h (by rw [e]))
theorem clrE_eq : ∀ {l : List Oper} {env : Ev} {t : Nat}, (∀ o, o ∈ l → o.dst ≠ some t) → clrE l env t = env t
  | [], env, t, _ => rfl
  | o :: l, env, t, h => by
    simp only [clrE]
    rw [clrE_eq fun o' h' => h o' (List.mem_cons_of_mem _ h'), setE_eq (h o (List.mem_cons_self ..))]
theorem clrE_some : ∀ {l : List Oper} {env : Ev} {t : Nat} {x : AV}, clrE l env t = some x → x = .undef ∧ (∃ o, o ∈ l ∧ o.dst = some t) ∨ (env t = some x ∧ ∀ o, o ∈ l → o.dst ≠ some t)
  | [], env, t, x, h => .inr ⟨h, by simp⟩
  | o :: l, env, t, x, h => by
    simp only [clrE] at h
    rcases clrE_some h with ⟨h1, o', h2, h3⟩ | ⟨h1, h2⟩
    · exact .inl ⟨h1, o', List.mem_cons_of_mem _ h2, h3⟩
    · by_cases ho : o.dst = some t
      · left
        rw [ho] at h1
        simp only [setE, upd_same, Option.some.injEq] at h1
        exact ⟨h1.symm, o, List.mem_cons_self .., ho⟩
      · right
        rw [setE_eq ho] at h1
        refine ⟨h1, ?_⟩
        intro o' ho'
        rcases List.mem_cons.1 ho' with rfl | h'
        · exact ho
        · exact h2 o' h'

theorem stepsJ_sound (hT : TabOK P T) (hF : FnOK P T) {ops : Array Oper} {Q : Exit → Act → World → Prop} {n : Nat} (hd : dstIn n ops = true) {objs : Os} {cl : Cl} :
    ∀ (l : List Oper) (i : Nat) {E : E3} {w : World} {env : Ev} {a : Act} {k : Ev → Prop}, (∀ j, l[j]? = ops[i + j]?) → WI F E objs cl w → EnvOK E env a → a.defers = [] → a.tmps.size = n → stepsJ (PA (SM P L)) T ops l env objs cl k →
      (∀ E' env' a' w', k env' → WI F E' objs cl w' → EnvOK E' env' a' → a'.defers = [] → a'.tmps.size = n → E.le E' → (∀ t, (∀ o, o ∈ l → o.dst ≠ some t) → a'.tmps.getD t undef = a.tmps.getD t undef) → Q .normal a' w') → wpOps P ops Q (List.range' i l.length) a w
  | [], i, E, w, env, a, k, hl, hI, hE, hdf, hn, h, hQ => by
    have h1 := hQ E env a w h hI hE hdf hn (E3.le.refl E) (fun _ _ => rfl)
    simpa [wpOps] using h1
  | o :: l, i, E, w, env, a, k, hl, hI, hE, hdf, hn, h, hQ => by
    have hi : ops[i]? = some o := by simpa using (hl 0).symm
    rw [List.length_cons, List.range'_succ]
    simp only [stepsJ, PA_lit] at h
    refine wpOps_of_op hi (stepV_sound hT hF hi hI hE hdf (fun t ht => hn ▸ dstIn_spec hd hi ht) (stepV_still h.1 h.2) ?_)
    rintro E' env' objs' cl' a' w' ⟨rfl, rfl, _, hk⟩ hW hE' hdf' hn' hle hoth
    refine stepsJ_sound hT hF hd l (i + 1) (fun j => by have := hl (j + 1); simpa [Nat.add_assoc, Nat.add_comm 1 j] using this) hW hE' hdf' (hn'.trans hn) hk ?_
    intro E2 env2 a2 w2 g1 g2 g3 g4 g5 g6 g7
    refine hQ E2 env2 a2 w2 g1 g2 g3 g4 g5 (hle.trans g6) ?_
    intro t ht
    rw [g7 t fun o' h' => ht o' (List.mem_cons_of_mem _ h'), hoth t (ht o (List.mem_cons_self ..))]

theorem region_sound (hT : TabOK P T) (hF : FnOK P T) {id : Nat} {ops : Array Oper} {Q : Exit → Act → World → Prop} {a : Act} {env : Ev} {k : Ev → Os → Cl → Prop} {n : Nat} (hd : dstIn n ops = true) (hI : WI F E objs cl w) (hE : EnvOK E env a) (hdf : a.defers = []) (hn : a.tmps.size = n)
    (h : stepsV (PA (SM P L)) T ops ops.toList env objs cl k) (hQ : ∀ E' env' objs' cl' a' w', k env' objs' cl' → WI F E' objs' cl' w' → EnvOK E' env' a' → a'.defers = [] → a'.tmps.size = n → Q .normal a' w') : (Code.region id ops false).wp P Q a w := by
  refine wp_region ?_
  have := stepsV_sound hT hF hd ops.toList 0 (fun j => by simp) hI hE hdf hn h hQ
  simpa [List.range_eq_range'] using this

theorem joinV_sound (hT : TabOK P T) (hF : FnOK P T) {id : Nat} {ops : Array Oper} {t : Nat} {Q : Exit → Act → World → Prop} {a : Act} {env : Ev} {k : Ev → Prop} {n : Nat} (hd : dstIn n ops = true) (hI : WI F E objs cl w) (hE : EnvOK E env a) (hdf : a.defers = []) (hn : a.tmps.size = n)
    (h : joinV (PA (SM P L)) T ops t env objs cl k) (hQ : ∀ E' env' a' w', k env' → WI F E' objs cl w' → EnvOK E' env' a' → a'.defers = [] → a'.tmps.size = n → Q .normal a' w') : (Code.region id ops false).wp P Q a w := by
  refine wp_region ?_
  obtain ⟨b, hr, hk⟩ := h
  have := stepsJ_sound (objs := objs) (cl := cl) hT hF hd ops.toList 0 (Q := Q) (fun j => by simp) hI hE hdf hn hr ?_
  · simpa [List.range_eq_range'] using this
  · intro E' env' a' w' hb hW hE' hdf' hn' hle hoth
    simp only [PA_orFail, PA_asB] at hb
    obtain ⟨y, hy, b', rfl, rfl⟩ := hb
    refine hQ E' _ a' w' hk hW ?_ hdf' hn'
    intro t' x hx
    by_cases htt : t = t'
    · subst htt
      rw [upd_same] at hx
      injection hx with hx
      subst hx
      exact hE' t _ hy
    · rw [upd_ne _ _ htt] at hx
      rcases clrE_some hx with ⟨rfl, o, ho, hod⟩ | ⟨h1, h2⟩
      · obtain ⟨i, hi⟩ := List.getElem?_of_mem ho
        refine ⟨hn' ▸ dstIn_spec hd (i := i) (by simpa using hi) hod, by simp [Rep]⟩
      · obtain ⟨g1, g2⟩ := hE t' x h1
        refine ⟨by omega, ?_⟩
        rw [hoth t' h2]
        exact g2.mono hle
end Go.Proofs.Ythmocicjocjdoaa.V
