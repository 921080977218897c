/- Regions, code and functions are sound. -/
import Derived.Test.YthmocicjocjdoaaAl
set_option linter.unusedVariables false
set_option linter.unusedSimpArgs false
namespace Go.Proofs.Ythmocicjocjdoaa.V
open Go
variable {P : Program} {L : LoopM} {T : Tab} {F : Fr} {E : E3} {objs : Os} {cl : Cl} {w : World}

theorem cv1_rep {v : Value} {x : AV} (h : cv1 v = some x) : Rep E x v ∧ x.one = true ∧ v.oneCell' = true := by
  unfold cv1 at h
  split at h
  · injection h with h; subst h; exact ⟨rep_int, rfl, rfl⟩
  · injection h with h; subst h; exact ⟨rep_bool, rfl, rfl⟩
  · rename_i s
    cases hb : Nat.ble s.data.toList.length 9223372036854775807 with
    | true =>
      rw [hb] at h
      simp only [cond_true, Option.some.injEq] at h
      subst h
      refine ⟨?_, rfl, rfl⟩
      simp only [Rep]
      exact ⟨trivial, by simpa [maxL] using hb⟩
    | false => rw [hb] at h; cases h
  · injection h with h; subst h; exact ⟨by simp [Rep], rfl, rfl⟩
  · injection h with h; subst h
    refine ⟨?_, rfl, rfl⟩
    simp only [Rep]
    exact ⟨none, 0, 0, rfl, rfl, Nat.le_refl _, Nat.zero_le _, fun h => absurd rfl h, fun _ => ⟨rfl, rfl, trivial⟩, by simp⟩
  · cases h
theorem cvL_rep : ∀ {l : List Value} {r : List AV}, cvL l = some r → RepL E r l
  | [], r, h => by simp only [cvL, Option.some.injEq] at h; subst h; simp [RepL]
  | v :: l, r, h => by
    simp only [cvL] at h
    split at h
    · rename_i x r' h1 h2
      injection h with h; subst h
      obtain ⟨g1, g2, g3⟩ := cv1_rep (E := E) h1
      simp only [RepL]
      exact ⟨v, l, rfl, g2, g3, g1, cvL_rep h2⟩
    · cases h
theorem cv_rep {v : Value} {x : AV} (h : cv v = some x) : Rep E x v := by
  unfold cv at h
  split at h
  · rename_i cs
    cases hc : cvL cs.toList with
    | none => rw [hc] at h; cases h
    | some r =>
      rw [hc] at h
      simp only [Option.map_some, Option.some.injEq] at h
      subst h
      simp only [Rep]
      exact ⟨cs.toList, by simp, cvL_rep hc⟩
  · exact (cv1_rep h).1

def EnvOK (E : E3) (env : Ev) (a : Act) : Prop := ∀ t x, env t = some x → t < a.tmps.size ∧ Rep E x (a.tmps.getD t undef)
theorem EnvOK.mono {E E' : E3} {env : Ev} {a : Act} (h : EnvOK E env a) (hle : E.le E') : EnvOK E' env a := fun t x hx => ⟨(h t x hx).1, (h t x hx).2.mono hle⟩
theorem opv_rep {env : Ev} {a : Act} (h : EnvOK E env a) {x : Operand} {v : AV} (hx : opv env x = some v) : Rep E v (a.eval x) := by
  cases x with
  | tmp t => exact (h t v hx).2
  | const c => exact cv_rep hx
  | global g => cases hx
  | func f =>
    simp only [opv, Option.some.injEq] at hx
    subst hx
    simp only [Rep]
    exact ⟨[], rfl, rfl, by simp [RepL]⟩
theorem opvs_rep {env : Ev} {a : Act} (h : EnvOK E env a) : ∀ {l : List Operand} {vs : List AV}, opvs env l = some vs → RepT E vs (l.map a.eval)
  | [], vs, hx => by simp only [opvs, Option.some.injEq] at hx; subst hx; simp [RepT]
  | x :: l, vs, hx => by
    simp only [opvs] at hx
    split at hx
    · rename_i v r h1 h2
      injection hx with hx; subst hx
      simp only [RepT, List.map_cons]
      exact ⟨_, _, rfl, opv_rep h h1, opvs_rep h h2⟩
    · cases hx

theorem put_size (a : Act) (d : Option Tmp) (v : Value) : (a.put d v).tmps.size = a.tmps.size := by cases d <;> simp [Act.put]
theorem put_defs (a : Act) (d : Option Tmp) (v : Value) : (a.put d v).defers = a.defers := by cases d <;> rfl
theorem put_other (a : Act) (d : Option Tmp) (v : Value) : ∀ t, d ≠ some t → (a.put d v).tmps.getD t undef = a.tmps.getD t undef := by
  intro t ht
  cases d with
  | none => rfl
  | some d =>
    have hdt : d ≠ t := fun e => ht (by rw [e])
    simp [Act.put, Array.getD_eq_getD_getElem?, Array.getElem?_setIfInBounds_ne hdt]
theorem EnvOK.put {env : Ev} {a : Act} (h : EnvOK E env a) {d : Option Tmp} (hd : ∀ t, d = some t → t < a.tmps.size) {x : AV} {v : Value} (hx : Rep E x v) : EnvOK E (setE env d x) (a.put d v) := by
  cases d with
  | none => exact h
  | some d =>
    intro t y hy
    have hlt := hd d rfl
    simp only [setE] at hy
    by_cases hdt : d = t
    · subst hdt
      rw [upd_same] at hy
      injection hy with hy
      subst hy
      refine ⟨by simpa [Act.put] using hlt, ?_⟩
      simpa [Act.put, hlt] using hx
    · rw [upd_ne _ _ hdt] at hy
      obtain ⟨h1, h2⟩ := h t y hy
      refine ⟨by simpa [Act.put] using h1, ?_⟩
      have : (a.tmps.setIfInBounds d v).getD t undef = a.tmps.getD t undef := by
        simp [Array.getD_eq_getD_getElem?, Array.getElem?_setIfInBounds_ne hdt]
      simp only [Act.put]
      rw [this]
      exact h2

theorem stepV_sound (hT : TabOK P T) (hF : FnOK P T) {ops : Array Oper} {i : Nat} {o : Oper} (hi : ops[i]? = some o) (hI : WI F E objs cl w) {env : Ev} {a : Act} (hE : EnvOK E env a) (hdf : a.defers = []) (hd : ∀ t, o.dst = some t → t < a.tmps.size)
    {k : Ev → Os → Cl → Prop} (h : stepV (PA (SM P L)) T ops o env objs cl k) {K : Act → World → Prop} {Q : Exit → Act → World → Prop}
    (hn : ∀ E' env' objs' cl' a' w', k env' objs' cl' → WI F E' objs' cl' w' → EnvOK E' env' a' → a'.defers = [] → a'.tmps.size = a.tmps.size → E.le E' → (∀ t, o.dst ≠ some t → a'.tmps.getD t undef = a.tmps.getD t undef) → K a' w') : wpOp P ops Q i K a w := by
  have run : ∀ env, EnvOK E env a → orFail (PA (SM P L)) (opvs env o.op.operands.toList) (fun vs => opV (PA (SM P L)) T (o.dst.getD noDst) o.op vs objs cl fun v objs cl => bif T.fz (o.dst.getD noDst) then stillR (PA (SM P L)) (rowsOf v) v cl fun v cl => k (setE env o.dst v) objs cl else k (setE env o.dst v) objs cl) → o.wp P a w K Q := by
    intro env hE h
    simp only [PA_orFail] at h
    obtain ⟨vs, hv, h⟩ := h
    refine opV_sound hT hF hI (opvs_rep hE hv) h ?_
    intro E' x v objs' cl' w' hk hle hr hW
    cases hfz : T.fz (o.dst.getD noDst) with
    | true =>
      rw [hfz] at hk
      simp only [cond_true] at hk
      obtain ⟨E'', x', cl'', g1, g2, g3, g4⟩ := stillR_sound hW hr hk
      exact hn E'' _ objs' cl'' _ w' g1 g4 ((hE.mono (hle.trans g2)).put hd g3) (by rw [put_defs]; exact hdf) (put_size _ _ _) (hle.trans g2) (put_other _ _ _)
    | false =>
      rw [hfz] at hk
      exact hn E' _ objs' cl' _ w' hk hW ((hE.mono hle).put hd hr) (by rw [put_defs]; exact hdf) (put_size _ _ _) hle (put_other _ _ _)
  have skip : ∀ env, EnvOK E env a → k (setE env o.dst (.tup [])) objs cl → K (a.put o.dst undef) w := by
    intro env hE h
    exact hn E _ objs cl _ w h hI (hE.put hd (by simp [Rep, RepT, undef])) (by rw [put_defs]; exact hdf) (put_size _ _ _) (E3.le.refl E) (put_other _ _ _)
  unfold wpOp
  simp only [hi]
  unfold stepV at h
  cases hg : o.guard with
  | none =>
    simp only [hg] at h
    simp only [Region.wanted, hg, if_true]
    exact .inl (run env hE h)
  | some gw =>
    obtain ⟨j, want⟩ := gw
    simp only [hg, PA_orFail] at h
    obtain ⟨t, ht, y, hy, h⟩ := h
    cases hsk : isSkip y with
    | true =>
      have hy2 := isSkip_eq hsk
      subst hy2
      obtain ⟨h1, h2⟩ := hE t _ hy
      have h3 : a.tmps[t]? = some undef := by
        simp only [Rep, RepT] at h2
        obtain ⟨vs, e1, e2⟩ := h2
        subst e2
        rw [show (Value.tuple [].toArray : Value) = undef from rfl] at e1
        rw [← e1]
        simp [h1]
      have hyield : yielded ops a.tmps j = none := by
        unfold yielded
        have : (ops[j]?).bind (·.dst) = some t := by
          cases ho : ops[j]? with
          | none => rw [ho] at ht; cases ht
          | some g => rw [ho] at ht; exact ht
        rw [this]
        simp only [Option.bind_some, h3]
        rfl
      simp only [Region.wanted, hg, hyield]
      rw [hsk] at h
      exact (if_neg (by simp) : (if ((none : Option Bool) == some want) = true then _ else _) = _) ▸ skip _ hE h
    | false =>
    rw [hsk] at h
    simp only [cond_false, PA_asB] at h
    obtain ⟨b, rfl, h⟩ := h
    obtain ⟨h1, h2⟩ := hE t _ hy
    simp only [Rep] at h2
    have hyield : yielded ops a.tmps j = some b := by
      unfold yielded
      have : (ops[j]?).bind (·.dst) = some t := by
        cases ho : ops[j]? with
        | none => rw [ho] at ht; cases ht
        | some g => rw [ho] at ht; exact ht
      rw [this]
      have h3 : a.tmps[t]? = some (.bool b) := by
        rw [← h2]
        simp [h1]
      simp only [Option.bind_some, h3]
    have hE' : EnvOK E (upd env t (.bool b)) a := by
      intro t' x' hx'
      by_cases htt : t = t'
      · subst htt
        rw [upd_same] at hx'
        injection hx' with hx'
        subst hx'
        exact ⟨h1, by rw [h2]; exact rep_bool⟩
      · rw [upd_ne _ _ htt] at hx'
        exact hE t' x' hx'
    simp only [Region.wanted, hg, hyield]
    cases b <;> cases want <;> simp only [cond_true, cond_false] at h
    · exact (if_pos rfl : (if (some false == some false) = true then _ else _) = _) ▸ .inl (run _ hE' (by simpa only [PA_orFail] using h))
    · simp only [show ((some false : Option Bool) == some true) = false from rfl, Bool.false_eq_true, if_false]
      exact skip _ hE' h
    · simp only [show ((some true : Option Bool) == some false) = false from rfl, Bool.false_eq_true, if_false]
      exact skip _ hE' h
    · exact (if_pos rfl : (if (some true == some true) = true then _ else _) = _) ▸ .inl (run _ hE' (by simpa only [PA_orFail] using h))
theorem EnvOK.fz {E' : E3} {env : Ev} {a : Act} (h : EnvOK E env a) (hle : E.le E') {q : Nm} {l : List AV} (hs : ∀ sz v, Rep E (.sq q sz) v → Rep E' (.lst .ro sz l) v) : EnvOK E' (fun t => (env t).map (fzW q l)) a := by
  intro t x hx
  simp only [Option.map_eq_some_iff] at hx
  obtain ⟨y, hy, rfl⟩ := hx
  exact ⟨(h t y hy).1, rep_fzW hle hs (h t y hy).2⟩
theorem stillV_sound {M : Meaning} {a : Act} : ∀ {qs : List Nm} {E : E3} {env : Ev} {objs : Os} {cl : Cl} {k : Ev → Os → Cl → Prop}, WI F E objs cl w → EnvOK E env a → stillV (PA M) qs env objs cl k →
    ∃ E' env' objs' cl', k env' objs' cl' ∧ E.le E' ∧ WI F E' objs' cl' w ∧ EnvOK E' env' a
  | [], E, env, objs, cl, k, hI, hE, h => ⟨E, env, objs, cl, h, E3.le.refl E, hI, hE⟩
  | q :: qs, E, env, objs, cl, k, hI, hE, h => by
    simp only [stillV, PA_asRow, PA_lit] at h
    obtain ⟨l, hq, hf, h⟩ := h
    obtain ⟨E', h1, h2, h3, h4, h5⟩ := hI.row_still hq hf
    have h5' : ∀ sz v, Rep E' (.sq q sz) v → Rep E' (.lst .ro sz l) v := fun sz v hv => h5 sz v (by simp only [Rep] at hv ⊢; rw [← h3]; exact hv)
    obtain ⟨E'', env', objs', cl', g1, g2, g3, g4⟩ := stillV_sound (h4.fz_objs h5') (hE.fz h1 h5) h
    exact ⟨E'', env', objs', cl', g1, h1.trans g2, g3, g4⟩
theorem stillT_sound {M : Meaning} {a : Act} : ∀ {ts : List Nat} {E : E3} {env : Ev} {objs : Os} {cl : Cl} {k : Ev → Os → Cl → Prop}, WI F E objs cl w → EnvOK E env a → stillT (PA M) ts env objs cl k →
    ∃ E' env' objs' cl', k env' objs' cl' ∧ E.le E' ∧ WI F E' objs' cl' w ∧ EnvOK E' env' a
  | [], E, env, objs, cl, k, hI, hE, h => ⟨E, env, objs, cl, h, E3.le.refl E, hI, hE⟩
  | t :: ts, E, env, objs, cl, k, hI, hE, h => by
    simp only [stillT] at h
    obtain ⟨E', env', objs', cl', g1, g2, g3, g4⟩ := stillV_sound hI hE h
    obtain ⟨E'', env'', objs'', cl'', q1, q2, q3, q4⟩ := stillT_sound g3 g4 g1
    exact ⟨E'', env'', objs'', cl'', q1, g2.trans q2, q3, q4⟩
end Go.Proofs.Ythmocicjocjdoaa.V
