/- A run of a function's body is a contract. -/
import Derived.Test.YthehhlaomiifnaaVs
set_option linter.unusedVariables false
set_option linter.unusedSimpArgs false
namespace Go.Proofs.Ythehhlaomiifnaa.V
open Go
variable {P : Program} {L : LoopM} {T : Tab} {M : Meaning} {F : Fr} {E E1 E2 : E3} {objs o1 o2 : Os} {cl c1 c2 : Cl} {w : World}

def rvg (tmps : Array Value) : ResultVar → Go.Sem Value
  | .tmp t => pure (tmps.getD t undef)
  | .cell c t => do loadVar t (← asAddr (tmps.getD c undef))

theorem retV_sound (hT : TabOK P T) (hI : WI F E objs cl w) {env : Ev} {a : Act} (hE : EnvOK E env a) : ∀ (l : List ResultVar) (k : List AV → Prop), retV (PA M) T l env objs k → ∃ vs us, k vs ∧ RepT E vs us ∧ (l.mapM (rvg a.tmps)).run P w = .ok us w
  | [], k, h => ⟨[], [], h, by simp [RepT], by simp⟩
  | .tmp t :: l, k, h => by
    simp only [retV, PA_orFail] at h
    obtain ⟨v, hv, h⟩ := h
    obtain ⟨vs, us, g1, g2, g3⟩ := retV_sound hT hI hE l _ h
    refine ⟨v :: vs, a.tmps.getD t undef :: us, g1, ?_, ?_⟩
    · simp only [RepT]; exact ⟨_, _, rfl, (hE t v hv).2, g2⟩
    · simp [List.mapM_cons, rvg, g3]
  | .cell t ty :: l, k, h => by
    simp only [retV, PA_orFail] at h
    obtain ⟨v, hv, h⟩ := h
    have hr := (hE t v hv).2
    split at h
    · rename_i o i
      simp only [Rep] at hr
      obtain ⟨b, hb, he⟩ := hr
      have key : ∀ cs, (objs o = some (.live cs) ∨ objs o = some (.frz cs)) → part (PA M) (T.ty ty) cs i (fun v => retV (PA M) T l env objs fun r => k (v :: r)) →
          ∃ vs us, k vs ∧ RepT E vs us ∧ ((ResultVar.cell t ty :: l).mapM (rvg a.tmps)).run P w = .ok us w := by
        intro cs hcs h
        obtain ⟨b', us, hb', hl, hc⟩ := hI.objK o cs hcs
        rw [hb] at hb'
        cases hb'
        obtain ⟨x', v', g1, g2, g3⟩ := part_sound (W := (· = w)) (off := 0) hT hl (by simpa using hc) h
        obtain ⟨vs, us', q1, q2, q3⟩ := retV_sound hT hI hE l _ g1
        refine ⟨x' :: vs, v' :: us', q1, ?_, ?_⟩
        · simp only [RepT]; exact ⟨_, _, rfl, g2, q2⟩
        · have g3 := g3 w rfl
          simp only [Nat.zero_add] at g3
          have : (rvg a.tmps (.cell t ty)).run P w = .ok v' w := by
            show (do loadVar ty (← asAddr (a.tmps.getD t undef))).run P w = _
            rw [he]
            simp [asAddr, g3]
          simp [List.mapM_cons, this, q3]
      split at h
      · rename_i cs hcs; exact key cs (.inl hcs) h
      · rename_i cs hcs; exact key cs (.inr hcs) h
      · exact h.elim
    · exact h.elim

def retOf (us : List Value) : Value := match us with | [u] => u | us => .tuple us.toArray
theorem results_run {fn : Func} {a : Act} {us : List Value} (h : (fn.results.toList.mapM (rvg a.tmps)).run P w = .ok us w) : (results fn a.tmps).run P w = .ok (retOf us) w := by
  have e : (fun r : ResultVar => match r with | .tmp t => (pure (a.tmps.getD t undef) : Go.Sem Value) | .cell c t => do loadVar t (← asAddr (a.tmps.getD c undef))) = rvg a.tmps := by
    funext r; cases r <;> rfl
  unfold results
  rw [Array.mapM_eq_mapM_toList]
  simp only [Sem.run_bind]
  have h' : (List.toArray <$> fn.results.toList.mapM (rvg a.tmps)).run P w = .ok us.toArray w := by
    rw [← bind_pure_comp]
    simp [h]
  have e2 : (List.toArray <$> List.mapM (fun r : ResultVar => match r with | .tmp t => (pure (a.tmps.getD t undef) : Go.Sem Value) | .cell c t => do loadVar t (← asAddr (a.tmps.getD c undef))) fn.results.toList).run P w = .ok us.toArray w := by rw [e]; exact h'
  erw [e2]
  simp only [Result.andThen_ok, Sem.run_pure]
  rcases us with _ | ⟨u, _ | ⟨u2, us⟩⟩ <;> simp [retOf]

theorem RepT.imp {E E' : E3} : ∀ {l : List AV} {us : List Value}, RepT E l us → (∀ x, x ∈ l → ∀ v, Rep E x v → Rep E' x v) → RepT E' l us
  | [], us, h, _ => by simpa [RepT] using h
  | x :: l, us, h, hi => by
    simp only [RepT] at h ⊢
    obtain ⟨v, r, rfl, h1, h2⟩ := h
    exact ⟨v, r, rfl, hi x (List.mem_cons_self ..) v h1, RepT.imp h2 fun y hy => hi y (List.mem_cons_of_mem _ hy)⟩

theorem nmsI_get : ∀ {ins : List (Nat × List AV)} {q : Nm}, q ∈ nmsI ins → ∃ j cs, (j, cs) ∈ ins ∧ q ∈ nmsOf cs
  | [], q, h => by simp [nmsI] at h
  | p :: l, q, h => by
    simp only [nmsI, List.mem_append] at h
    rcases h with h | h
    · exact ⟨p.1, p.2, List.mem_cons_self .., h⟩
    · obtain ⟨j, cs, h1, h2⟩ := nmsI_get h
      exact ⟨j, cs, List.mem_cons_of_mem _ h1, h2⟩
theorem nmsI_mem : ∀ {ins : List (Nat × List AV)} {q : Nm} {j : Nat} {cs : List AV}, (j, cs) ∈ ins → q ∈ nmsOf cs → q ∈ nmsI ins
  | p :: l, q, j, cs, h, hq => by
    simp only [nmsI, List.mem_append]
    rcases List.mem_cons.1 h with rfl | h
    · exact .inl hq
    · exact .inr (nmsI_mem h hq)
theorem nmOf_eq {x : AV} {q : Nm} (h : q ∈ nmOf x) : ∃ wd l, x = .lst (.own q) wd l := by
  cases x with
  | lst m wd ll =>
    cases m with
    | own p => simp only [nmOf, List.mem_singleton] at h; subst h; exact ⟨_, _, rfl⟩
    | _ => simp [nmOf] at h
  | _ => simp [nmOf] at h
theorem nodupN_spec : ∀ {l : List Nat}, nodupN l = true → l.Nodup
  | [], _ => List.nodup_nil
  | x :: l, h => by
    obtain ⟨h1, h2⟩ := nodupN_cons h
    exact List.nodup_cons.2 ⟨fun hm => h1 x hm rfl, nodupN_spec h2⟩

theorem runF_sound (hT : TabOK P T) (hF : FnOK P T) (hm : P.follows .mixedOrders = true) {f : Nat} {fn : Func} {body : Code} {an : Ann} {B : Nat → Code} {rs : List Sh} {osh : List (Nat × List Sh)} {args : List AV} {ins : List (Nat × List AV)} {Q : List AV → List (Nat × List AV) → Prop}
    (hfn : P.funcs[f]? = some fn) (hb : fn.body = some body) (hc : codeOK fn.ntmps body = true) (hl : loopsIn an B body) (hal : args.length ≤ fn.ntmps) (h : runF (PA (SM P (LSem P fn.ntmps an B))) T an fn body rs osh args ins Q) : Sem P f args ins Q := by
  intro F E cl w vals hw0 hS0 hmu0 hr hI hN
  simp only [runF, PA_lit, Bool.and_eq_true] at h
  obtain ⟨⟨⟨⟨hins, hargs⟩, hnd⟩, hosh⟩, h⟩ := h
  have hins' : ∀ j cs, (j, cs) ∈ ins → j < 64 ∧ cs.all fitC = true := fun j cs hp => by
    have := List.all_eq_true.1 hins _ hp
    simp only [Bool.and_eq_true, Nat.blt_eq] at this
    exact this
  have hosh' : ∀ p, p ∈ osh → p.1 < 64 := fun p hp => by
    have := List.all_eq_true.1 hosh _ hp
    simpa using this
  have hI0 := hI.restrict (objs' := objsOf ins) (cl' := ofN (nmsI ins)) (fun _ _ h => h)
    (fun q x hq => by
      obtain ⟨h1, h2⟩ := ofN_true hq
      obtain ⟨j, cs, h3, h4⟩ := nmsI_get h2
      obtain ⟨p, wd, l, h5⟩ := nmsOf_get h4
      exact ⟨h1, (hN j cs h3 p q wd l h5).2⟩)
    (fun o cs ho => ⟨(hins' o cs (objsOf_mem ho)).2, fun q hq => ofN_mem (nmsI_mem (objsOf_mem ho) hq)⟩)
  have hlen : args.length = vals.size := by
    have : ∀ (l : List AV) (us : List Value), RepT E l us → l.length = us.length := by
      intro l
      induction l with
      | nil => intro us h; simp only [RepT] at h; rw [h]; rfl
      | cons x l ih => intro us h; simp only [RepT] at h; obtain ⟨v, r, rfl, _, h2⟩ := h; simp [ih r h2]
    simpa using this args vals.toList hr
  have hE0 : EnvOK (E.cut (objsOf ins) (ofN (nmsI ins))) (fun j => args[j]?) ⟨vals ++ Array.replicate (fn.ntmps - vals.size) undef, []⟩ := by
    intro t x hx
    obtain ⟨v, hv, hrep⟩ := hr.get t x hx
    have htl : t < vals.size := by
      have := (List.getElem?_eq_some_iff.1 hx).1
      omega
    refine ⟨by simp; omega, ?_⟩
    have e : (vals ++ Array.replicate (fn.ntmps - vals.size) undef).getD t undef = v := by
      have : (vals ++ Array.replicate (fn.ntmps - vals.size) undef)[t]? = some v := by
        rw [Array.getElem?_append_left htl]; simpa using hv
      simp [Array.getD_eq_getD_getElem?, this]
    show Rep _ x ((vals ++ Array.replicate (fn.ntmps - vals.size) undef).getD t undef)
    rw [e]
    have hfit := List.all_eq_true.1 hargs x (List.mem_of_getElem? hx)
    unfold fitA at hfit
    split at hfit
    · rename_i o i
      simp only [Rep] at hrep ⊢
      obtain ⟨b, hb, e⟩ := hrep
      refine ⟨b, ?_, e⟩
      have := hI.mdom o b hb
      simp only [E3.cut]
      rw [if_pos (by cases hh : objsOf ins o with | none => exact absurd hh this | some _ => rfl)]
      exact hb
    · exact Rep.flat_mono (E := E) (F := E.cut (objsOf ins) (ofN (nmsI ins))) (fun _ _ _ h => h) hfit hrep
  refine calls_of_wp hfn hb (run_sound hT hF hm body hc hl F _ _ _ _ _ w _ _ ?_ hI0 hE0 rfl (by simp; omega) h ?_)
  · rintro c a w' ⟨_, v, _, _, _, _, he, _⟩
    cases he
  · intro x E' env' objs' cl' a' w' hk hW hE' hdf hsz
    have fin : retV (PA (SM P (LSem P fn.ntmps an B))) T fn.results.toList env' objs' (fun vs => expO (PA (SM P (LSem P fn.ntmps an B))) osh objs' cl' fun outs objs cl => expR (PA (SM P (LSem P fn.ntmps an B))) 0 rs vs objs cl fun vs news _ => Q vs (outs ++ news)) →
        a'.defers = [] ∧ ∃ v, (results fn a'.tmps).run P w' = .ok v w' ∧ (∃ v' res outs E' cl', Ending.returned v = .returned v' ∧ Q res outs ∧ Rep E' (one1 res) v' ∧ WI F E' (objsOf outs) cl' w' ∧ NamedO outs cl' ∧ NamedR res cl' ∧ (outs.map (·.1)).Nodup) := by
      intro hk
      refine ⟨hdf, ?_⟩
      obtain ⟨vs, us, g1, g2, g3⟩ := retV_sound hT hW hE' _ _ hk
      refine ⟨_, results_run g3, ?_⟩
      let kept : Nat → Bool := fun o => osh.any fun p => Nat.beq p.1 o
      have hkept : ∀ p, p ∈ osh → kept p.1 = true := fun p hp => List.any_eq_true.2 ⟨p, hp, by simp⟩
      obtain ⟨outs, o1', c1', E2', o2', c2', s1, s2, s3, s4, s5, s6, s7, s8⟩ := expO_two osh objs' cl' _ _ _ _ (Two.start hW kept) (fun _ _ _ => rfl) hnd (fun p b hp hb => by simp only [startE, hkept p hp, if_true]; exact hb) g1
      have hout64 : ∀ j cs, (j, cs) ∈ outs → j < 64 := fun j cs hj => by
        have : j ∈ outs.map (·.1) := List.mem_map.2 ⟨_, hj, rfl⟩
        rw [s6] at this
        obtain ⟨p, hp, rfl⟩ := List.mem_map.1 this
        exact hosh' p hp
      have hmu0' : ∀ r, F.mu0 (64 + r) = none := fun r => by
        rw [hmu0]
        cases hh : E.mu (64 + r) with
        | none => rfl
        | some b =>
          have := hI.mdom _ b hh
          cases hj : objsOf ins (64 + r) with
          | none => exact absurd hj this
          | some ob =>
            have hm := ofL_mem hj
            obtain ⟨p, hp, e⟩ := List.mem_map.1 hm
            have := (hins' p.1 p.2 hp).1
            injection e with e _
            omega
      have ho2 : ∀ r, o2' (64 + r) = none := fun r => by
        rw [s7 _ (fun p hp => by have := hosh' p hp; omega)]
        have : kept (64 + r) = false := by
          rw [Bool.eq_false_iff]
          intro e
          obtain ⟨p, hp, e⟩ := List.any_eq_true.1 e
          have := hosh' p hp
          have := Nat.eq_of_beq_eq_true e
          omega
        rw [this]
        rfl
      obtain ⟨res, news, o1'', c1'', E2'', o2'', c2'', t1, t2, t3, t4, t5, t6, t7, t8, t9, t10, t11⟩ := expR_two rs 0 vs us o1' c1' E2' o2' c2' _ s2 g2 (fun r _ => ⟨ho2 r, hmu0' r⟩)
        (fun r i _ => by rw [s8 _ (fun p i' hp e => by injection e with e _; have := hosh' p hp; omega)]) (fun r _ => by rw [s8 _ (fun p i' hp e => by cases e)]) s1
      have houts : OutsOK (outs ++ news) o2'' c2'' := by
        intro j cs hj
        rcases List.mem_append.1 hj with hj | hj
        · obtain ⟨h1, h2, h3⟩ := s5 j cs hj
          have hj64 := hout64 j cs hj
          refine ⟨by rw [t10 j (fun r' _ => by omega)]; exact h1, h2, fun i q wd l e => ?_⟩
          obtain ⟨e1, e2⟩ := h3 i q wd l e
          refine ⟨e1, ?_⟩
          rw [t11 q (by subst e1; intro r' _; exact ⟨(by intro e; cases e), (by intro i' e; injection e with e _; omega)⟩)]
          exact e2
        · exact t7 j cs hj
      have hnodup : ((outs ++ news).map (·.1)).Nodup := by
        rw [List.map_append, List.nodup_append]
        refine ⟨by rw [s6]; exact nodupN_spec hnd, t9, ?_⟩
        intro x hx y hy e
        subst e
        obtain ⟨⟨j, cs⟩, hj, rfl⟩ := List.mem_map.1 hx
        obtain ⟨⟨j2, cs2⟩, hj2, e2⟩ := List.mem_map.1 hy
        have := hout64 j cs hj
        have := t8 j2 cs2 hj2
        dsimp only at e2
        omega
      let clE : Cl := fun q => if c2'' q = some true then some true else none
      have hcl : ∀ q, c2'' q = some true → clE q = some true := fun q hq => if_pos hq
      have hW2 := t2.b.restrict (objs' := objsOf (outs ++ news)) (cl' := clE) (fun o x ho => by
          have hm := ofL_mem ho
          obtain ⟨⟨j, cs⟩, hp, e⟩ := List.mem_map.1 hm
          injection e with e1 e2
          subst e1; subst e2
          exact (houts _ cs hp).1)
        (fun q x hq => by
          dsimp only [clE] at hq
          split at hq
          · rename_i hh; injection hq with hq; exact ⟨hq.symm, hh⟩
          · cases hq)
        (fun o cs ho => by
          obtain ⟨_, h2, h3⟩ := houts o cs (objsOf_mem ho)
          refine ⟨h2, fun q hq => ?_⟩
          obtain ⟨p, wd, l, hp⟩ := nmsOf_get hq
          exact hcl q (h3 p q wd l hp).2)
      refine ⟨_, res, outs ++ news, _, clE, rfl, t1, rep_back (t4.imp fun x hx v hxv => ?_), hW2, ?_, ?_, hnodup⟩
      · rcases t5 x hx with hf | ⟨o, i, rfl, cs, hcs⟩
        · refine rep_cut hxv hf fun q hq => ?_
          obtain ⟨wd, l, rfl⟩ := nmOf_eq hq
          obtain ⟨p, hp⟩ := List.getElem?_of_mem hx
          exact hcl q (t6 p q wd l hp).2
        · simp only [Rep] at hxv ⊢
          obtain ⟨b, hb, e⟩ := hxv
          refine ⟨b, ?_, e⟩
          simp only [E3.cut]
          rw [if_pos]
          · exact hb
          · cases hh : objsOf (outs ++ news) o with
            | some _ => rfl
            | none =>
              exfalso
              have : ∀ l : List (Nat × List AV), (o, cs) ∈ l → objsOf l o ≠ none := by
                intro l
                induction l with
                | nil => intro h; cases h
                | cons p l ih =>
                  intro hm
                  simp only [objsOf, List.map_cons, ofL]
                  cases hb : Nat.beq p.1 o with
                  | true => simp
                  | false =>
                    simp only [cond_false]
                    rcases List.mem_cons.1 hm with rfl | hm
                    · simp at hb
                    · exact ih hm
              exact this _ (List.mem_append.2 (.inr hcs)) hh
      · intro j cs hj i q wd l e
        obtain ⟨e1, e2⟩ := (houts j cs hj).2.2 i q wd l e
        exact ⟨e1, hcl q e2⟩
      · intro r q wd l e
        obtain ⟨e1, e2⟩ := t6 r q wd l e
        exact ⟨by rw [e1, Nat.zero_add], hcl q e2⟩
    cases x with
    | normal => exact fin hk
    | exit id => exact hk.elim
    | ret => exact fin hk
end Go.Proofs.Ythehhlaomiifnaa.V
