/- A run of a function's body is a contract. -/
import Derived.Test.YthmocicjocjdoaaAs
set_option linter.unusedVariables false
set_option linter.unusedSimpArgs false
namespace Go.Proofs.Ythmocicjocjdoaa.V
open Go
variable {P : Program} {L : LoopM} {T : Tab} {M : Meaning} {F : Fr} {E E1 E2 : E3} {objs o1 o2 : Os} {cl c1 c2 : Cl} {w : World}

def rvg (tmps : Array Value) : ResultVar → Go.Sem Value
  | .tmp t => pure (tmps.getD t undef)
  | .cell c t => do loadVar t (← asAddr (tmps.getD c undef))

theorem retV_sound (hT : TabOK P T) (hI : WI F E objs cl w) {env : Ev} {a : Act} (hE : EnvOK E env a) : ∀ (l : List ResultVar) (k : List AV → Prop), retV (PA M) T l env objs k → ∃ vs us, k vs ∧ RepT E vs us ∧ (l.mapM (rvg a.tmps)).run P w = .ok us w
  | [], k, h => ⟨[], [], h, by simp [RepT], by simp⟩
  | .tmp t :: l, k, h => by
    simp only [retV, PA_orFail] at h
    obtain ⟨v, hv, h⟩ := h
    obtain ⟨vs, us, g1, g2, g3⟩ := retV_sound hT hI hE l _ h
    refine ⟨v :: vs, a.tmps.getD t undef :: us, g1, ?_, ?_⟩
    · simp only [RepT]; exact ⟨_, _, rfl, (hE t v hv).2, g2⟩
    · simp [List.mapM_cons, rvg, g3]
  | .cell t ty :: l, k, h => by
    simp only [retV, PA_orFail] at h
    obtain ⟨v, hv, h⟩ := h
    have hr := (hE t v hv).2
    split at h
    · rename_i o i
      simp only [Rep] at hr
      obtain ⟨b, hb, he⟩ := hr
      have key : ∀ cs, (objs o = some (.live cs) ∨ objs o = some (.frz cs)) → part (PA M) (T.ty ty) cs i (fun v => retV (PA M) T l env objs fun r => k (v :: r)) →
          ∃ vs us, k vs ∧ RepT E vs us ∧ ((ResultVar.cell t ty :: l).mapM (rvg a.tmps)).run P w = .ok us w := by
        intro cs hcs h
        obtain ⟨b', us, hb', hl, hc⟩ := hI.objK o cs hcs
        rw [hb] at hb'
        cases hb'
        obtain ⟨x', v', g1, g2, g3⟩ := part_sound (W := (· = w)) (off := 0) hT hl (by simpa using hc) h
        obtain ⟨vs, us', q1, q2, q3⟩ := retV_sound hT hI hE l _ g1
        refine ⟨x' :: vs, v' :: us', q1, ?_, ?_⟩
        · simp only [RepT]; exact ⟨_, _, rfl, g2, q2⟩
        · have g3 := g3 w rfl
          simp only [Nat.zero_add] at g3
          have : (rvg a.tmps (.cell t ty)).run P w = .ok v' w := by
            show (do loadVar ty (← asAddr (a.tmps.getD t undef))).run P w = _
            rw [he]
            simp [asAddr, g3]
          simp [List.mapM_cons, this, q3]
      split at h
      · rename_i cs hcs; exact key cs (.inl hcs) h
      · rename_i cs hcs; exact key cs (.inr hcs) h
      · exact h.elim
    · exact h.elim

def retOf (us : List Value) : Value := match us with | [u] => u | us => .tuple us.toArray
theorem results_run {fn : Func} {a : Act} {us : List Value} (h : (fn.results.toList.mapM (rvg a.tmps)).run P w = .ok us w) : (results fn a.tmps).run P w = .ok (retOf us) w := by
  have e : (fun r : ResultVar => match r with | .tmp t => (pure (a.tmps.getD t undef) : Go.Sem Value) | .cell c t => do loadVar t (← asAddr (a.tmps.getD c undef))) = rvg a.tmps := by
    funext r; cases r <;> rfl
  unfold results
  rw [Array.mapM_eq_mapM_toList]
  simp only [Sem.run_bind]
  have h' : (List.toArray <$> fn.results.toList.mapM (rvg a.tmps)).run P w = .ok us.toArray w := by
    rw [← bind_pure_comp]
    simp [h]
  have e2 : (List.toArray <$> List.mapM (fun r : ResultVar => match r with | .tmp t => (pure (a.tmps.getD t undef) : Go.Sem Value) | .cell c t => do loadVar t (← asAddr (a.tmps.getD c undef))) fn.results.toList).run P w = .ok us.toArray w := by rw [e]; exact h'
  erw [e2]
  simp only [Result.andThen_ok, Sem.run_pure]
  rcases us with _ | ⟨u, _ | ⟨u2, us⟩⟩ <;> simp [retOf]

theorem RepT.imp {E E' : E3} : ∀ {l : List AV} {us : List Value}, RepT E l us → (∀ x, x ∈ l → ∀ v, Rep E x v → Rep E' x v) → RepT E' l us
  | [], us, h, _ => by simpa [RepT] using h
  | x :: l, us, h, hi => by
    simp only [RepT] at h ⊢
    obtain ⟨v, r, rfl, h1, h2⟩ := h
    exact ⟨v, r, rfl, hi x (List.mem_cons_self ..) v h1, RepT.imp h2 fun y hy => hi y (List.mem_cons_of_mem _ hy)⟩

theorem nmsI_mem : ∀ {ins : List (Nat × List AV)} {q : Nm} {x : Cs}, (q, x) ∈ nmsI ins → ∃ j cs, (j, cs) ∈ ins ∧ (q, x) ∈ nmC (Nm.E j) 0 cs
  | [], q, x, h => by simp [nmsI] at h
  | p :: l, q, x, h => by
    simp only [nmsI, List.mem_append] at h
    rcases h with h | h
    · exact ⟨p.1, p.2, List.mem_cons_self .., h⟩
    · obtain ⟨j, cs, h1, h2⟩ := nmsI_mem h
      exact ⟨j, cs, List.mem_cons_of_mem _ h1, h2⟩
theorem nmsI_of : ∀ {ins : List (Nat × List AV)} {q : Nm} {x : Cs} {j : Nat} {cs : List AV}, (j, cs) ∈ ins → (q, x) ∈ nmC (Nm.E j) 0 cs → (q, x) ∈ nmsI ins
  | p :: l, q, x, j, cs, h, hq => by
    simp only [nmsI, List.mem_append]
    rcases List.mem_cons.1 h with rfl | h
    · exact .inl hq
    · exact .inr (nmsI_of h hq)
theorem nmsA_mem : ∀ {args : List AV} {j : Nat} {q : Nm} {x : Cs}, (q, x) ∈ nmsA j args → ∃ p v, args[p]? = some v ∧ (q, x) ∈ nm1 (.Y 3 (j + p) 0 0) v
  | [], j, q, x, h => by simp [nmsA] at h
  | v :: l, j, q, x, h => by
    simp only [nmsA, List.mem_append] at h
    rcases h with h | h
    · exact ⟨0, v, rfl, h⟩
    · obtain ⟨p, v', h1, h2⟩ := nmsA_mem h
      exact ⟨p + 1, v', by simpa using h1, by rwa [show j + (p + 1) = j + 1 + p from by omega]⟩
theorem nmsA_of : ∀ {args : List AV} {j p : Nat} {v : AV} {q : Nm} {x : Cs}, args[p]? = some v → (q, x) ∈ nm1 (.Y 3 (j + p) 0 0) v → (q, x) ∈ nmsA j args
  | v :: l, j, 0, v', q, x, h, hq => by
    simp only [List.getElem?_cons_zero, Option.some.injEq] at h
    subst h
    simp only [nmsA, List.mem_append]
    exact .inl hq
  | v :: l, j, p + 1, v', q, x, h, hq => by
    simp only [nmsA, List.mem_append]
    exact .inr (nmsA_of (j := j + 1) (by simpa using h) (by rwa [show j + 1 + p = j + (p + 1) from by omega]))
theorem objsOf_mem {ins : List (Nat × List AV)} {j : Nat} {cs : List AV} (h : objsOf ins j = some (.live cs)) : ∃ cs0, (j, cs0) ∈ ins ∧ cs = frC (Nm.E j) 0 cs0 := by
  have := ofL_mem h
  simp only [List.mem_map] at this
  obtain ⟨p, h1, h2⟩ := this
  cases h2
  exact ⟨_, h1, rfl⟩
theorem fitA_cases {v : AV} (h : fitA v = true) : fitU v = true ∨ ∃ o i, v = .ref o i := by
  cases v <;> first | exact .inr ⟨_, _, rfl⟩ | exact .inl h
theorem nodupN_spec : ∀ {l : List Nat}, nodupN l = true → l.Nodup
  | [], _ => List.nodup_nil
  | x :: l, h => by
    obtain ⟨h1, h2⟩ := nodupN_cons h
    exact List.nodup_cons.2 ⟨fun hm => h1 x hm rfl, nodupN_spec h2⟩

theorem repT_cutR {E E' : E3} : ∀ {l : List AV} {r : Nat} {us : List Value}, RepT E (frR r l) us → (∀ (p : Nat) v, l[p]? = some v → ∀ u, Rep E (fr1 (.R (r + p)) v) u → Rep E' (fr1 (.R (r + p)) v) u) → RepT E' (frR r l) us
  | [], r, us, h, _ => by simpa [RepT, frR] using h
  | x :: l, r, us, h, hi => by
    simp only [frR, RepT] at h ⊢
    obtain ⟨v, r', rfl, h1, h2⟩ := h
    refine ⟨v, r', rfl, by have := hi 0 x rfl v; rw [Nat.add_zero] at this; exact this h1, repT_cutR h2 fun p y hy u hu => ?_⟩
    have := hi (p + 1) y (by simpa using hy) u
    rw [show r + (p + 1) = r + 1 + p from by omega] at this
    exact this hu
theorem nmC_of {nm : Nat → Nm} : ∀ {cs : List AV} {i p : Nat} {c : AV} {q : Nm} {x : Cs}, cs[p]? = some c → (q, x) ∈ nm0 (nm (i + p)) c → (q, x) ∈ nmC nm i cs
  | y :: cs, i, 0, c, q, x, h, hq => by
    simp only [List.getElem?_cons_zero, Option.some.injEq] at h
    subst h
    simp only [nmC, List.mem_append]
    exact .inl hq
  | y :: cs, i, p + 1, c, q, x, h, hq => by
    simp only [nmC, List.mem_append]
    exact .inr (nmC_of (i := i + 1) (by simpa using h) (by rwa [show i + 1 + p = i + (p + 1) from by omega]))
theorem named0_mem {c c' : Cl} {nm : Nm} {v : AV} (h : ∀ q x, (q, x) ∈ nm0 nm v → c' q = c q) (k : Named0 c nm v) : Named0 c' nm v := by
  unfold Named0 at k ⊢
  split at k
  · rename_i q w l
    obtain ⟨rfl, k⟩ := k
    exact ⟨rfl, by rw [h q .own (List.mem_singleton.2 rfl)]; exact k⟩
  · rename_i w l
    rw [h nm (.row l) (List.mem_singleton.2 rfl)]; exact k
  · trivial
theorem named1_mem {c c' : Cl} {nm : Nm} {v : AV} (h : ∀ q x, (q, x) ∈ nm1 nm v → c' q = c q) (k : Named1 c nm v) : Named1 c' nm v := by
  by_cases ha : ∃ l, v = .agg l
  · obtain ⟨l, rfl⟩ := ha
    exact fun i y hy => named0_mem (fun q x hq => h q x (nmC_of (nm := subN nm) hy (by rw [Nat.zero_add]; exact hq))) (k i y hy)
  · have hna : ∀ l, v ≠ .agg l := fun l e => ha ⟨l, e⟩
    exact (named1_not hna).2 (named0_mem (fun q x hq => h q x (by rw [nm1_not hna]; exact hq)) ((named1_not hna).1 k))
theorem runF_sound (hT : TabOK P T) (hF : FnOK P T) (hm : P.follows .mixedOrders = true) {f : Nat} {fn : Func} {body : Code} {an : Ann} {B : Nat → Code} {rs : List Sh} {osh : List (Nat × List Sh)} {args : List AV} {ins : List (Nat × List AV)} {Q : List AV → List (Nat × List AV) → Prop}
    (hfn : P.funcs[f]? = some fn) (hb : fn.body = some body) (hc : codeOK fn.ntmps body = true) (hl : loopsIn an B body) (hal : args.length ≤ fn.ntmps) (h : runF (PA (SM P (LSem P fn.ntmps an B))) T an fn body rs osh args ins Q) : Sem P f args ins Q := by
  intro F E cl w vals hw0 hS0 hmu0 hr hI hN hNA
  simp only [runF, PA_lit, Bool.and_eq_true] at h
  obtain ⟨⟨⟨⟨hins, hargs⟩, hnd⟩, hosh⟩, h⟩ := h
  have hins' : ∀ j cs, (j, cs) ∈ ins → j < 64 ∧ cs.all fitC = true := fun j cs hp => by
    have := List.all_eq_true.1 hins _ hp
    simp only [Bool.and_eq_true, Nat.blt_eq] at this
    exact this
  have hosh' : ∀ p, p ∈ osh → p.1 < 64 := fun p hp => by
    have := List.all_eq_true.1 hosh _ hp
    simpa using this
  have hgood : ∀ q x, (q, x) ∈ nmsA 0 args ++ nmsI ins → GoodN cl q x := by
    intro q x hq
    rcases List.mem_append.1 hq with hq | hq
    · obtain ⟨p, v, h1, h2⟩ := nmsA_mem hq
      rw [Nat.zero_add] at h2
      exact good1 (hNA p v h1) h2
    · obtain ⟨j, cs, h1, h2⟩ := nmsI_mem hq
      exact goodC (fun p c hp => by rw [Nat.zero_add]; exact hN j cs h1 p c hp) h2
  have hI0 := hI.restrict (objs' := objsOf ins) (cl' := ofN (nmsA 0 args ++ nmsI ins)) (fun _ _ h => h) (fun q x hq => hgood q x (ofN_some hq))
    (fun o cs ho c hc => by
      obtain ⟨cs0, h1, rfl⟩ := objsOf_mem ho
      exact (okC_of_fit (hins' o cs0 h1).2 c hc).mono fun q ⟨x, hx⟩ => ofN_isSome (List.mem_append.2 (.inr (nmsI_of h1 hx))))
  have hlen : args.length = vals.size := by
    have : ∀ (l : List AV) (us : List Value), RepT E l us → l.length = us.length := by
      intro l
      induction l with
      | nil => intro us h; simp only [RepT] at h; rw [h]; rfl
      | cons x l ih => intro us h; simp only [RepT] at h; obtain ⟨v, r, rfl, _, h2⟩ := h; simp [ih r h2]
    have h1 := this (frA 0 args) vals.toList hr
    have h2 : (frA 0 args).length = args.length := by
      have : ∀ (l : List AV) (j : Nat), (frA j l).length = l.length := by
        intro l
        induction l with
        | nil => intro j; rfl
        | cons x l ih => intro j; simp [frA, ih]
      exact this args 0
    rw [h2] at h1
    simpa using h1
  have hE0 : EnvOK (E.cut (objsOf ins) (ofN (nmsA 0 args ++ nmsI ins))) (fun j => (frA 0 args)[j]?) ⟨vals ++ Array.replicate (fn.ntmps - vals.size) undef, []⟩ := by
    intro t x hx
    have hx0 := hx
    dsimp only at hx
    rw [frA_get, Nat.zero_add] at hx
    simp only [Option.map_eq_some_iff] at hx
    obtain ⟨x0, hx1, rfl⟩ := hx
    have htl : t < vals.size := by
      have := (List.getElem?_eq_some_iff.1 hx1).1
      omega
    obtain ⟨v, hv, hrep⟩ := hr.get t _ hx0
    refine ⟨by simp; omega, ?_⟩
    have e : (vals ++ Array.replicate (fn.ntmps - vals.size) undef).getD t undef = v := by
      have : (vals ++ Array.replicate (fn.ntmps - vals.size) undef)[t]? = some v := by
        rw [Array.getElem?_append_left htl]; simpa using hv
      simp [Array.getD_eq_getD_getElem?, this]
    show Rep _ (fr1 (.Y 3 t 0 0) x0) ((vals ++ Array.replicate (fn.ntmps - vals.size) undef).getD t undef)
    rw [e]
    have hfit := List.all_eq_true.1 hargs x0 (List.mem_of_getElem? hx1)
    rcases fitA_cases hfit with hfit | ⟨o, i, rfl⟩
    · exact rep_cut hrep (ok1_of_fit hfit) fun q ⟨c, hc⟩ => ofN_isSome (List.mem_append.2 (.inl (nmsA_of hx1 (by rw [Nat.zero_add]; exact hc))))
    · simp only [fr1, fr0, Rep] at hrep ⊢
      obtain ⟨b, hb, e⟩ := hrep
      refine ⟨b, ?_, e⟩
      have := hI.mdom o b hb
      simp only [E3.cut]
      rw [if_pos (by cases hh : objsOf ins o with | none => exact absurd hh this | some _ => rfl)]
      exact hb
  refine calls_of_wp hfn hb (run_sound hT hF hm body hc hl F _ _ _ _ _ w _ _ ?_ hI0 hE0 rfl (by simp; omega) h ?_)
  · rintro c a w' ⟨_, v, _, _, _, _, he, _⟩
    cases he
  · intro x E' env' objs' cl' a' w' hk hW hE' hdf hsz
    have fin : stillT (PA (SM P (LSem P fn.ntmps an B))) (an.fzr 999999) env' objs' cl' (fun env' objs' cl' => retV (PA (SM P (LSem P fn.ntmps an B))) T fn.results.toList env' objs' (fun vs => expO (PA (SM P (LSem P fn.ntmps an B))) osh objs' cl' fun outs objs cl => expR (PA (SM P (LSem P fn.ntmps an B))) 0 rs vs objs cl fun vs news _ => Q vs (outs ++ news))) →
        a'.defers = [] ∧ ∃ v, (results fn a'.tmps).run P w' = .ok v w' ∧ (∃ v' res outs E' cl', Ending.returned v = .returned v' ∧ Q res outs ∧ Rep E' (one1 (frR 0 res)) v' ∧ WI F E' (objsOf outs) cl' w' ∧ NamedO outs cl' ∧ NamedR res cl' ∧ (outs.map (·.1)).Nodup) := by
      intro hk
      refine ⟨hdf, ?_⟩
      obtain ⟨E', env', objs', cl', hk, _, hW, hE'⟩ := stillT_sound hW hE' hk
      obtain ⟨vs, us, g1, g2, g3⟩ := retV_sound hT hW hE' _ _ hk
      refine ⟨_, results_run g3, ?_⟩
      let kept : Nat → Bool := fun o => osh.any fun p => Nat.beq p.1 o
      have hkept : ∀ p, p ∈ osh → kept p.1 = true := fun p hp => List.any_eq_true.2 ⟨p, hp, by simp⟩
      obtain ⟨outs, o1', c1', E2', o2', c2', s1, s2, s3, s4, s5, s6, s7, s8⟩ := expO_two osh objs' cl' _ _ _ _ (Two.start hW kept) (fun _ _ _ => rfl) hnd (fun p b hp hb => by simp only [startE, hkept p hp, if_true]; exact hb) g1
      have hout64 : ∀ j cs, (j, cs) ∈ outs → j < 64 := fun j cs hj => by
        have : j ∈ outs.map (·.1) := List.mem_map.2 ⟨_, hj, rfl⟩
        rw [s6] at this
        obtain ⟨p, hp, rfl⟩ := List.mem_map.1 this
        exact hosh' p hp
      have hmu0' : ∀ r, F.mu0 (64 + r) = none := fun r => by
        rw [hmu0]
        cases hh : E.mu (64 + r) with
        | none => rfl
        | some b =>
          have := hI.mdom _ b hh
          cases hj : objsOf ins (64 + r) with
          | none => exact absurd hj this
          | some ob =>
            have hm := ofL_mem hj
            obtain ⟨p, hp, e⟩ := List.mem_map.1 hm
            have := (hins' p.1 p.2 hp).1
            injection e with e _
            omega
      have ho2 : ∀ r, o2' (64 + r) = none := fun r => by
        rw [s7 _ (fun p hp => by have := hosh' p hp; omega)]
        have : kept (64 + r) = false := by
          rw [Bool.eq_false_iff]
          intro e
          obtain ⟨p, hp, e⟩ := List.any_eq_true.1 e
          have := hosh' p hp
          have := Nat.eq_of_beq_eq_true e
          omega
        rw [this]
        rfl
      obtain ⟨res, news, o1'', c1'', E2'', o2'', c2'', t1, t2, t3, t4, t5, t6, t7, t8, t9, t10, t11⟩ := expR_two rs 0 vs us o1' c1' E2' o2' c2' _ s2 g2 (fun r _ => ⟨ho2 r, hmu0' r⟩)
        (fun r i _ => by rw [s8 _ (fun p i' hp e => by injection e with e _; have := hosh' p hp; omega)]) (fun r q _ hq => by rw [s8 _ (fun p i' hp e => inP_RE (e ▸ hq))]) s1
      have houts : OutsOK (outs ++ news) o2'' c2'' := by
        intro j cs hj
        rcases List.mem_append.1 hj with hj | hj
        · obtain ⟨h1, h2, h3⟩ := s5 j cs hj
          have hj64 := hout64 j cs hj
          refine ⟨by rw [t10 j (fun r' _ => by omega)]; exact h1, h2, fun i x e => ?_⟩
          exact named0_congr (t11 _ (fun r' _ => ⟨fun hq => inP_RE hq, fun i' e => by injection e with e _; omega⟩)) (h3 i x e)
        · exact t7 j cs hj
      have hnodup : ((outs ++ news).map (·.1)).Nodup := by
        rw [List.map_append, List.nodup_append]
        refine ⟨by rw [s6]; exact nodupN_spec hnd, t9, ?_⟩
        intro x hx y hy e
        subst e
        obtain ⟨⟨j, cs⟩, hj, rfl⟩ := List.mem_map.1 hx
        obtain ⟨⟨j2, cs2⟩, hj2, e2⟩ := List.mem_map.1 hy
        have := hout64 j cs hj
        have := t8 j2 cs2 hj2
        dsimp only at e2
        omega
      let nmR : List (Nm × Cs) := (res.zipIdx 0).flatMap fun p => nm1 (.R p.2) p.1
      have hnR : ∀ q x, (q, x) ∈ nmR → GoodN c2'' q x := by
        intro q x hq
        obtain ⟨⟨v, p⟩, hp, hq⟩ := List.mem_flatMap.1 hq
        have hp' := (List.mem_zipIdx_iff_getElem? (l := res)).1 hp
        have := t6 p v hp'
        rw [Nat.zero_add] at this
        exact good1 this hq
      have hnO : ∀ q x, (q, x) ∈ nmsI (outs ++ news) → GoodN c2'' q x := by
        intro q x hq
        obtain ⟨j, cs, h1, h2⟩ := nmsI_mem hq
        exact goodC (fun p c hp => by rw [Nat.zero_add]; exact (houts j cs h1).2.2 p c hp) h2
      let clE : Cl := ofN (nmR ++ nmsI (outs ++ news))
      have hclE : ∀ q x, clE q = some x → GoodN c2'' q x := fun q x hq => by
        rcases List.mem_append.1 (ofN_some hq) with h | h
        · exact hnR q x h
        · exact hnO q x h
      have hclS : ∀ q x, (q, x) ∈ nmR ∨ (q, x) ∈ nmsI (outs ++ news) → clE q = c2'' q := by
        intro q x hq
        have hs : (clE q).isSome = true := ofN_isSome (List.mem_append.2 hq)
        cases hh : clE q with
        | none => rw [hh] at hs; cases hs
        | some y => exact (hclE q y hh).1.symm
      have hW2 := t2.b.restrict (objs' := objsOf (outs ++ news)) (cl' := clE) (fun o x ho => by
          have hm := ofL_mem ho
          obtain ⟨⟨j, cs⟩, hp, e⟩ := List.mem_map.1 hm
          injection e with e1 e2
          subst e1; subst e2
          exact (houts _ cs hp).1)
        hclE
        (fun o cs ho c hc => by
          obtain ⟨cs0, h1, rfl⟩ := objsOf_mem ho
          exact (okC_of_fit (houts o cs0 h1).2.1 c hc).mono fun q ⟨x, hx⟩ => ofN_isSome (List.mem_append.2 (.inr (nmsI_of h1 hx))))
      have hmemR : ∀ {p : Nat} {v : AV}, res[p]? = some v → ∀ {q x}, (q, x) ∈ nm1 (.R p) v → (q, x) ∈ nmR := fun {p v} hp {q x} hq =>
        List.mem_flatMap.2 ⟨(v, p), (List.mem_zipIdx_iff_getElem? (l := res)).2 hp, hq⟩
      refine ⟨_, res, outs ++ news, _, clE, rfl, t1, rep_back (repT_cutR t4 fun p v hp u hu => ?_), hW2, ?_, ?_, hnodup⟩
      · rw [Nat.zero_add] at hu ⊢
        rcases t5 v (List.mem_of_getElem? hp) with hf | ⟨o, i, rfl, cs, hcs⟩
        · exact rep_cut hu (ok1_of_fit hf) fun q ⟨x, hx⟩ => ofN_isSome (List.mem_append.2 (.inl (hmemR hp hx)))
        · simp only [fr1, fr0, Rep] at hu ⊢
          obtain ⟨b, hb, e⟩ := hu
          refine ⟨b, ?_, e⟩
          simp only [E3.cut]
          rw [if_pos]
          · exact hb
          · cases hh : objsOf (outs ++ news) o with
            | some _ => rfl
            | none =>
              exfalso
              have : ∀ l : List (Nat × List AV), (o, cs) ∈ l → objsOf l o ≠ none := by
                intro l
                induction l with
                | nil => intro h; cases h
                | cons p l ih =>
                  intro hm
                  simp only [objsOf, List.map_cons, ofL]
                  cases hb : Nat.beq p.1 o with
                  | true => simp
                  | false =>
                    simp only [cond_false]
                    rcases List.mem_cons.1 hm with rfl | hm
                    · simp at hb
                    · exact ih hm
              exact this _ (List.mem_append.2 (.inr hcs)) hh
      · intro j cs hj i v e
        exact named0_mem (fun q x hq => hclS q x (.inr (nmsI_of hj (nmC_of e (by rw [Nat.zero_add]; exact hq))))) ((houts j cs hj).2.2 i v e)
      · intro r v e
        have := t6 r v e
        rw [Nat.zero_add] at this
        exact named1_mem (fun q x hq => hclS q x (.inl (hmemR e hq))) this
    cases x with
    | normal => exact fin hk
    | exit id => exact hk.elim
    | ret => exact fin hk
end Go.Proofs.Ythmocicjocjdoaa.V
