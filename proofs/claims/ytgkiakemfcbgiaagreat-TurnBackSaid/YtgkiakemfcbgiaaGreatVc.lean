/- Part 3 of the proof that: What goes on is of its form in what comes of the schema, and goes back, with what was lost, as it was; what is gone is regained. -/
import Derived.ChangeKeysEq
import Derived.ProofKit
import Derived.Carry
import Derived.SizedLaws
import Derived.JoinedCond
import Derived.OpenShut
import Derived.Test.YtgkiakemfcbgiaaGreatProg
import Derived.KernelRfl
import Derived.WalkKit
import Derived.Deep.RegionLaw
import Derived.Shelf.RegionOpenPlain
import Derived.Lib.Walk
import Derived.Lib.SliceRun
import Derived.Lib.Overlaps
import Derived.Laws.Externs
import Derived.Lib.Hide
import Derived.OwnWalk
import Derived.Lib.AppendZerosOnto
import Derived.Deep.WholeRow
import Derived.Test.YtgkiakemfcbgiaaGreatVb
set_option linter.unusedVariables false
set_option linter.unusedSimpArgs false
namespace Go.Proofs.YtgkiakemfcbgiaaGreat
open Go
namespace V
variable {P : Program} {L : LoopM} {T : Tab} {M : Meaning} {F : Fr} {E E1 E2 : E3} {objs o1 o2 : Os} {cl c1 c2 : Cl} {w : World}
def rvg (tmps : Array Value) : ResultVar → Go.Sem Value
  | .tmp t => pure (tmps.getD t undef)
  | .cell c t => do loadVar t (← asAddr (tmps.getD c undef))
theorem z8h (hT : TabOK P T) (hI : WI F E objs cl w) {env : Ev} {a : Act} (hE : EnvOK E env a) : ∀ (l : List ResultVar) (k : List AV → Prop), retV (PA M) T l env objs k → ∃ vs us, k vs ∧ RepT E vs us ∧ (l.mapM (rvg a.tmps)).run P w = .ok us w
  | [], k, h => ⟨[], [], h, by simp [RepT], by simp⟩
  | .tmp t :: l, k, h => by
    simp only [retV, zi] at h; obtain ⟨v, hv, h⟩ := h; obtain ⟨vs, us, g1, g2, g3⟩ := z8h hT hI hE l _ h; refine ⟨v :: vs, a.tmps.getD t undef :: us, g1, ?_, ?_⟩
    · simp only [RepT]; exact ⟨_, _, rfl, (hE t v hv).2, g2⟩
    · simp [List.mapM_cons, rvg, g3]
  | .cell t ty :: l, k, h => by
    simp only [retV, zi] at h; obtain ⟨v, hv, h⟩ := h; have hr := (hE t v hv).2
    split at h
    · rename_i o i
      simp only [Rep] at hr; obtain ⟨b, hb, he⟩ := hr; have key : ∀ cs, (objs o = some (.live cs) ∨ objs o = some (.frz cs)) → part (PA M) (T.ty ty) cs i (fun v => retV (PA M) T l env objs fun r => k (v :: r)) →
          ∃ vs us, k vs ∧ RepT E vs us ∧ ((ResultVar.cell t ty :: l).mapM (rvg a.tmps)).run P w = .ok us w := by
        intro cs hcs h; obtain ⟨b', us, hb', hl, hc⟩ := hI.objK o cs hcs; rw [hb] at hb'
        cases hb'
        obtain ⟨x', v', g1, g2, g3⟩ := z5t (W := (· = w)) (off := 0) hT hl (by simpa using hc) h
        obtain ⟨vs, us', q1, q2, q3⟩ := z8h hT hI hE l _ g1; refine ⟨x' :: vs, v' :: us', q1, ?_, ?_⟩
        · simp only [RepT]; exact ⟨_, _, rfl, g2, q2⟩
        · have g3 := g3 w rfl
          simp only [Nat.zero_add] at g3
          have : (rvg a.tmps (.cell t ty)).run P w = .ok v' w := by
            show (do loadVar ty (← asAddr (a.tmps.getD t undef))).run P w = _
            rw [he]; simp [asAddr, g3]
          simp [List.mapM_cons, this, q3]
      split at h
      · rename_i cs hcs; exact key cs (.inl hcs) h
      · rename_i cs hcs; exact key cs (.inr hcs) h
      · exact h.elim
    · exact h.elim
def retOf (us : List Value) : Value := match us with | [u] => u | us => .tuple us.toArray
theorem zlb {fn : Func} {a : Act} {us : List Value} (h : (fn.results.toList.mapM (rvg a.tmps)).run P w = .ok us w) : (results fn a.tmps).run P w = .ok (retOf us) w := by
  have e : (fun r : ResultVar => match r with | .tmp t => (pure (a.tmps.getD t undef) : Go.Sem Value) | .cell c t => do loadVar t (← asAddr (a.tmps.getD c undef))) = rvg a.tmps := by
    funext r; cases r <;> rfl
  unfold results; rw [Array.mapM_eq_mapM_toList]; simp only [Sem.run_bind]
  have h' : (List.toArray <$> fn.results.toList.mapM (rvg a.tmps)).run P w = .ok us.toArray w := by
    rw [← bind_pure_comp]; simp [h]
  have e2 : (List.toArray <$> List.mapM (fun r : ResultVar => match r with | .tmp t => (pure (a.tmps.getD t undef) : Go.Sem Value) | .cell c t => do loadVar t (← asAddr (a.tmps.getD c undef))) fn.results.toList).run P w = .ok us.toArray w := by rw [e]; exact h'
  erw [e2]
  simp only [Result.andThen_ok, Sem.run_pure]
  rcases us with _ | ⟨u, _ | ⟨u2, us⟩⟩ <;> simp [retOf]
theorem RepT.imp {E E' : E3} : ∀ {l : List AV} {us : List Value}, RepT E l us → (∀ x, x ∈ l → ∀ v, Rep E x v → Rep E' x v) → RepT E' l us
  | [], us, h, _ => by simpa [RepT] using h
  | x :: l, us, h, hi => by
    simp only [RepT] at h ⊢; obtain ⟨v, r, rfl, h1, h2⟩ := h; exact ⟨v, r, rfl, hi x (List.mem_cons_self ..) v h1, RepT.imp h2 fun y hy => hi y (List.mem_cons_of_mem _ hy)⟩
theorem zcd : ∀ {ins : List (Nat × List AV)} {q : Nm} {x : Cs}, (q, x) ∈ nmsI ins → ∃ j cs, (j, cs) ∈ ins ∧ (q, x) ∈ nmC (Nm.E j) 0 cs
  | [], q, x, h => by simp [nmsI] at h
  | p :: l, q, x, h => by
    simp only [nmsI, List.mem_append] at h
    rcases h with h | h
    · exact ⟨p.1, p.2, List.mem_cons_self .., h⟩
    · obtain ⟨j, cs, h1, h2⟩ := zcd h
      exact ⟨j, cs, List.mem_cons_of_mem _ h1, h2⟩
theorem zbb : ∀ {ins : List (Nat × List AV)} {q : Nm} {x : Cs} {j : Nat} {cs : List AV}, (j, cs) ∈ ins → (q, x) ∈ nmC (Nm.E j) 0 cs → (q, x) ∈ nmsI ins
  | p :: l, q, x, j, cs, h, hq => by
    simp only [nmsI, List.mem_append]
    rcases List.mem_cons.1 h with rfl | h
    · exact .inl hq
    · exact .inr (zbb h hq)
theorem zip : ∀ {args : List AV} {j : Nat} {q : Nm} {x : Cs}, (q, x) ∈ nmsA j args → ∃ p v, args[p]? = some v ∧ (q, x) ∈ nm1 (.Y 3 (j + p) 0 0) v
  | [], j, q, x, h => by simp [nmsA] at h
  | v :: l, j, q, x, h => by
    simp only [nmsA, List.mem_append] at h
    rcases h with h | h
    · exact ⟨0, v, rfl, h⟩
    · obtain ⟨p, v', h1, h2⟩ := zip h
      exact ⟨p + 1, v', by simpa using h1, by rwa [show j + (p + 1) = j + 1 + p from by omega]⟩
theorem zlw : ∀ {args : List AV} {j p : Nat} {v : AV} {q : Nm} {x : Cs}, args[p]? = some v → (q, x) ∈ nm1 (.Y 3 (j + p) 0 0) v → (q, x) ∈ nmsA j args
  | v :: l, j, 0, v', q, x, h, hq => by
    simp only [List.getElem?_cons_zero, Option.some.injEq] at h; subst h; simp only [nmsA, List.mem_append]; exact .inl hq
  | v :: l, j, p + 1, v', q, x, h, hq => by
    simp only [nmsA, List.mem_append]
    exact .inr (zlw (j := j + 1) (by simpa using h) (by rwa [show j + 1 + p = j + (p + 1) from by omega]))
theorem zdv {ins : List (Nat × List AV)} {j : Nat} {cs : List AV} (h : objsOf ins j = some (.live cs)) : ∃ cs0, (j, cs0) ∈ ins ∧ cs = frC (Nm.E j) 0 cs0 := by
  have := z46 h; simp only [List.mem_map] at this; obtain ⟨p, h1, h2⟩ := this
  cases h2
  exact ⟨_, h1, rfl⟩
theorem znh {v : AV} (h : fitA v = true) : fitU v = true ∨ ∃ o i, v = .ref o i := by
  cases v <;> first | exact .inr ⟨_, _, rfl⟩ | exact .inl h
theorem z2i : ∀ {l : List Nat}, nodupN l = true → l.Nodup
  | [], _ => List.nodup_nil
  | x :: l, h => by
    obtain ⟨h1, h2⟩ := z5f h; exact List.nodup_cons.2 ⟨fun hm => h1 x hm rfl, z2i h2⟩
theorem zgd {E E' : E3} : ∀ {l : List AV} {r : Nat} {us : List Value}, RepT E (frR r l) us → (∀ (p : Nat) v, l[p]? = some v → ∀ u, Rep E (fr1 (.R (r + p)) v) u → Rep E' (fr1 (.R (r + p)) v) u) → RepT E' (frR r l) us
  | [], r, us, h, _ => by simpa [RepT, frR] using h
  | x :: l, r, us, h, hi => by
    simp only [frR, RepT] at h ⊢; obtain ⟨v, r', rfl, h1, h2⟩ := h
    refine ⟨v, r', rfl, by have := hi 0 x rfl v; rw [Nat.add_zero] at this; exact this h1, zgd h2 fun p y hy u hu => ?_⟩
    have := hi (p + 1) y (by simpa using hy) u
    rw [show r + (p + 1) = r + 1 + p from by omega] at this
    exact this hu
theorem ziq {nm : Nat → Nm} : ∀ {cs : List AV} {i p : Nat} {c : AV} {q : Nm} {x : Cs}, cs[p]? = some c → (q, x) ∈ nm0 (nm (i + p)) c → (q, x) ∈ nmC nm i cs
  | y :: cs, i, 0, c, q, x, h, hq => by
    simp only [List.getElem?_cons_zero, Option.some.injEq] at h; subst h; simp only [nmC, List.mem_append]; exact .inl hq
  | y :: cs, i, p + 1, c, q, x, h, hq => by
    simp only [nmC, List.mem_append]
    exact .inr (ziq (i := i + 1) (by simpa using h) (by rwa [show i + 1 + p = i + (p + 1) from by omega]))
theorem z8i {c c' : Cl} {nm : Nm} {v : AV} (h : ∀ q x, (q, x) ∈ nm0 nm v → c' q = c q) (k : Named0 c nm v) : Named0 c' nm v := by
  unfold Named0 at k ⊢
  split at k
  · rename_i q w l
    obtain ⟨rfl, k⟩ := k
    exact ⟨rfl, by rw [h q .own (List.mem_singleton.2 rfl)]; exact k⟩
  · rename_i w l
    rw [h nm (.row l) (List.mem_singleton.2 rfl)]; exact k
  · trivial
theorem zni {c c' : Cl} {nm : Nm} {v : AV} (h : ∀ q x, (q, x) ∈ nm1 nm v → c' q = c q) (k : Named1 c nm v) : Named1 c' nm v := by
  by_cases ha : ∃ l, v = .agg l
  · obtain ⟨l, rfl⟩ := ha
    exact fun i y hy => z8i (fun q x hq => h q x (ziq (nm := subN nm) hy (by rw [Nat.zero_add]; exact hq))) (k i y hy)
  · have hna : ∀ l, v ≠ .agg l := fun l e => ha ⟨l, e⟩
    exact (z4m hna).2 (z8i (fun q x hq => h q x (by rw [zfc hna]; exact hq)) ((z4m hna).1 k))
theorem znj (hT : TabOK P T) (hF : FnOK P T) (hm : P.follows .mixedOrders = true) {f : Nat} {fn : Func} {body : Code} {an : Ann} {B : Nat → Code} {rs : List Sh} {osh : List (Nat × List Sh)} {args : List AV} {ins : List (Nat × List AV)} {Q : List AV → List (Nat × List AV) → Prop}
    (hfn : P.funcs[f]? = some fn) (hb : fn.body = some body) (hc : codeOK fn.ntmps body = true) (hl : loopsIn an B body) (hal : args.length ≤ fn.ntmps) (h : runF (PA (SM P (LSem P fn.ntmps an B))) T an fn body rs osh args ins Q) : Sem P f args ins Q := by
  intro F E cl w vals hw0 hS0 hmu0 hr hI hN hNA; simp only [runF, zb, Bool.and_eq_true] at h; obtain ⟨⟨⟨⟨hins, hargs⟩, hnd⟩, hosh⟩, h⟩ := h
  have hins' : ∀ j cs, (j, cs) ∈ ins → j < 64 ∧ cs.all fitC = true := fun j cs hp => by
    have := List.all_eq_true.1 hins _ hp; simp only [Bool.and_eq_true, Nat.blt_eq] at this; exact this
  have hosh' : ∀ p, p ∈ osh → p.1 < 64 := fun p hp => by
    have := List.all_eq_true.1 hosh _ hp
    simpa using this
  have hgood : ∀ q x, (q, x) ∈ nmsA 0 args ++ nmsI ins → GoodN cl q x := by
    intro q x hq
    rcases List.mem_append.1 hq with hq | hq
    · obtain ⟨p, v, h1, h2⟩ := zip hq
      rw [Nat.zero_add] at h2; exact good1 (hNA p v h1) h2
    · obtain ⟨j, cs, h1, h2⟩ := zcd hq
      exact goodC (fun p c hp => by rw [Nat.zero_add]; exact hN j cs h1 p c hp) h2
  have hI0 := hI.restrict (objs' := objsOf ins) (cl' := ofN (nmsA 0 args ++ nmsI ins)) (fun _ _ h => h) (fun q x hq => hgood q x (z8f hq))
    (fun o cs ho c hc => by
      obtain ⟨cs0, h1, rfl⟩ := zdv ho; exact (z4p (hins' o cs0 h1).2 c hc).mono fun q ⟨x, hx⟩ => z2d (List.mem_append.2 (.inr (zbb h1 hx))))
  have hlen : args.length = vals.size := by
    have : ∀ (l : List AV) (us : List Value), RepT E l us → l.length = us.length := by
      intro l
      induction l with
      | nil => intro us h; simp only [RepT] at h; rw [h]; rfl
      | cons x l ih => intro us h; simp only [RepT] at h; obtain ⟨v, r, rfl, _, h2⟩ := h; simp [ih r h2]
    have h1 := this (frA 0 args) vals.toList hr
    have h2 : (frA 0 args).length = args.length := by
      have : ∀ (l : List AV) (j : Nat), (frA j l).length = l.length := by
        intro l
        induction l with
        | nil => intro j; rfl
        | cons x l ih => intro j; simp [frA, ih]
      exact this args 0
    rw [h2] at h1
    simpa using h1
  have hE0 : EnvOK (E.cut (objsOf ins) (ofN (nmsA 0 args ++ nmsI ins))) (fun j => (frA 0 args)[j]?) ⟨vals ++ Array.replicate (fn.ntmps - vals.size) undef, []⟩ := by
    intro t x hx; have hx0 := hx; dsimp only at hx; rw [zlp, Nat.zero_add] at hx; simp only [Option.map_eq_some_iff] at hx; obtain ⟨x0, hx1, rfl⟩ := hx
    have htl : t < vals.size := by
      have := (List.getElem?_eq_some_iff.1 hx1).1; omega
    obtain ⟨v, hv, hrep⟩ := hr.get t _ hx0
    refine ⟨by simp; omega, ?_⟩
    have e : (vals ++ Array.replicate (fn.ntmps - vals.size) undef).getD t undef = v := by
      have : (vals ++ Array.replicate (fn.ntmps - vals.size) undef)[t]? = some v := by
        rw [Array.getElem?_append_left htl]; simpa using hv
      simp [Array.getD_eq_getD_getElem?, this]
    show Rep _ (fr1 (.Y 3 t 0 0) x0) ((vals ++ Array.replicate (fn.ntmps - vals.size) undef).getD t undef); rw [e]; have hfit := List.all_eq_true.1 hargs x0 (List.mem_of_getElem? hx1)
    rcases znh hfit with hfit | ⟨o, i, rfl⟩
    · exact zfb hrep (z8e hfit) fun q ⟨c, hc⟩ => z2d (List.mem_append.2 (.inl (zlw hx1 (by rw [Nat.zero_add]; exact hc))))
    · simp only [fr1, fr0, Rep] at hrep ⊢
      obtain ⟨b, hb, e⟩ := hrep; refine ⟨b, ?_, e⟩; have := hI.mdom o b hb; simp only [E3.cut]
      rw [if_pos (by cases hh : objsOf ins o with | none => exact absurd hh this | some _ => rfl)]
      exact hb
  refine calls_of_wp hfn hb (z2e hT hF hm body hc hl F _ _ _ _ _ w _ _ ?_ hI0 hE0 rfl (by simp; omega) h ?_)
  · rintro c a w' ⟨_, v, _, _, _, _, he, _⟩
    cases he
  · intro x E' env' objs' cl' a' w' hk hW hE' hdf hsz
    have fin : stillT (PA (SM P (LSem P fn.ntmps an B))) (an.fzr 999999) env' objs' cl' (fun env' objs' cl' => retV (PA (SM P (LSem P fn.ntmps an B))) T fn.results.toList env' objs' (fun vs => expO (PA (SM P (LSem P fn.ntmps an B))) osh objs' cl' fun outs objs cl => expR (PA (SM P (LSem P fn.ntmps an B))) 0 rs vs objs cl fun vs news _ => Q vs (outs ++ news))) →
        a'.defers = [] ∧ ∃ v, (results fn a'.tmps).run P w' = .ok v w' ∧ (∃ v' res outs E' cl', Ending.returned v = .returned v' ∧ Q res outs ∧ Rep E' (one1 (frR 0 res)) v' ∧ WI F E' (objsOf outs) cl' w' ∧ NamedO outs cl' ∧ NamedR res cl' ∧ (outs.map (·.1)).Nodup) := by
      intro hk; refine ⟨hdf, ?_⟩; obtain ⟨E', env', objs', cl', hk, _, hW, hE'⟩ := z6h hW hE' hk; obtain ⟨vs, us, g1, g2, g3⟩ := z8h hT hW hE' _ _ hk; refine ⟨_, zlb g3, ?_⟩
      let kept : Nat → Bool := fun o => osh.any fun p => Nat.beq p.1 o
      have hkept : ∀ p, p ∈ osh → kept p.1 = true := fun p hp => List.any_eq_true.2 ⟨p, hp, by simp⟩
      obtain ⟨outs, o1', c1', E2', o2', c2', s1, s2, s3, s4, s5, s6, s7, s8⟩ := zio osh objs' cl' _ _ _ _ (Two.start hW kept) (fun _ _ _ => rfl) hnd (fun p b hp hb => by simp only [startE, hkept p hp, if_true]; exact hb) g1
      have hout64 : ∀ j cs, (j, cs) ∈ outs → j < 64 := fun j cs hj => by
        have : j ∈ outs.map (·.1) := List.mem_map.2 ⟨_, hj, rfl⟩
        rw [s6] at this; obtain ⟨p, hp, rfl⟩ := List.mem_map.1 this; exact hosh' p hp
      have hmu0' : ∀ r, F.mu0 (64 + r) = none := fun r => by
        rw [hmu0]
        cases hh : E.mu (64 + r) with
        | none => rfl
        | some b =>
          have := hI.mdom _ b hh
          cases hj : objsOf ins (64 + r) with
          | none => exact absurd hj this
          | some ob =>
            have hm := z46 hj; obtain ⟨p, hp, e⟩ := List.mem_map.1 hm; have := (hins' p.1 p.2 hp).1; injection e with e _; omega
      have ho2 : ∀ r, o2' (64 + r) = none := fun r => by
        rw [s7 _ (fun p hp => by have := hosh' p hp; omega)]
        have : kept (64 + r) = false := by
          rw [Bool.eq_false_iff]; intro e; obtain ⟨p, hp, e⟩ := List.any_eq_true.1 e; have := hosh' p hp; have := Nat.eq_of_beq_eq_true e; omega
        rw [this]; rfl
      obtain ⟨res, news, o1'', c1'', E2'', o2'', c2'', t1, t2, t3, t4, t5, t6, t7, t8, t9, t10, t11⟩ := zcc rs 0 vs us o1' c1' E2' o2' c2' _ s2 g2 (fun r _ => ⟨ho2 r, hmu0' r⟩)
        (fun r i _ => by rw [s8 _ (fun p i' hp e => by injection e with e _; have := hosh' p hp; omega)]) (fun r q _ hq => by rw [s8 _ (fun p i' hp e => z4n (e ▸ hq))]) s1
      have houts : OutsOK (outs ++ news) o2'' c2'' := by
        intro j cs hj
        rcases List.mem_append.1 hj with hj | hj
        · obtain ⟨h1, h2, h3⟩ := s5 j cs hj
          have hj64 := hout64 j cs hj
          refine ⟨by rw [t10 j (fun r' _ => by omega)]; exact h1, h2, fun i x e => ?_⟩
          exact z1a (t11 _ (fun r' _ => ⟨fun hq => z4n hq, fun i' e => by injection e with e _; omega⟩)) (h3 i x e)
        · exact t7 j cs hj
      have hnodup : ((outs ++ news).map (·.1)).Nodup := by
        rw [List.map_append, List.nodup_append]
        refine ⟨by rw [s6]; exact z2i hnd, t9, ?_⟩
        intro x hx y hy e; subst e; obtain ⟨⟨j, cs⟩, hj, rfl⟩ := List.mem_map.1 hx; obtain ⟨⟨j2, cs2⟩, hj2, e2⟩ := List.mem_map.1 hy; have := hout64 j cs hj; have := t8 j2 cs2 hj2; dsimp only at e2; omega
      let nmR : List (Nm × Cs) := (res.zipIdx 0).flatMap fun p => nm1 (.R p.2) p.1
      have hnR : ∀ q x, (q, x) ∈ nmR → GoodN c2'' q x := by
        intro q x hq; obtain ⟨⟨v, p⟩, hp, hq⟩ := List.mem_flatMap.1 hq; have hp' := (List.mem_zipIdx_iff_getElem? (l := res)).1 hp; have := t6 p v hp'; rw [Nat.zero_add] at this; exact good1 this hq
      have hnO : ∀ q x, (q, x) ∈ nmsI (outs ++ news) → GoodN c2'' q x := by
        intro q x hq; obtain ⟨j, cs, h1, h2⟩ := zcd hq
        exact goodC (fun p c hp => by rw [Nat.zero_add]; exact (houts j cs h1).2.2 p c hp) h2
      let clE : Cl := ofN (nmR ++ nmsI (outs ++ news))
      have hclE : ∀ q x, clE q = some x → GoodN c2'' q x := fun q x hq => by
        rcases List.mem_append.1 (z8f hq) with h | h
        · exact hnR q x h
        · exact hnO q x h
      have hclS : ∀ q x, (q, x) ∈ nmR ∨ (q, x) ∈ nmsI (outs ++ news) → clE q = c2'' q := by
        intro q x hq; have hs : (clE q).isSome = true := z2d (List.mem_append.2 hq)
        cases hh : clE q with
        | none => rw [hh] at hs; cases hs
        | some y => exact (hclE q y hh).1.symm
      have hW2 := t2.b.restrict (objs' := objsOf (outs ++ news)) (cl' := clE) (fun o x ho => by
          have hm := z46 ho; obtain ⟨⟨j, cs⟩, hp, e⟩ := List.mem_map.1 hm; injection e with e1 e2
          subst e1; subst e2; exact (houts _ cs hp).1)
        hclE
        (fun o cs ho c hc => by
          obtain ⟨cs0, h1, rfl⟩ := zdv ho; exact (z4p (houts o cs0 h1).2.1 c hc).mono fun q ⟨x, hx⟩ => z2d (List.mem_append.2 (.inr (zbb h1 hx))))
      have hmemR : ∀ {p : Nat} {v : AV}, res[p]? = some v → ∀ {q x}, (q, x) ∈ nm1 (.R p) v → (q, x) ∈ nmR := fun {p v} hp {q x} hq =>
        List.mem_flatMap.2 ⟨(v, p), (List.mem_zipIdx_iff_getElem? (l := res)).2 hp, hq⟩
      refine ⟨_, res, outs ++ news, _, clE, rfl, t1, z8c (zgd t4 fun p v hp u hu => ?_), hW2, ?_, ?_, hnodup⟩
      · rw [Nat.zero_add] at hu ⊢
        rcases t5 v (List.mem_of_getElem? hp) with hf | ⟨o, i, rfl, cs, hcs⟩
        · exact zfb hu (z8e hf) fun q ⟨x, hx⟩ => z2d (List.mem_append.2 (.inl (hmemR hp hx)))
        · simp only [fr1, fr0, Rep] at hu ⊢
          obtain ⟨b, hb, e⟩ := hu; refine ⟨b, ?_, e⟩; simp only [E3.cut]; rw [if_pos]
          · exact hb
          · cases hh : objsOf (outs ++ news) o with
            | some _ => rfl
            | none =>
              exfalso
              have : ∀ l : List (Nat × List AV), (o, cs) ∈ l → objsOf l o ≠ none := by
                intro l
                induction l with
                | nil => intro h; cases h
                | cons p l ih =>
                  intro hm; simp only [objsOf, List.map_cons, ofL]
                  cases hb : Nat.beq p.1 o with
                  | true => simp
                  | false =>
                    simp only [cond_false]
                    rcases List.mem_cons.1 hm with rfl | hm
                    · simp at hb
                    · exact ih hm
              exact this _ (List.mem_append.2 (.inr hcs)) hh
      · intro j cs hj i v e
        exact z8i (fun q x hq => hclS q x (.inr (zbb hj (ziq e (by rw [Nat.zero_add]; exact hq))))) ((houts j cs hj).2.2 i v e)
      · intro r v e
        have := t6 r v e; rw [Nat.zero_add] at this; exact zni (fun q x hq => hclS q x (.inl (hmemR e hq))) this
    cases x with
    | normal => exact fin hk
    | exit id => exact hk.elim
    | ret => exact fin hk
end V
namespace V
def tkOf : TypeDesc → TK
  | .int k => .int k
  | .bool => .bool
  | .string => .str
  | .pointer e => .ptr e
  | .slice e => .slice e
  | .array n e => .array n e
  | .struct fs => .struct (fs.toList.map fun f => (f.offset, f.type))
  | .func _ _ _ => .fn
  | _ => .other
def aggK : TK → Bool
  | .struct _ => true
  | .array _ _ => true
  | _ => false
def zeroOK (agg : Bool) (size : Nat) (z : Value) : Bool :=
  Nat.beq z.cells.size size && (match z with | .agg _ => agg | z => !agg && Nat.beq size 1 && z.oneCell')
def zeroV (agg : Bool) (size : Nat) : Option Value → List AV
  | some z => bif zeroOK agg size z then (cvL z.cells.toList).getD [] else []
  | none => []
def shL (P : Program) : Nat → Nat → List Sh
  | 0, _ => [.any]
  | d + 1, t => match P.underlying t with
    | some (.int k) => [.int k]
    | some .bool => [.bool]
    | some .string => [.str]
    | some (.slice e) => match P.info? e with | some i => [.lst i.size] | none => [.any]
    | some (.struct fs) => fs.toList.flatMap fun f => shL P d f.type
    | some (.array n e) => bif Nat.ble n 64 then (List.replicate n (shL P d e)).flatten else [.arr]
    | _ => [.any]
def shOf (P : Program) (t : Nat) : Sh := match P.underlying t with
  | some (.struct _) => .agg (shL P 8 t)
  | some (.array _ _) => .agg (shL P 8 t)
  | _ => match shL P 1 t with | [s] => s | _ => .any
def eqF (P : Program) (rec : Nat → Option (List Sh)) : List Field → Nat → Option (List Sh)
  | [], _ => some []
  | f :: fs, o => bif f.name != "_" && Nat.beq f.offset o then match rec f.type with
      | some s => bif Nat.beq (P.cellsOf f.type) s.length then (match eqF P rec fs (o + s.length) with | some r => some (s ++ r) | none => none) else none
      | none => none
    else none
def eqK (P : Program) : Nat → Nat → Option (List Sh)
  | 0, _ => none
  | d + 1, t => match P.underlying t with
    | some (.int k) => some [.int k]
    | some .bool => some [.bool]
    | some .string => some [.str]
    | some (.struct fs) => (match eqF P (eqK P d) fs.toList 0 with | some s => bif P.stoodInHeld t then none else some s | none => none)
    | some (.array n e) => bif Nat.ble n 64 then (match eqK P d e with | some s => bif Nat.beq (P.cellsOf e) s.length then some (List.replicate n s).flatten else none | none => none) else none
    | _ => none
def eqOf (P : Program) (t : Nat) : List Sh :=
  match P.underlying t with
  | some (.struct _) => (match eqK P 8 t with | some s => bif P.eqGuardType P.depth t then [] else s | none => [])
  | some (.array _ _) => (match eqK P 8 t with | some s => bif P.eqGuardType P.depth t then [] else s | none => [])
  | _ => []
theorem z3v : ∀ {s1 s2 : List Sh} {l : List AV}, fitL (s1 ++ s2) l = true → ∃ l1 l2, l = l1 ++ l2 ∧ l1.length = s1.length ∧ fitL s1 l1 = true ∧ fitL s2 l2 = true
  | [], s2, l, h => ⟨[], l, rfl, rfl, rfl, h⟩
  | s :: s1, s2, [], h => by cases h
  | s :: s1, s2, x :: l, h => by
    simp only [List.cons_append, fitL, Bool.and_eq_true] at h; obtain ⟨l1, l2, rfl, h1, h2, h3⟩ := z3v h.2
    exact ⟨x :: l1, l2, rfl, by simp [h1], by simp [fitL, h.1, h2], h3⟩
theorem z8j : ∀ {l1 l2 r1 r2 : List AV} {b : Bool}, l1.length = r1.length → eqL (l1 ++ l2) (r1 ++ r2) = some b → ∃ b1 b2, eqL l1 r1 = some b1 ∧ eqL l2 r2 = some b2 ∧ b = (b1 && b2)
  | [], l2, [], r2, b, _, h => ⟨true, b, rfl, h, by simp⟩
  | x :: l1, l2, [], r2, b, hl, h => by cases hl
  | [], l2, y :: r1, r2, b, hl, h => by cases hl
  | x :: l1, l2, y :: r1, r2, b, hl, h => by
    simp only [List.cons_append, eqL] at h
    split at h
    · rename_i a c ha hc
      cases h
      obtain ⟨b1, b2, e1, e2, rfl⟩ := z8j (by simpa using hl) hc
      exact ⟨a && b1, b2, by simp [eqL, ha, e1], e2, by simp [Bool.and_assoc]⟩
    · cases h
theorem z3w {E : E3} : ∀ {l1 l2 : List AV} {vs : List Value}, RepL E (l1 ++ l2) vs → RepL E l1 (vs.take l1.length) ∧ RepL E l2 (vs.drop l1.length)
  | [], l2, vs, h => ⟨by simp [RepL], h⟩
  | x :: l1, l2, vs, h => by
    simp only [List.cons_append, RepL] at h; obtain ⟨v, r, rfl, h1, h2, h3, h4⟩ := h; obtain ⟨a, b⟩ := z3w h4
    exact ⟨by simp only [List.length_cons, List.take_succ_cons, RepL]; exact ⟨v, _, rfl, h1, h2, h3, a⟩, by simpa using b⟩
section
variable {P : Program}
def EqStep (P : Program) (D t : Nat) (s : List Sh) : Prop := ∀ (E : E3) (l r : List AV) (xs ys : List Value) (o : Nat) (b : Bool) (w : World), fitL s l = true → fitL s r = true →
  RepL E l ((xs.drop o).take s.length) → RepL E r ((ys.drop o).take s.length) → eqL l r = some b →
  ∃ a c, (Go.part t xs.toArray o).run P w = .ok a w ∧ (Go.part t ys.toArray o).run P w = .ok c w ∧ (Op.equalIn D t a c).run P w = .ok b w
def EqAgg (P : Program) (D t : Nat) (s : List Sh) : Prop := ∀ (E : E3) (l r : List AV) (xs ys : List Value) (b : Bool) (w : World), fitL s l = true → fitL s r = true →
  RepL E l xs → RepL E r ys → eqL l r = some b → (Op.equalIn D t (.agg xs.toArray) (.agg ys.toArray)).run P w = .ok b w
theorem zge {D : Nat} {rec : Nat → Option (List Sh)} (hrec : ∀ t s, rec t = some s → P.cellsOf t = s.length → EqStep P D t s) :
    ∀ (fs : List Field) (o : Nat) (s : List Sh), eqF P rec fs o = some s → ∀ (E : E3) (l r : List AV) (xs ys : List Value) (b : Bool) (w : World), fitL s l = true → fitL s r = true →
    RepL E l (xs.drop o) → RepL E r (ys.drop o) → eqL l r = some b → (Op.eqFields D xs.toArray ys.toArray fs).run P w = .ok b w
  | [], o, s, h, E, l, r, xs, ys, b, w, hl, hr, _, _, hb => by
    cases h
    obtain rfl : l = [] := by cases l <;> first | rfl | cases hl
    obtain rfl : r = [] := by cases r <;> first | rfl | cases hr
    cases hb
    simp [Op.eqFields]
  | f :: fs, o, s, h, E, l, r, xs, ys, b, w, hl, hr, hx, hy, hb => by
    simp only [eqF] at h
    cases hc : (f.name != "_" && Nat.beq f.offset o) with
    | false => rw [hc] at h; cases h
    | true =>
      rw [hc] at h; simp only [cond_true] at h
      split at h
      · rename_i s1 hs1
        cases hz : Nat.beq (P.cellsOf f.type) s1.length with
        | false => rw [hz] at h; cases h
        | true =>
          rw [hz] at h; simp only [cond_true] at h
          split at h
          · rename_i s2 hs2
            cases h
            simp only [Bool.and_eq_true, bne_iff_ne, ne_eq, Nat.beq_eq] at hc; obtain ⟨hn, rfl⟩ := hc; obtain ⟨l1, l2, rfl, hl1, hl2, hl3⟩ := z3v hl; obtain ⟨r1, r2, rfl, hr1, hr2, hr3⟩ := z3v hr
            obtain ⟨b1, b2, e1, e2, rfl⟩ := z8j (by omega) hb
            obtain ⟨x1, x2⟩ := z3w hx; obtain ⟨y1, y2⟩ := z3w hy; rw [hl1] at x1 x2; rw [hr1] at y1 y2; rw [List.drop_drop] at x2 y2; obtain ⟨a, c, p1, p2, p3⟩ := hrec _ _ hs1 (Nat.eq_of_beq_eq_true hz) E l1 r1 xs ys f.offset b1 w hl2 hr2 x1 y1 e1; have ih := zge hrec fs _ _ hs2 E l2 r2 xs ys b2 w hl3 hr3 x2 y2 e2; simp only [Op.eqFields, hn, ne_eq, not_false_eq_true, if_true, Sem.run_bind, p1, p2, p3, Result.andThen_ok]
            cases b1
            · simp
            · simpa using ih
          · cases h
      · cases h
theorem zgf {D e : Nat} {s : List Sh} (hrec : EqStep P D e s) : ∀ (n i : Nat) (E : E3) (l r : List AV) (xs ys : List Value) (b : Bool) (w : World), fitL (List.replicate n s).flatten l = true → fitL (List.replicate n s).flatten r = true →
    RepL E l (xs.drop (i * s.length)) → RepL E r (ys.drop (i * s.length)) → eqL l r = some b → (Op.eqItems D e s.length xs.toArray ys.toArray (List.range' i n)).run P w = .ok b w
  | 0, i, E, l, r, xs, ys, b, w, hl, hr, _, _, hb => by
    simp only [List.replicate_zero, List.flatten_nil] at hl hr
    obtain rfl : l = [] := by cases l <;> first | rfl | cases hl
    obtain rfl : r = [] := by cases r <;> first | rfl | cases hr
    cases hb
    simp [Op.eqItems]
  | n + 1, i, E, l, r, xs, ys, b, w, hl, hr, hx, hy, hb => by
    rw [List.replicate_succ, List.flatten_cons] at hl hr; obtain ⟨l1, l2, rfl, hl1, hl2, hl3⟩ := z3v hl; obtain ⟨r1, r2, rfl, hr1, hr2, hr3⟩ := z3v hr
    obtain ⟨b1, b2, e1, e2, rfl⟩ := z8j (by omega) hb
    obtain ⟨x1, x2⟩ := z3w hx; obtain ⟨y1, y2⟩ := z3w hy; rw [hl1] at x1 x2; rw [hr1] at y1 y2; rw [List.drop_drop] at x2 y2; obtain ⟨a, c, p1, p2, p3⟩ := hrec E l1 r1 xs ys (i * s.length) b1 w hl2 hr2 x1 y1 e1
    have hi : i * s.length + s.length = (i + 1) * s.length := by rw [Nat.add_mul]; omega
    have ih := zgf hrec n (i + 1) E l2 r2 xs ys b2 w hl3 hr3 (by rw [← hi]; exact x2) (by rw [← hi]; exact y2) e2
    simp only [List.range'_succ, Op.eqItems, Sem.run_bind, p1, p2, p3, Result.andThen_ok]
    cases b1
    · simp
    · simpa using ih
theorem z48 {xs : List Value} {o : Nat} {v : Value} (h : (xs.drop o).take 1 = [v]) : xs.toArray[o]? = some v := by
  have : ((xs.drop o).take 1)[0]? = some v := by rw [h]; rfl
  simpa using this
theorem z49 {E : E3} {x : AV} {vs : List Value} (h : RepL E [x] vs) : ∃ v, vs = [v] ∧ Rep E x v := by
  simp only [RepL] at h; obtain ⟨v, r, rfl, _, _, h3, rfl⟩ := h; exact ⟨v, rfl, h3⟩
theorem z55 {s : Sh} {l : List AV} (h : fitL [s] l = true) : ∃ x, l = [x] ∧ fit1 s x = true := by
  cases l with
  | nil => cases h
  | cons x l => cases l with
    | nil => exact ⟨x, rfl, by simpa [fitL] using h⟩
    | cons y l => simp [fitL] at h
theorem zfd {x y : AV} {b : Bool} (h : eqL [x] [y] = some b) : eq1 x y = some b := by
  simp only [eqL] at h
  split at h
  · rename_i a c ha hc
    cases hc
    cases h
    simpa using ha
  · cases h
theorem z92 {D t : Nat} {s : List Sh} (hs : P.cellsOf t = s.length) (hi : ∃ i, P.info? t = some i) (ha : ∀ w, (Go.isAgg t).run P w = .ok true w) (h : EqAgg P D t s) : EqStep P D t s := by
  intro E l r xs ys o b w hl hr hx hy hb; obtain ⟨i, hi⟩ := hi
  have ex : ∀ zs : List Value, (zs.toArray.extract o (o + s.length)) = ((zs.drop o).take s.length).toArray := by
    intro zs; apply Array.ext'; rw [Array.toList_extract]; simp [List.extract]
  refine ⟨.agg (xs.toArray.extract o (o + s.length)), .agg (ys.toArray.extract o (o + s.length)), ?_, ?_, ?_⟩
  · simp [Go.part, ha, run_sizeOf w hi, hs]
  · simp [Go.part, ha, run_sizeOf w hi, hs]
  · rw [ex, ex]
    exact h E l r _ _ b w hl hr hx hy hb
theorem z9u : ∀ (d t : Nat) (s : List Sh), eqK P d t = some s → ∀ D, d ≤ D →
    (P.cellsOf t = s.length → EqStep P D t s) ∧ ((∃ fs, P.underlying t = some (.struct fs)) ∨ (∃ n e, P.underlying t = some (.array n e)) → EqAgg P D t s)
  | 0, t, s, h, D, hD => by cases h
  | d + 1, t, s, h, 0, hD => by omega
  | d + 1, t, s, h, D + 1, hD => by
    simp only [eqK] at h
    split at h
    · rename_i k hu
      cases h
      refine ⟨fun _ => ?_, fun hc => by rcases hc with ⟨fs, e⟩ | ⟨n, e', e⟩ <;> · rw [hu] at e; cases e⟩
      intro E l r xs ys o b w hl hr hx hy hb; obtain ⟨x, rfl, hx1⟩ := z55 hl; obtain ⟨y, rfl, hy1⟩ := z55 hr; obtain ⟨v, ev, rv⟩ := z49 hx; obtain ⟨u, eu, ru⟩ := z49 hy; have e1 := zfd hb
      refine ⟨v, u, by simp [Go.part, Go.isAgg, run_underlying hu, z48 ev], by simp [Go.part, Go.isAgg, run_underlying hu, z48 eu], ?_⟩
      cases x <;> simp only [fit1, Bool.false_eq_true] at hx1
      cases y <;> simp only [fit1, Bool.false_eq_true] at hy1
      simp only [decide_eq_true_eq] at hx1 hy1
      subst hx1; subst hy1; simp only [Rep] at rv ru; simp only [eq1, decide_true, cond_true, Option.some.injEq] at e1
      subst e1; subst rv; subst ru; exact run_equalIn_int w D t _ _ _ _ hu
    · rename_i hu
      cases h
      refine ⟨fun _ => ?_, fun hc => by rcases hc with ⟨fs, e⟩ | ⟨n, e', e⟩ <;> · rw [hu] at e; cases e⟩
      intro E l r xs ys o b w hl hr hx hy hb; obtain ⟨x, rfl, hx1⟩ := z55 hl; obtain ⟨y, rfl, hy1⟩ := z55 hr; obtain ⟨v, ev, rv⟩ := z49 hx; obtain ⟨u, eu, ru⟩ := z49 hy; have e1 := zfd hb
      refine ⟨v, u, by simp [Go.part, Go.isAgg, run_underlying hu, z48 ev], by simp [Go.part, Go.isAgg, run_underlying hu, z48 eu], ?_⟩
      cases x <;> simp only [fit1, Bool.false_eq_true] at hx1
      cases y <;> simp only [fit1, Bool.false_eq_true] at hy1
      simp only [Rep] at rv ru; simp only [eq1, Option.some.injEq] at e1
      subst e1; subst rv; subst ru; exact run_equalIn_bool' w D t _ _ hu
    · rename_i hu
      cases h
      refine ⟨fun _ => ?_, fun hc => by rcases hc with ⟨fs, e⟩ | ⟨n, e', e⟩ <;> · rw [hu] at e; cases e⟩
      intro E l r xs ys o b w hl hr hx hy hb; obtain ⟨x, rfl, hx1⟩ := z55 hl; obtain ⟨y, rfl, hy1⟩ := z55 hr; obtain ⟨v, ev, rv⟩ := z49 hx; obtain ⟨u, eu, ru⟩ := z49 hy; have e1 := zfd hb
      refine ⟨v, u, by simp [Go.part, Go.isAgg, run_underlying hu, z48 ev], by simp [Go.part, Go.isAgg, run_underlying hu, z48 eu], ?_⟩
      cases x <;> simp only [fit1, Bool.false_eq_true] at hx1
      cases y <;> simp only [fit1, Bool.false_eq_true] at hy1
      simp only [Rep] at rv ru; simp only [eq1, Option.some.injEq] at e1; subst e1; obtain ⟨rfl, _⟩ := rv; obtain ⟨rfl, _⟩ := ru; rw [run_equalIn_string w D t _ _ hu, ByteArray.toList_eq, ByteArray.toList_eq]
    · rename_i fs hu
      split at h
      · rename_i s' hs'
        cases hh : P.stoodInHeld t with
        | true => rw [hh] at h; cases h
        | false =>
          rw [hh] at h
          cases h
          have hf : P.fieldsOf t = fs := by simp [Program.fieldsOf, hu]
          have agg : EqAgg P (D + 1) t s := by
            intro E l r xs ys b w hl hr hx hy hb
            rw [run_equalIn_struct w D t _ _ (by rw [hf]; exact hu) hh, hf]
            exact zge (fun t' s'' h' hc => (z9u d t' s'' h' D (by omega)).1 hc) _ 0 _ hs' E l r xs ys b w hl hr (by simpa using hx) (by simpa using hy) hb
          exact ⟨fun hc => z92 hc (info_of_underlying hu) (fun w => by simp [Go.isAgg, run_underlying hu]) agg, fun _ => agg⟩
      · cases h
    · rename_i n e hu
      cases hn : Nat.ble n 64 with
      | false => rw [hn] at h; cases h
      | true =>
        rw [hn] at h; simp only [cond_true] at h
        split at h
        · rename_i s' hs'
          cases hz : Nat.beq (P.cellsOf e) s'.length with
          | false => rw [hz] at h; cases h
          | true =>
            rw [hz] at h
            cases h
            have hz' : P.cellsOf e = s'.length := Nat.eq_of_beq_eq_true hz
            have hs := (z9u d e s' hs' D (by omega)).1 hz'
            have agg : EqAgg P (D + 1) t (List.replicate n s').flatten := by
              intro E l r xs ys b w hl hr hx hy hb
              have hie : ∃ i, P.info? e = some i := by
                cases d with
                | zero => cases hs'
                | succ d =>
                  cases hue : P.underlying e with
                  | none => simp [eqK, hue] at hs'
                  | some _ => exact info_of_underlying hue
              obtain ⟨i, hi⟩ := hie; rw [run_equalIn_array w D _ _ hu hi, hz', List.range_eq_range']
              exact zgf hs n 0 E l r xs ys b w hl hr (by simpa using hx) (by simpa using hy) hb
            exact ⟨fun hc => z92 hc (info_of_underlying hu) (fun w => by simp [Go.isAgg, run_underlying hu]) agg, fun _ => agg⟩
        · cases h
    · cases h
theorem znk {t : Nat} {E : E3} {l r : List AV} {xs ys : List Value} {b : Bool} {w : World} (h : (!(eqOf P t).isEmpty && (fitL (eqOf P t) l && fitL (eqOf P t) r)) = true) (hx : RepL E l xs) (hy : RepL E r ys) (hb : eqL l r = some b) :
    P.eqGuardType P.depth t = false ∧ (Op.equalIn 10000 t (.agg xs.toArray) (.agg ys.toArray)).run P w = .ok b w := by
  have key : ∀ s, eqK P 8 t = some s → P.eqGuardType P.depth t = false → ((∃ fs, P.underlying t = some (.struct fs)) ∨ (∃ n e, P.underlying t = some (.array n e))) → fitL s l = true → fitL s r = true → P.eqGuardType P.depth t = false ∧ (Op.equalIn 10000 t (.agg xs.toArray) (.agg ys.toArray)).run P w = .ok b w := by
    intro s hs hg hk hl hr
    exact ⟨hg, (z9u 8 t s hs 10000 (by omega)).2 hk E l r xs ys b w hl hr hx hy hb⟩
  unfold eqOf at h
  split at h
  · rename_i fs hu
    split at h
    · rename_i s hs
      cases hg : P.eqGuardType P.depth t with
      | true => rw [hg] at h; simp at h
      | false =>
        rw [hg] at h; simp only [cond_false, Bool.and_eq_true] at h; exact ⟨rfl, (key s hs hg (Or.inl ⟨_, hu⟩) h.2.1 h.2.2).2⟩
    · simp at h
  · rename_i n e hu
    split at h
    · rename_i s hs
      cases hg : P.eqGuardType P.depth t with
      | true => rw [hg] at h; simp at h
      | false =>
        rw [hg] at h; simp only [cond_false, Bool.and_eq_true] at h; exact ⟨rfl, (key s hs hg (Or.inr ⟨_, _, hu⟩) h.2.1 h.2.2).2⟩
    · simp at h
  · simp at h
end
def otherTD : TD := ⟨.other, 0, 0, [], .any, []⟩
def tdOf (P : Program) (t : Nat) : TD :=
  match P.info? t, P.underlying t with
  | some i, some d => ⟨tkOf d, i.size, i.bytes, zeroV (aggK (tkOf d)) i.size i.zero, shOf P t, eqOf P t⟩
  | _, _ => otherTD
theorem zvb {P : Program} {T : Tab} {t : Nat} (h : T.ty t = otherTD ∨ T.ty t = tdOf P t) : TyOK P T t := by
  have other : T.ty t = otherTD → TyOK P T t := by
    intro h
    refine ⟨by rw [h]; trivial, ?_, ?_⟩
    · intro hk; rw [h] at hk; cases hk
    · intro E l r xs ys b w hk; rw [h] at hk; cases hk
  rcases h with h | h
  · exact other h
  · unfold tdOf at h
    split at h
    · rename_i i d hi hd
      have hkd : (T.ty t).k = tkOf d := by rw [h]
      refine ⟨?_, ?_, ?_⟩
      · rw [hkd]
        cases d <;> simp only [tkOf] <;> first
          | exact hd
          | trivial
          | exact ⟨_, hd, rfl⟩
          | exact ⟨_, _, _, hd⟩
      · intro _
        refine ⟨i, hi, by rw [h], by rw [h], ?_⟩
        intro hz
        have hz' : (T.ty t).zero = zeroV (aggK (tkOf d)) i.size i.zero := by rw [h]
        have hag : (T.ty t).isAgg = aggK (tkOf d) := by
          unfold TD.isAgg; rw [hkd]
          cases d <;> rfl
        have hsz : (T.ty t).size = i.size := by rw [h]
        rw [hz'] at hz ⊢; rw [hag, hsz]; unfold zeroV at hz ⊢
        cases hiz : i.zero with
        | none => rw [hiz] at hz; cases hz
        | some z =>
          rw [hiz] at hz; dsimp only at hz ⊢
          cases hok : zeroOK (aggK (tkOf d)) i.size z with
          | false => rw [hok] at hz; cases hz
          | true =>
            rw [hok] at hz; simp only [cond_true] at hz ⊢
            cases hcv : cvL z.cells.toList with
            | none => rw [hcv] at hz; cases hz
            | some l =>
              simp only [zeroOK, Bool.and_eq_true, Nat.beq_eq] at hok; obtain ⟨h1, h2⟩ := hok
              refine ⟨z, rfl, h1, ?_, ?_, fun E => by simpa using zfa hcv⟩
              · intro ha
                split at h2
                · exact ⟨_, rfl⟩
                · rw [ha] at h2; simp at h2
              · intro ha
                split at h2
                · rw [ha] at h2; cases h2
                · simp only [Bool.and_eq_true, Nat.beq_eq] at h2
                  exact ⟨h2.1.2, h2.2⟩
      · intro E l r xs ys b w he hx hy hb
        rw [h] at he; exact znk he hx hy hb
    · exact other h
def tabOf (l : List TD) (osh : Nat → List Sh) (res : Nat → List Sh) (fns : List Bool) (ash : Nat → List Sh) : Tab := ⟨fun t => (l[t]?).getD otherTD, osh, res, fun f => (fns[f]?).getD false, ash, fun _ => false, fun _ => false, fun _ => none⟩
theorem zxz {P : Program} {l : List TD} {osh : Nat → List Sh} {res : Nat → List Sh} {fns : List Bool} {ash : Nat → List Sh} (h : (List.range l.length).map (tdOf P) = l) : TabOK P (tabOf l osh res fns ash) := by
  intro t; refine zvb ?_; show (l[t]?).getD otherTD = otherTD ∨ (l[t]?).getD otherTD = tdOf P t
  cases hl : l[t]? with
  | none => exact .inl rfl
  | some d =>
    right; rw [← h, List.getElem?_map] at hl
    have hlt : t < l.length := by
      rcases Nat.lt_or_ge t l.length with h' | h'
      · exact h'
      · rw [List.getElem?_eq_none (by simpa using h')] at hl; cases hl
    rw [List.getElem?_range hlt] at hl
    simpa using hl.symm
def fnOf (P : Program) (f : Nat) : Bool := match P.funcs[f]? with | some fn => fn.body.isSome && !(fn.name == "runtime.NumGoroutine") | none => false
theorem fn_ok {P : Program} {l : List TD} {osh : Nat → List Sh} {res : Nat → List Sh} {fns : List Bool} {ash : Nat → List Sh} (h : (List.range fns.length).map (fnOf P) = fns) : FnOK P (tabOf l osh res fns ash) := by
  refine ⟨?_, fun f s h => (by cases h)⟩
  intro f hf
  change (fns[f]?).getD false = true at hf
  have hf' : fnOf P f = true := by
    cases hl : fns[f]? with
    | none => rw [hl] at hf; cases hf
    | some b =>
      rw [hl] at hf; simp only [Option.getD_some] at hf; subst hf; rw [← h, List.getElem?_map] at hl
      have hlt : f < fns.length := by
        rcases Nat.lt_or_ge f fns.length with h' | h'
        · exact h'
        · rw [List.getElem?_eq_none (by simpa using h')] at hl; cases hl
      rw [List.getElem?_range hlt] at hl
      simpa using hl
  unfold fnOf at hf'
  split at hf'
  · rename_i fn hfn
    simp only [Bool.and_eq_true, Bool.not_eq_true'] at hf'
    cases hb : fn.body with
    | none => rw [hb] at hf'; simp at hf'
    | some body => exact ⟨fn, body, hfn, hb, hf'.2⟩
  · cases hf'
theorem zvc {P : Program} {T : Tab} (hT : TabOK P T) (r : Nat → Option Spc) : TabOK P { T with spc := r } := fun t => ⟨(hT t).desc, (hT t).info, (hT t).eq⟩
end V
namespace V
def findLoop (id : Nat) : Code → Option Code
  | .seq a b => match findLoop id a with | some c => some c | none => findLoop id b
  | .cond _ a b => match findLoop id a with | some c => some c | none => findLoop id b
  | .block _ a => findLoop id a
  | .loop a => bif Nat.beq (firstR a) id then some a else findLoop id a
  | _ => none
def findBlk (an : Ann) (r : Nat) : Code → Option Code
  | .seq a b => bif an.meet (firstR b) && Nat.beq (firstR b) r then some b else match findBlk an r a with | some c => some c | none => findBlk an r b
  | .cond _ a b => match findBlk an r a with | some c => some c | none => findBlk an r b
  | .block _ a => findBlk an r a
  | .loop a => findBlk an r a
  | _ => none
def loopB (an : Ann) (c : Code) (id : Nat) : Code := bif isL id then (match findLoop id c with | some b => b | none => .skip) else match findBlk an (id - 1000000) c with | some b => b | none => .skip
def loopIds : Code → List Nat
  | .seq a b => loopIds a ++ loopIds b
  | .cond _ a b => loopIds a ++ loopIds b
  | .block _ a => loopIds a
  | .loop a => firstR a :: loopIds a
  | _ => []
def blkIds (an : Ann) : Code → List Nat
  | .seq a b => (bif an.meet (firstR b) then [firstR b] else []) ++ (blkIds an a ++ blkIds an b)
  | .cond _ a b => blkIds an a ++ blkIds an b
  | .block _ a => blkIds an a
  | .loop a => blkIds an a
  | _ => []
def ckOK (an : Ann) (c : Code) : Bool := nodupN (loopIds c) && nodupN (blkIds an c) && (loopIds c).all isL
def bodyOf (fn : Func) : Code := match fn.body with | some c => c | none => .skip
theorem z18 {id : Nat} : ∀ {c b : Code}, findLoop id c = some b → id ∈ loopIds c
  | .seq a c, b, h => by
    simp only [findLoop] at h; simp only [loopIds, List.mem_append]
    split at h
    · rename_i e; exact .inl (z18 e)
    · exact .inr (z18 h)
  | .cond _ a c, b, h => by
    simp only [findLoop] at h; simp only [loopIds, List.mem_append]
    split at h
    · rename_i e; exact .inl (z18 e)
    · exact .inr (z18 h)
  | .block _ a, b, h => by simp only [findLoop] at h; exact z18 (c := a) h
  | .loop a, b, h => by
    simp only [findLoop] at h; simp only [loopIds, List.mem_cons]
    cases hb : Nat.beq (firstR a) id with
    | true => exact .inl (Nat.eq_of_beq_eq_true hb).symm
    | false => rw [hb] at h; exact .inr (z18 (c := a) h)
  | .skip, b, h => by cases h
  | .region _ _ _, b, h => by cases h
  | .exit _, b, h => by cases h
  | .ret, b, h => by cases h
  | .label _, b, h => by cases h
  | .goto _, b, h => by cases h
  | .scope _, b, h => by cases h
  | .rangeFunc _ _ _ _, b, h => by cases h
  | .refuse _, b, h => by cases h
theorem z1d {an : Ann} {r : Nat} : ∀ {c b : Code}, findBlk an r c = some b → r ∈ blkIds an c
  | .seq a c, b, h => by
    simp only [findBlk] at h; simp only [blkIds, List.mem_append]
    cases hm : an.meet (firstR c) && Nat.beq (firstR c) r with
    | true =>
      simp only [Bool.and_eq_true, Nat.beq_eq] at hm
      left; rw [hm.1]; simp [hm.2]
    | false =>
      rw [hm] at h; simp only [cond_false] at h; right
      split at h
      · rename_i e; exact .inl (z1d e)
      · exact .inr (z1d h)
  | .cond _ a c, b, h => by
    simp only [findBlk] at h; simp only [blkIds, List.mem_append]
    split at h
    · rename_i e; exact .inl (z1d e)
    · exact .inr (z1d h)
  | .block _ a, b, h => z1d (c := a) h
  | .loop a, b, h => z1d (c := a) h
  | .skip, b, h => by cases h
  | .region _ _ _, b, h => by cases h
  | .exit _, b, h => by cases h
  | .ret, b, h => by cases h
  | .label _, b, h => by cases h
  | .goto _, b, h => by cases h
  | .scope _, b, h => by cases h
  | .rangeFunc _ _ _ _, b, h => by cases h
  | .refuse _, b, h => by cases h
theorem z24 : ∀ {l : List Nat}, l.Nodup → nodupN l = true
  | [], _ => rfl
  | x :: l, h => by
    rw [List.nodup_cons] at h; simp only [nodupN, Bool.and_eq_true, Bool.not_eq_true', List.any_eq_false]
    exact ⟨fun y hy e => h.1 (by rw [Nat.eq_of_beq_eq_true e]; exact hy), z24 h.2⟩
theorem z2y {an : Ann} {B : Nat → Code} : ∀ (c : Code), nodupN (loopIds c) = true → nodupN (blkIds an c) = true → (∀ id b, findLoop id c = some b → B id = b) → (∀ r b, findBlk an r c = some b → B (bid r) = b) → loopsIn an B c
  | .seq a c, hn, hm, h, g => by
    have hd := z2i hn; simp only [loopIds, List.nodup_append] at hd; have hd2 := z2i hm; simp only [blkIds, List.nodup_append] at hd2; obtain ⟨_, ⟨hda, hdc, hdd⟩, hde⟩ := hd2
    have hne : ∀ r, r ∈ blkIds an a ++ blkIds an c → (an.meet (firstR c) && Nat.beq (firstR c) r) = false := by
      intro r hr; rw [Bool.eq_false_iff]; intro hh; simp only [Bool.and_eq_true, Nat.beq_eq] at hh
      exact hde (firstR c) (by rw [hh.1]; simp) r hr hh.2
    refine ⟨z2y a (z24 hd.1) (z24 hda) (fun id b hb => h id b (by simp only [findLoop, hb])) (fun r b hb => g r b ?_), z2y c (z24 hd.2.1) (z24 hdc) (fun id b hb => h id b ?_) (fun r b hb => g r b ?_), fun hmt => g _ _ ?_⟩
    · simp only [findBlk, hne r (List.mem_append_left _ (z1d hb)), cond_false, hb]
    · simp only [findLoop]
      split
      · rename_i e; exact absurd rfl (hd.2.2 id (z18 e) id (z18 hb))
      · exact hb
    · simp only [findBlk, hne r (List.mem_append_right _ (z1d hb)), cond_false]
      split
      · rename_i e; exact absurd rfl (hdd r (z1d e) r (z1d hb))
      · exact hb
    · simp [findBlk, hmt]
  | .cond _ a c, hn, hm, h, g => by
    have hd := z2i hn; simp only [loopIds, List.nodup_append] at hd; have hd2 := z2i hm; simp only [blkIds, List.nodup_append] at hd2; obtain ⟨hda, hdc, hdd⟩ := hd2
    refine ⟨z2y a (z24 hd.1) (z24 hda) (fun id b hb => h id b (by simp only [findLoop, hb])) (fun r b hb => g r b (by simp only [findBlk, hb])), z2y c (z24 hd.2.1) (z24 hdc) (fun id b hb => h id b ?_) (fun r b hb => g r b ?_)⟩
    · simp only [findLoop]
      split
      · rename_i e; exact absurd rfl (hd.2.2 id (z18 e) id (z18 hb))
      · exact hb
    · simp only [findBlk]
      split
      · rename_i e; exact absurd rfl (hdd r (z1d e) r (z1d hb))
      · exact hb
  | .block _ a, hn, hm, h, g => z2y a hn hm h g
  | .loop a, hn, hm, h, g => by
    have hd := z2i hn; simp only [loopIds, List.nodup_cons] at hd
    refine ⟨h _ _ (by simp [findLoop]), z2y a (z24 hd.2) hm (fun id b hb => h id b ?_) g⟩
    simp only [findLoop]
    cases hb2 : Nat.beq (firstR a) id with
    | true =>
      have := Nat.eq_of_beq_eq_true hb2; subst this; exact absurd (z18 hb) hd.1
    | false => exact hb
  | .skip, _, _, _, _ => trivial
  | .region _ _ _, _, _, _, _ => trivial
  | .exit _, _, _, _, _ => trivial
  | .ret, _, _, _, _ => trivial
  | .label _, _, _, _, _ => trivial
  | .goto _, _, _, _, _ => trivial
  | .scope _, _, _, _, _ => trivial
  | .rangeFunc _ _ _ _, _, _, _, _ => trivial
  | .refuse _, _, _, _, _ => trivial
theorem zir {an : Ann} {c : Code} (h : ckOK an c = true) : loopsIn an (loopB an c) c := by
  unfold ckOK at h; simp only [Bool.and_eq_true] at h; refine z2y c h.1.1 h.1.2 (fun id b hb => ?_) (fun r b hb => ?_)
  · have := List.all_eq_true.1 h.2 id (z18 hb)
    simp [loopB, hb, this]
  · have h2 : bid r - 1000000 = r := Nat.add_sub_cancel r 1000000
    unfold loopB; rw [zlv, h2, hb]; rfl
end V
namespace V
mutual
def AV.same : AV → AV → Bool
  | .int k n, .int k' n' => decide (k = k') && decide (n = n')
  | .bool b, .bool b' => b == b'
  | .str s, .str s' => decide (s = s')
  | .lst m w l, .lst m' w' l' => decide (m = m') && Nat.beq w w' && AV.sameL l l'
  | .agg l, .agg l' => AV.sameL l l'
  | .ref o i, .ref o' i' => Nat.beq o o' && Nat.beq i i'
  | .rp l i, .rp l' i' => AV.sameL l l' && Nat.beq i i'
  | .nilp, .nilp => true
  | .clo f l, .clo f' l' => Nat.beq f f' && AV.sameL l l'
  | .tup l, .tup l' => AV.sameL l l'
  | .undef, .undef => true
  | .sq q w, .sq q' w' => decide (q = q') && Nat.beq w w'
  | .ua q w i j, .ua q' w' i' j' => decide (q = q') && Nat.beq w w' && Nat.beq i i' && Nat.beq j j'
  | .sv q w m, .sv q' w' m' => decide (q = q') && Nat.beq w w' && Nat.beq m m'
  | .bclo f o, .bclo f' o' => Nat.beq f f' && Nat.beq o o'
  | _, _ => false
def AV.sameL : List AV → List AV → Bool
  | [], [] => true
  | x :: l, y :: r => AV.same x y && AV.sameL l r
  | _, _ => false
end
mutual
theorem AV.same_eq : ∀ (x y : AV), AV.same x y = true → x = y
  | .int k n, y, h => by cases y <;> simp [AV.same] at h; simp [h]
  | .bool b, y, h => by cases y <;> simp [AV.same] at h; simp [h]
  | .str s, y, h => by cases y <;> simp [AV.same] at h; simp [h]
  | .lst m w l, y, h => by
    cases y <;> simp [AV.same] at h
    obtain ⟨⟨h1, h2⟩, h3⟩ := h; rw [h1, h2, AV.sameL_eq l _ h3]
  | .agg l, y, h => by
    cases y <;> simp [AV.same] at h
    rw [AV.sameL_eq l _ h]
  | .ref o i, y, h => by cases y <;> simp [AV.same] at h; simp [h]
  | .rp l i, y, h => by
    cases y <;> simp [AV.same] at h
    rw [AV.sameL_eq l _ h.1, h.2]
  | .nilp, y, h => by cases y <;> simp [AV.same] at h; rfl
  | .clo f l, y, h => by
    cases y <;> simp [AV.same] at h
    rw [h.1, AV.sameL_eq l _ h.2]
  | .tup l, y, h => by
    cases y <;> simp [AV.same] at h
    rw [AV.sameL_eq l _ h]
  | .undef, y, h => by cases y <;> simp [AV.same] at h; rfl
  | .sq q w, y, h => by cases y <;> simp [AV.same] at h; simp [h]
  | .ua q w i j, y, h => by cases y <;> simp [AV.same] at h; simp [h]
  | .sv q w m, y, h => by cases y <;> simp [AV.same] at h; simp [h]
  | .bclo f o, y, h => by cases y <;> simp [AV.same] at h; simp [h]
theorem AV.sameL_eq : ∀ (l r : List AV), AV.sameL l r = true → l = r
  | [], r, h => by cases r <;> simp [AV.sameL] at h; rfl
  | x :: l, r, h => by
    cases r <;> simp [AV.sameL] at h
    rw [AV.same_eq x _ h.1, AV.sameL_eq l _ h.2]
end
mutual
theorem AV.same_refl : ∀ (x : AV), AV.same x x = true
  | .int k n => by simp [AV.same]
  | .bool b => by simp [AV.same]
  | .str s => by simp [AV.same]
  | .lst m w l => by simp [AV.same, AV.sameL_refl l]
  | .agg l => by simp [AV.same, AV.sameL_refl l]
  | .ref o i => by simp [AV.same]
  | .rp l i => by simp [AV.same, AV.sameL_refl l]
  | .nilp => rfl
  | .clo f l => by simp [AV.same, AV.sameL_refl l]
  | .tup l => by simp [AV.same, AV.sameL_refl l]
  | .undef => rfl
  | .sq q w => by simp [AV.same]
  | .ua q w i j => by simp [AV.same]
  | .sv q w m => by simp [AV.same]
  | .bclo f o => by simp [AV.same]
theorem AV.sameL_refl : ∀ (l : List AV), AV.sameL l l = true
  | [] => rfl
  | x :: l => by simp [AV.sameL, AV.same_refl x, AV.sameL_refl l]
end
abbrev CR := List AV × List (Nat × List AV)
abbrev LR := Nat × List AV × List (List AV)
class Tok (R : Type) where
  tok : Bool → R
  untok : R → Option Bool
  untok_tok : ∀ b, untok (tok b) = some b
  same : R → R → Bool
  same_eq : ∀ x y, same x y = true → x = y
  same_refl : ∀ x, same x x = true
def sameI : List (Nat × List AV) → List (Nat × List AV) → Bool
  | [], [] => true
  | (i, x) :: l, (j, y) :: r => Nat.beq i j && AV.sameL x y && sameI l r
  | _, _ => false
theorem zis : ∀ (l r : List (Nat × List AV)), sameI l r = true → l = r
  | [], r, h => by cases r <;> simp [sameI] at h; rfl
  | (i, x) :: l, r, h => by
    cases r <;> simp [sameI] at h
    rename_i p r; obtain ⟨⟨h1, h2⟩, h3⟩ := h; rw [h1, AV.sameL_eq _ _ h2, zis _ _ h3]
theorem zdw : ∀ (l : List (Nat × List AV)), sameI l l = true
  | [] => rfl
  | (i, x) :: l => by simp [sameI, AV.sameL_refl, zdw l]
def sameLL : List (List AV) → List (List AV) → Bool
  | [], [] => true
  | x :: l, y :: r => AV.sameL x y && sameLL l r
  | _, _ => false
theorem zgg : ∀ (l r : List (List AV)), sameLL l r = true → l = r
  | [], r, h => by cases r <;> simp [sameLL] at h; rfl
  | x :: l, r, h => by
    cases r <;> simp [sameLL] at h
    rw [AV.sameL_eq _ _ h.1, zgg _ _ h.2]
theorem zbo : ∀ (l : List (List AV)), sameLL l l = true
  | [] => rfl
  | x :: l => by simp [sameLL, AV.sameL_refl, zbo l]
instance tokC : Tok CR where
  tok b := ([.bool b], [])
  untok r := match r with | ([.bool b], []) => some b | _ => none
  untok_tok _ := rfl
  same x y := AV.sameL x.1 y.1 && sameI x.2 y.2
  same_eq x y h := by
    simp only [Bool.and_eq_true] at h; exact Prod.ext (AV.sameL_eq _ _ h.1) (zis _ _ h.2)
  same_refl x := by simp [AV.sameL_refl, zdw]
instance tokL : Tok LR where
  tok b := (bif b then 1 else 0, [], [])
  untok r := match r with | (0, [], []) => some false | (1, [], []) => some true | _ => none
  untok_tok b := by cases b <;> rfl
  same x y := Nat.beq x.1 y.1 && AV.sameL x.2.1 y.2.1 && sameLL x.2.2 y.2.2
  same_eq x y h := by
    simp only [Bool.and_eq_true, Nat.beq_eq] at h; exact Prod.ext h.1.1 (Prod.ext (AV.sameL_eq _ _ h.1.2) (zgg _ _ h.2))
  same_refl x := by simp [AV.sameL_refl, zbo]
def sameO {R : Type} [Tok R] : Option R → Option R → Bool
  | some x, some y => Tok.same x y
  | _, _ => false
theorem z3i {R : Type} [Tok R] {x y : Option R} (h : sameO x y = true) : x = y := by
  cases x <;> cases y <;> simp [sameO] at h
  rw [Tok.same_eq _ _ h]
abbrev CT := Nat → List AV → List (Nat × List AV) → Option CR
abbrev LT := Nat → List AV → List (List AV) → Option LR
def OA {R : Type} [Tok R] (c : CT) (l : LT) : Alg (Option R) where
  fail := none
  chk b x := bif b then x else none
  asm _ x := x
  amb f := bif sameO (f true) (f false) then f true else none
  call f as1 ins k := (c f as1 ins).bind fun ro => k ro.1 ro.2
  callx f as1 k := (c f as1 []).bind fun ro => match ro.2 with | [] => k ro.1 | _ => none
  both x y := bif sameO x y then x else none
  join f k := (f fun b => some (Tok.tok b)).bind fun r => (Tok.untok r).bind k
  loop id vs os k := (l id vs os).bind fun x => k x.1 x.2.1 x.2.2
def OB {R : Type} [Tok R] (c : Nat → CT) (l : Nat → LT) : Alg (Nat → Option R) where
  fail := fun _ => none
  chk b x := fun n => bif b then x n else none
  asm _ x := x
  amb f := fun n => bif sameO (f true n) (f false n) then f true n else none
  call f as1 ins k := fun n => (c n f as1 ins).bind fun ro => k ro.1 ro.2 n
  callx f as1 k := fun n => (c n f as1 []).bind fun ro => match ro.2 with | [] => k ro.1 n | _ => none
  both x y := fun n => bif sameO (x n) (y n) then x n else none
  join f k := fun n => (f (fun b _ => some (Tok.tok b)) n).bind fun r => (Tok.untok r).bind fun b => k b n
  loop id vs os k := fun n => (l n id vs os).bind fun x => k x.1 x.2.1 x.2.2 n
theorem OA_PA {R : Type} [Tok R] {c : CT} {l : LT} {M : Meaning} (hm : ∀ f as1 ins Q Q', M.call f as1 ins Q → (∀ r o, Q r o → Q' r o) → M.call f as1 ins Q') (hml : ∀ id vs os Q Q', M.loop id vs os Q → (∀ j r o, Q j r o → Q' j r o) → M.loop id vs os Q')
    (hc : ∀ f as1 ins r o, c f as1 ins = some (r, o) → M.call f as1 ins (fun r' o' => r' = r ∧ o' = o)) (hl : ∀ id vs os j r o, l id vs os = some (j, r, o) → M.loop id vs os (fun j' r' o' => j' = j ∧ r' = r ∧ o' = o)) :
    AlgRel (OA c l) (PA M) (fun (Q : R → Prop) (x : Option R) (p : Prop) => ∀ r, x = some r → Q r → p) where
  fail i y r h := by cases h
  chk i b x y h r := by cases b <;> simp [OA]; exact h r
  asm i p x y h r hr hq := fun _ => h r hr hq
  amb i f g h r hr hq := by
    simp only [OA] at hr
    cases hs : sameO (f true) (f false) with
    | false => rw [hs] at hr; cases hr
    | true =>
      rw [hs] at hr; have e := z3i hs; exact ⟨h true r hr hq, h false r (e ▸ hr) hq⟩
  call i f as1 ins k k' h r hr hq := by
    simp only [OA, Option.bind_eq_some_iff] at hr; obtain ⟨⟨r1, o1⟩, h1, h2⟩ := hr
    exact hm _ _ _ _ _ (hc _ _ _ _ _ h1) (by rintro r' o' ⟨rfl, rfl⟩; exact h _ _ r h2 hq)
  callx i f as1 k k' h r hr hq := by
    simp only [OA, Option.bind_eq_some_iff] at hr; obtain ⟨⟨r1, o1⟩, h1, h2⟩ := hr
    cases o1 with
    | nil => exact ⟨r1, hm _ _ _ _ _ (hc _ _ _ _ _ h1) (by rintro r' o' ⟨rfl, rfl⟩; exact ⟨rfl, rfl⟩), h _ r h2 hq⟩
    | cons p l => cases h2
  both i x y x' y' h h' r hr hq := by
    simp only [OA] at hr
    cases hs : sameO x y with
    | false => rw [hs] at hr; cases hr
    | true =>
      rw [hs] at hr; have e := z3i hs; exact ⟨h r hr hq, h' r (e ▸ hr) hq⟩
  join i f f' k k' h h' r hr hq := by
    simp only [OA, Option.bind_eq_some_iff] at hr; obtain ⟨r1, h1, b, h2, h3⟩ := hr; refine ⟨b, ?_, h' b r h3 hq⟩; refine h (fun r => r = r1) _ _ ?_ r1 h1 rfl; intro b' r2 e2 e3
    have e4 : Tok.tok b' = r1 := by simpa [e3] using e2
    rw [← e4, Tok.untok_tok] at h2; exact Option.some.inj h2
  loop i id vs os k k' h r hr hq := by
    simp only [OA, Option.bind_eq_some_iff] at hr; obtain ⟨⟨j, r1, o1⟩, h1, h2⟩ := hr
    exact hml _ _ _ _ _ (hl _ _ _ _ _ _ h1) (by rintro j' r' o' ⟨rfl, rfl, rfl⟩; exact h _ _ _ r h2 hq)
theorem zlx {R : Type} [Tok R] {c c' : CT} {l l' : LT} (hc : ∀ f as1 ins r, c f as1 ins = some r → c' f as1 ins = some r) (hl : ∀ id vs os r, l id vs os = some r → l' id vs os = some r) :
    AlgRel (OA c l) (OA c' l') (fun (_ : Unit) (x y : Option R) => ∀ r, x = some r → y = some r) where
  fail i y r h := by cases h
  chk i b x y h r := by cases b <;> simp [OA]; exact h r
  asm i p x y h r hr := h r hr
  amb i f g h r hr := by
    simp only [OA] at hr ⊢
    cases hs : sameO (f true) (f false) with
    | false => rw [hs] at hr; cases hr
    | true =>
      rw [hs] at hr; have e := z3i hs; rw [h true r hr, h false r (e ▸ hr)]; simp [sameO, Tok.same_refl]
  call i f as1 ins k k' h r hr := by
    simp only [OA, Option.bind_eq_some_iff] at hr ⊢; obtain ⟨r1, h1, h2⟩ := hr; exact ⟨r1, hc _ _ _ _ h1, h _ _ r h2⟩
  callx i f as1 k k' h r hr := by
    simp only [OA, Option.bind_eq_some_iff] at hr ⊢; obtain ⟨⟨r1, o1⟩, h1, h2⟩ := hr; refine ⟨_, hc _ _ _ _ h1, ?_⟩
    cases o1 with
    | nil => exact h _ r h2
    | cons p l => cases h2
  both i x y x' y' h h' r hr := by
    simp only [OA] at hr ⊢
    cases hs : sameO x y with
    | false => rw [hs] at hr; cases hr
    | true =>
      rw [hs] at hr; have e := z3i hs; rw [h r hr, h' r (e ▸ hr)]; simp [sameO, Tok.same_refl]
  join i f f' k k' h h' r hr := by
    simp only [OA, Option.bind_eq_some_iff] at hr ⊢; obtain ⟨r1, h1, b, h2, h3⟩ := hr; exact ⟨r1, h () _ _ (fun b r h => h) r1 h1, b, h2, h' b r h3⟩
  loop i id vs os k k' h r hr := by
    simp only [OA, Option.bind_eq_some_iff] at hr ⊢; obtain ⟨r1, h1, h2⟩ := hr; exact ⟨r1, hl _ _ _ _ h1, h _ _ _ r h2⟩
theorem OB_at {R : Type} [Tok R] {c : Nat → CT} {l : Nat → LT} (n : Nat) :
    AlgRel (OB c l) (OA (c n) (l n)) (fun (_ : Unit) (x : Nat → Option R) (y : Option R) => ∀ r, x n = some r → y = some r) where
  fail i y r h := by cases h
  chk i b x y h r := by cases b <;> simp [OA, OB]; exact h r
  asm i p x y h r hr := h r hr
  amb i f g h r hr := by
    simp only [OA, OB] at hr ⊢
    cases hs : sameO (f true n) (f false n) with
    | false => rw [hs] at hr; cases hr
    | true =>
      rw [hs] at hr; have e := z3i hs; rw [h true r hr, h false r (e ▸ hr)]; simp [sameO, Tok.same_refl]
  call i f as1 ins k k' h r hr := by
    simp only [OA, OB, Option.bind_eq_some_iff] at hr ⊢; obtain ⟨r1, h1, h2⟩ := hr; exact ⟨r1, h1, h _ _ r h2⟩
  callx i f as1 k k' h r hr := by
    simp only [OA, OB, Option.bind_eq_some_iff] at hr ⊢; obtain ⟨⟨r1, o1⟩, h1, h2⟩ := hr; refine ⟨_, h1, ?_⟩
    cases o1 with
    | nil => exact h _ r h2
    | cons p l => cases h2
  both i x y x' y' h h' r hr := by
    simp only [OA, OB] at hr ⊢
    cases hs : sameO (x n) (y n) with
    | false => rw [hs] at hr; cases hr
    | true =>
      rw [hs] at hr; have e := z3i hs; rw [h r hr, h' r (e ▸ hr)]; simp [sameO, Tok.same_refl]
  join i f f' k k' h h' r hr := by
    simp only [OA, OB, Option.bind_eq_some_iff] at hr ⊢; obtain ⟨r1, h1, b, h2, h3⟩ := hr; exact ⟨r1, h () _ _ (fun b r h => h) r1 h1, b, h2, h' b r h3⟩
  loop i id vs os k k' h r hr := by
    simp only [OA, OB, Option.bind_eq_some_iff] at hr ⊢; obtain ⟨r1, h1, h2⟩ := hr; exact ⟨r1, h1, h _ _ _ r h2⟩
theorem zpe {R : Type} [Tok R] {c : CT} {l : LT} {cn : Nat → CT} {ln : Nat → LT} (hc : ∀ f as1 ins r, c f as1 ins = some r → ∃ n0, ∀ n, n0 ≤ n → cn n f as1 ins = some r) (hl : ∀ id vs os r, l id vs os = some r → ∃ n0, ∀ n, n0 ≤ n → ln n id vs os = some r) :
    AlgRel (OA c l) (OB cn ln) (fun (_ : Unit) (x : Option R) (y : Nat → Option R) => ∀ r, x = some r → ∃ n0, ∀ n, n0 ≤ n → y n = some r) where
  fail i y r h := by cases h
  chk i b x y h r := by cases b <;> simp [OA, OB]; exact h r
  asm i p x y h r hr := h r hr
  amb i f g h r hr := by
    simp only [OA, OB] at hr ⊢
    cases hs : sameO (f true) (f false) with
    | false => rw [hs] at hr; cases hr
    | true =>
      rw [hs] at hr; have e := z3i hs; obtain ⟨n1, h1⟩ := h true r hr; obtain ⟨n2, h2⟩ := h false r (e ▸ hr); refine ⟨max n1 n2, fun n hn => ?_⟩
      rw [h1 n (by omega), h2 n (by omega)]
      simp [sameO, Tok.same_refl]
  call i f as1 ins k k' h r hr := by
    simp only [OA, OB, Option.bind_eq_some_iff] at hr ⊢; obtain ⟨r1, h1, h2⟩ := hr; obtain ⟨n1, h1⟩ := hc _ _ _ _ h1; obtain ⟨n2, h2⟩ := h _ _ r h2
    exact ⟨max n1 n2, fun n hn => ⟨r1, h1 n (by omega), h2 n (by omega)⟩⟩
  callx i f as1 k k' h r hr := by
    simp only [OA, OB, Option.bind_eq_some_iff] at hr ⊢; obtain ⟨⟨r1, o1⟩, h1, h2⟩ := hr
    cases o1 with
    | nil =>
      obtain ⟨n1, h1⟩ := hc _ _ _ _ h1; obtain ⟨n2, h2⟩ := h _ r h2
      exact ⟨max n1 n2, fun n hn => ⟨_, h1 n (by omega), h2 n (by omega)⟩⟩
    | cons p l => cases h2
  both i x y x' y' h h' r hr := by
    simp only [OA, OB] at hr ⊢
    cases hs : sameO x y with
    | false => rw [hs] at hr; cases hr
    | true =>
      rw [hs] at hr; have e := z3i hs; obtain ⟨n1, h1⟩ := h r hr; obtain ⟨n2, h2⟩ := h' r (e ▸ hr); refine ⟨max n1 n2, fun n hn => ?_⟩
      rw [h1 n (by omega), h2 n (by omega)]
      simp [sameO, Tok.same_refl]
  join i f f' k k' h h' r hr := by
    simp only [OA, OB, Option.bind_eq_some_iff] at hr ⊢; obtain ⟨r1, h1, b, h2, h3⟩ := hr; obtain ⟨n1, h1⟩ := h () _ (fun b _ => some (Tok.tok b)) (fun b r h => ⟨0, fun _ _ => h⟩) r1 h1; obtain ⟨n2, h3⟩ := h' b r h3
    exact ⟨max n1 n2, fun n hn => ⟨r1, h1 n (by omega), b, h2, h3 n (by omega)⟩⟩
  loop i id vs os k k' h r hr := by
    simp only [OA, OB, Option.bind_eq_some_iff] at hr ⊢; obtain ⟨r1, h1, h2⟩ := hr; obtain ⟨n1, h1⟩ := hl _ _ _ _ h1; obtain ⟨n2, h2⟩ := h _ _ _ r h2
    exact ⟨max n1 n2, fun n hn => ⟨r1, h1 n (by omega), h2 n (by omega)⟩⟩
structure Env where
  P : Program
  T : Tab
  an : Nat → Nat → Ann
  key : Nat → List AV → Nat
  X : CT := fun _ _ _ => none
def oshOf (T : Tab) : Nat → List AV → List Nat → List (Nat × List Sh)
  | j, v :: vs, t :: ts => match v, (T.ty t).k with
    | .ref _ _, .ptr e => (j, T.osh e) :: oshOf T (j + 1) vs ts
    | _, _ => oshOf T (j + 1) vs ts
  | _, _, _ => []
abbrev LTs := Nat → Nat → LT
def withB {β : Type} (P : Program) (f : Nat) (k : Func → Code → Option β) : Option β := match P.funcs[f]? with | some fn => (match fn.body with | some body => k fn body | none => none) | none => none
def stepC0 (E : Env) (c : CT) (l : LTs) : CT := fun f args ins => withB E.P f fun fn body =>
  bif codeOK fn.ntmps body && ckOK (E.an f (E.key f args)) body && Nat.ble args.length fn.ntmps then
    runF (OA c (l f (E.key f args))) E.T (E.an f (E.key f args)) fn body (E.T.res f) (oshOf E.T 0 args fn.params.toList) args ins fun r o => some (r, o)
  else none
def stepC (E : Env) (c : CT) (l : LTs) : CT := fun f args ins => match E.X f args ins with | some r => some r | none => stepC0 E c l f args ins
def stepL (E : Env) (c : CT) (l : LTs) : LTs := fun f key id vs os => withB E.P f fun fn body =>
  bif codeOK fn.ntmps (loopB (E.an f key) body id) && ckOK (E.an f key) body then
    roundV (OA c (l f key)) id ((E.an f key).loop id) ((E.an f key).out id) (fun env objs cl k => run (OA c (l f key)) E.T (E.an f key) (loopB (E.an f key) body id) env objs cl k) vs os (fun vs os => l f key id vs os) (fun j vs os => some (j, vs, os))
  else none
def G (E : Env) : Nat → CT × LTs
  | 0 => (fun _ _ _ => none, fun _ _ _ _ _ => none)
  | n + 1 => (stepC E (G E n).1 (G E n).2, stepL E (G E n).1 (G E n).2)
theorem z3q {β : Type} {P : Program} {f : Nat} {k : Func → Code → Option β} {r : β} (h : withB P f k = some r) : ∃ fn body, P.funcs[f]? = some fn ∧ fn.body = some body ∧ k fn body = some r := by
  unfold withB at h
  split at h
  · split at h
    · exact ⟨_, _, ‹_›, ‹_›, h⟩
    · cases h
  · cases h
theorem z4a {β : Type} {b : Bool} {x : Option β} {r : β} (h : (bif b then x else none) = some r) : b = true ∧ x = some r := by
  cases b; cases h; exact ⟨rfl, h⟩
theorem z2j {an : Ann} {B : Nat → Code} {id : Nat} : ∀ {c b : Code}, loopsIn an B c → findLoop id c = some b → loopsIn an B b
  | .seq a c, b, hl, h => by
    simp only [findLoop] at h
    split at h
    · rename_i e; cases h; exact z2j hl.1 e
    · exact z2j hl.2.1 h
  | .cond _ a c, b, hl, h => by
    simp only [findLoop] at h
    split at h
    · rename_i e; cases h; exact z2j hl.1 e
    · exact z2j hl.2 h
  | .block _ a, b, hl, h => by simp only [findLoop] at h; exact z2j (c := a) hl h
  | .loop a, b, hl, h => by
    simp only [findLoop] at h
    cases hb : Nat.beq (firstR a) id with
    | true => rw [hb] at h; cases h; exact hl.2
    | false => rw [hb] at h; exact z2j (c := a) hl.2 h
  | .skip, b, _, h => by cases h
  | .region _ _ _, b, _, h => by cases h
  | .exit _, b, _, h => by cases h
  | .ret, b, _, h => by cases h
  | .label _, b, _, h => by cases h
  | .goto _, b, _, h => by cases h
  | .scope _, b, _, h => by cases h
  | .rangeFunc _ _ _ _, b, _, h => by cases h
  | .refuse _, b, _, h => by cases h
theorem z2z {an : Ann} {B : Nat → Code} {r : Nat} : ∀ {c b : Code}, loopsIn an B c → findBlk an r c = some b → loopsIn an B b
  | .seq a c, b, hl, h => by
    simp only [findBlk] at h
    cases hm : an.meet (firstR c) && Nat.beq (firstR c) r with
    | true => rw [hm] at h; cases h; exact hl.2.1
    | false =>
      rw [hm] at h; simp only [cond_false] at h
      split at h
      · rename_i e; cases h; exact z2z hl.1 e
      · exact z2z hl.2.1 h
  | .cond _ a c, b, hl, h => by
    simp only [findBlk] at h
    split at h
    · rename_i e; cases h; exact z2z hl.1 e
    · exact z2z hl.2 h
  | .block _ a, b, hl, h => z2z (c := a) hl h
  | .loop a, b, hl, h => z2z (c := a) hl.2 h
  | .skip, b, _, h => by cases h
  | .region _ _ _, b, _, h => by cases h
  | .exit _, b, _, h => by cases h
  | .ret, b, _, h => by cases h
  | .label _, b, _, h => by cases h
  | .goto _, b, _, h => by cases h
  | .scope _, b, _, h => by cases h
  | .rangeFunc _ _ _ _, b, _, h => by cases h
  | .refuse _, b, _, h => by cases h
theorem znl {an : Ann} {c : Code} {id : Nat} (h : ckOK an c = true) : loopsIn an (loopB an c) (loopB an c id) := by
  have hl := zir h
  have e : loopB an c id = bif isL id then (match findLoop id c with | some b => b | none => .skip) else match findBlk an (id - 1000000) c with | some b => b | none => .skip := rfl
  rw [e]
  cases isL id with
  | true =>
    dsimp only [cond_true]
    split
    · rename_i b e; exact z2j hl e
    · trivial
  | false =>
    dsimp only [cond_false]
    split
    · rename_i b e; exact z2z hl e
    · trivial
structure EnvOK' (E : Env) : Prop where
  T : TabOK E.P E.T
  F : FnOK E.P E.T
  m : E.P.follows .mixedOrders = true
  X : ∀ f as1 ins r o, E.X f as1 ins = some (r, o) → Sem E.P f as1 ins (fun r' o' => r' = r ∧ o' = o) := by intro f as1 ins r o h; cases h
theorem zly {E : Env} (hE : EnvOK' E) : ∀ n,
    (∀ f args ins r o, (G E n).1 f args ins = some (r, o) → Sem E.P f args ins (fun r' o' => r' = r ∧ o' = o)) ∧
    (∀ f key id vs os j r o, (G E n).2 f key id vs os = some (j, r, o) → ∀ fn body, E.P.funcs[f]? = some fn → fn.body = some body → LSem E.P fn.ntmps (E.an f key) (loopB (E.an f key) body) id vs os (fun j' r' o' => j' = j ∧ r' = r ∧ o' = o))
  | 0 => ⟨fun _ _ _ _ _ h => (nomatch h), fun _ _ _ _ _ _ _ _ h => (nomatch h)⟩
  | n + 1 => by
    obtain ⟨ih1, ih2⟩ := zly hE n; refine ⟨fun f args ins r o h => ?_, fun f key id vs os j r o h fn body hf hb => ?_⟩
    · have h : stepC E _ _ f args ins = _ := h
      unfold stepC at h
      split at h
      · rename_i r' e
        cases h
        exact hE.X f args ins r o e
      obtain ⟨fn, body, hf, hb, h⟩ := z3q h; obtain ⟨h0, h⟩ := z4a h; simp only [Bool.and_eq_true] at h0; refine znj (an := E.an f (E.key f args)) (rs := E.T.res f) (osh := oshOf E.T 0 args fn.params.toList) hE.T hE.F hE.m hf hb h0.1.1 (zir h0.1.2) (Nat.le_of_ble_eq_true h0.2) ?_; refine zdf (OA_PA (M := SM E.P (LSem E.P fn.ntmps (E.an f (E.key f args)) (loopB (E.an f (E.key f args)) body))) (fun _ _ _ _ _ h hq => Sem.mono h hq) (fun _ _ _ _ _ h hq => LSem.mono h hq) ih1 (fun id vs os j r o h => ih2 f _ id vs os j r o h fn body hf hb)) (i := fun x => x = (r, o)) ?_ (r, o) h rfl
      intro a b r1 e1 e2
      cases e1
      cases e2
      exact ⟨rfl, rfl⟩
    · obtain ⟨fn', body', hf', hb', h⟩ := z3q (show stepL E _ _ f key id vs os = _ from h)
      rw [hf] at hf'; cases hf'
      rw [hb] at hb'; cases hb'
      obtain ⟨h0, h⟩ := z4a h; simp only [Bool.and_eq_true] at h0; refine zng hE.T hE.F hE.m h0.1 (znl h0.2) ?_; have H := OA_PA (R := LR) (c := (G E n).1) (l := (G E n).2 f key) (M := SM E.P (LSem E.P fn.ntmps (E.an f key) (loopB (E.an f key) body))) (fun _ _ _ _ _ h hq => Sem.mono h hq) (fun _ _ _ _ _ h hq => LSem.mono h hq) ih1 (fun id vs os j r o h => ih2 f _ id vs os j r o h fn body hf hb); refine z83 H (i := fun x => x = (j, r, o)) (fun _ _ _ _ _ hk => r_run H hk) ?_ ?_ (j, r, o) h rfl
      · rintro a b ⟨j1, r1, o1⟩ e1 e2
        cases e2
        exact ih2 f key id a b j r o e1 fn body hf hb
      · intro a b c r1 e1 e2
        cases e1
        cases e2
        exact ⟨rfl, rfl, rfl⟩
theorem zpf {E : Env} {c c' : CT} {l l' : LTs} (hc : ∀ f as1 ins r, c f as1 ins = some r → c' f as1 ins = some r) (hl : ∀ f key id vs os r, l f key id vs os = some r → l' f key id vs os = some r) :
    (∀ f as1 ins r, stepC E c l f as1 ins = some r → stepC E c' l' f as1 ins = some r) ∧ (∀ f key id vs os r, stepL E c l f key id vs os = some r → stepL E c' l' f key id vs os = some r) := by
  refine ⟨fun f args ins r h => ?_, fun f key id vs os r h => ?_⟩
  · unfold stepC at h ⊢
    split at h
    · exact h
    obtain ⟨fn, body, hf, hb, h⟩ := z3q h; obtain ⟨h0, h⟩ := z4a h; unfold stepC0 withB
    rw [hf]; dsimp only; rw [hb]; dsimp only; rw [h0]; exact zdf (zlx hc (hl f _)) (i := ()) (fun a b r h => h) r h
  · obtain ⟨fn, body, hf, hb, h⟩ := z3q h
    obtain ⟨h0, h⟩ := z4a h; unfold stepL withB
    rw [hf]; dsimp only; rw [hb]; dsimp only; rw [h0]; have H := zlx (R := LR) hc (hl f key); exact z83 H (i := ()) (body := fun env objs cl k => run (OA c (l f key)) E.T (E.an f key) (loopB (E.an f key) body id) env objs cl k) (body' := fun env objs cl k => run (OA c' (l' f key)) E.T (E.an f key) (loopB (E.an f key) body id) env objs cl k) (fun _ _ _ _ _ hk => r_run H (i := ()) hk) (fun a b r h => hl _ _ _ _ _ _ h) (fun _ _ _ r h => h) r h
theorem zdx {E : Env} : ∀ n, (∀ f as1 ins r, (G E n).1 f as1 ins = some r → (G E (n + 1)).1 f as1 ins = some r) ∧ (∀ f key id vs os r, (G E n).2 f key id vs os = some r → (G E (n + 1)).2 f key id vs os = some r)
  | 0 => ⟨fun _ _ _ _ h => (nomatch h), fun _ _ _ _ _ _ h => (nomatch h)⟩
  | n + 1 => zpf (zdx n).1 (zdx n).2
theorem z7w {E : Env} {n m : Nat} (h : n ≤ m) : (∀ f as1 ins r, (G E n).1 f as1 ins = some r → (G E m).1 f as1 ins = some r) ∧ (∀ f key id vs os r, (G E n).2 f key id vs os = some r → (G E m).2 f key id vs os = some r) := by
  induction h with
  | refl => exact ⟨fun _ _ _ _ h => h, fun _ _ _ _ _ _ h => h⟩
  | step _ ih => exact ⟨fun f as1 ins r h => (zdx _).1 _ _ _ _ (ih.1 _ _ _ _ h), fun f key id vs os r h => (zdx _).2 _ _ _ _ _ _ (ih.2 _ _ _ _ _ _ h)⟩
noncomputable def tbl (E : Env) : CT := fun f as1 ins => open Classical in if h : ∃ r n, (G E n).1 f as1 ins = some r then some h.choose else none
noncomputable def ltbl (E : Env) : LTs := fun f key id vs os => open Classical in if h : ∃ r n, (G E n).2 f key id vs os = some r then some h.choose else none
theorem z4b {E : Env} {f : Nat} {as1 : List AV} {ins : List (Nat × List AV)} {r : CR} : tbl E f as1 ins = some r ↔ ∃ n, (G E n).1 f as1 ins = some r := by
  unfold tbl; constructor
  · intro h
    split at h
    · rename_i he
      cases h
      exact he.choose_spec
    · cases h
  · rintro ⟨n, h⟩
    have he : ∃ r n, (G E n).1 f as1 ins = some r := ⟨r, n, h⟩; rw [dif_pos he]; obtain ⟨m, hm⟩ := he.choose_spec; have h1 := (z7w (Nat.le_max_left n m)).1 _ _ _ _ h; have h2 := (z7w (Nat.le_max_right n m)).1 _ _ _ _ hm; rw [h1] at h2; exact h2.symm
theorem zit {E : Env} {f key id : Nat} {vs : List AV} {os : List (List AV)} {r : LR} : ltbl E f key id vs os = some r ↔ ∃ n, (G E n).2 f key id vs os = some r := by
  unfold ltbl; constructor
  · intro h
    split at h
    · rename_i he
      cases h
      exact he.choose_spec
    · cases h
  · rintro ⟨n, h⟩
    have he : ∃ r n, (G E n).2 f key id vs os = some r := ⟨r, n, h⟩; rw [dif_pos he]; obtain ⟨m, hm⟩ := he.choose_spec; have h1 := (z7w (Nat.le_max_left n m)).2 _ _ _ _ _ _ h; have h2 := (z7w (Nat.le_max_right n m)).2 _ _ _ _ _ _ hm; rw [h1] at h2; exact h2.symm
theorem zlz {E : Env} : ∀ f as1 ins r, tbl E f as1 ins = some r → ∃ n0, ∀ n, n0 ≤ n → (G E n).1 f as1 ins = some r := fun f as1 ins r h => by
  obtain ⟨n, h⟩ := z4b.1 h; exact ⟨n, fun m hm => (z7w hm).1 _ _ _ _ h⟩
theorem zce {E : Env} : ∀ f key id vs os r, ltbl E f key id vs os = some r → ∃ n0, ∀ n, n0 ≤ n → (G E n).2 f key id vs os = some r := fun f key id vs os r h => by
  obtain ⟨n, h⟩ := zit.1 h; exact ⟨n, fun m hm => (z7w hm).2 _ _ _ _ _ _ h⟩
theorem ziu {E : Env} {f : Nat} {args : List AV} {ins : List (Nat × List AV)} {r : CR} (h : stepC E (tbl E) (ltbl E) f args ins = some r) : tbl E f args ins = some r := by
  refine z4b.2 ?_; unfold stepC at h
  split at h
  · rename_i r' e
    refine ⟨1, ?_⟩; show stepC E _ _ f args ins = some r; unfold stepC; rw [e]; exact h
  rename_i eX; obtain ⟨fn, body, hf, hb, h⟩ := z3q h; obtain ⟨h0, h⟩ := z4a h; obtain ⟨n0, h⟩ := zdf (zpe (cn := fun n => (G E n).1) (ln := fun n => (G E n).2 f (E.key f args)) zlz (fun id vs os r h => zce _ _ _ _ _ _ h)) (i := ()) (k' := fun r o _ => some (r, o)) (fun a b r h => ⟨0, fun _ _ => h⟩) r h; refine ⟨n0 + 1, ?_⟩; show stepC E (G E n0).1 (G E n0).2 f args ins = some r; unfold stepC; rw [eX]
  unfold stepC0 withB
  rw [hf]; dsimp only; rw [hb]; dsimp only; rw [h0]; exact zdf (OB_at (c := fun n => (G E n).1) (l := fun n => (G E n).2 f (E.key f args)) n0) (i := ()) (fun a b r h => h) r (h n0 (Nat.le_refl _))
theorem tbl_X {E : Env} {f : Nat} {args : List AV} {ins : List (Nat × List AV)} {r : CR} (h : E.X f args ins = some r) : tbl E f args ins = some r :=
  ziu (by unfold stepC; rw [h])
theorem zpg {E : Env} {f key id : Nat} {vs : List AV} {os : List (List AV)} {r : LR} (h : stepL E (tbl E) (ltbl E) f key id vs os = some r) : ltbl E f key id vs os = some r := by
  refine zit.2 ?_; obtain ⟨fn, body, hf, hb, h⟩ := z3q h; obtain ⟨h0, h⟩ := z4a h; have H := zpe (R := LR) (cn := fun n => (G E n).1) (ln := fun n => (G E n).2 f key) zlz (fun id vs os r h => zce f key _ _ _ _ h); obtain ⟨n0, h⟩ := z83 H (i := ()) (body' := fun env objs cl k => run (OB (fun n => (G E n).1) (fun n => (G E n).2 f key)) E.T (E.an f key) (loopB (E.an f key) body id) env objs cl k) (next' := fun vs os n => (G E n).2 f key id vs os) (k' := fun j vs os _ => some (j, vs, os)) (fun _ _ _ _ _ hk => r_run H (i := ()) hk) (fun a b r h => zce _ _ _ _ _ _ h) (fun a b c r h => ⟨0, fun _ _ => h⟩) r h
  refine ⟨n0 + 1, ?_⟩; show stepL E (G E n0).1 (G E n0).2 f key id vs os = some r; unfold stepL withB
  rw [hf]; dsimp only; rw [hb]; dsimp only; rw [h0]; have H2 := OB_at (R := LR) (c := fun n => (G E n).1) (l := fun n => (G E n).2 f key) n0; exact z83 H2 (i := ()) (body := fun env objs cl k => run (OB (fun n => (G E n).1) (fun n => (G E n).2 f key)) E.T (E.an f key) (loopB (E.an f key) body id) env objs cl k) (body' := fun env objs cl k => run (OA (G E n0).1 ((G E n0).2 f key)) E.T (E.an f key) (loopB (E.an f key) body id) env objs cl k) (fun _ _ _ _ _ hk => r_run H2 (i := ()) hk) (fun a b r h => h) (fun _ _ _ r h => h) r (h n0 (Nat.le_refl _))
theorem zph {E : Env} (hE : EnvOK' E) {f : Nat} {args : List AV} {ins : List (Nat × List AV)} {r : List AV} {o : List (Nat × List AV)} (h : tbl E f args ins = some (r, o)) : Sem E.P f args ins (fun r' o' => r' = r ∧ o' = o) := by
  obtain ⟨n, h⟩ := z4b.1 h; exact (zly hE n).1 _ _ _ _ _ h
end V
namespace V
open Go Go.ChangeShapes Go.WideShapes Go.ChangeAt Go.RowKit
variable {H : Type} {enc : TypeId × Value → H} {P : Program} {T : Tab}
def Each {α β : Type} (R : α → β → Prop) : List α → List β → Prop
  | [], [] => True
  | a :: l, b :: r => R a b ∧ Each R l r
  | _, _ => False
def Each3 {α β γ : Type} (R : α → β → γ → Prop) : List α → List β → List γ → Prop
  | [], [], [] => True
  | a :: l, b :: r, c :: s => R a b c ∧ Each3 R l r s
  | _, _, _ => False
def ElemOf (td : TD) (x : AV) (ys : List AV) : Prop := if td.isAgg then x = .agg ys else ys = [x]
def Fit (T : Tab) : Nat → Nat → DataW H → List AV → Prop
  | 0, _, _, _ => False
  | n + 1, t, d, xs =>
    match (T.ty t).k with
    | .bool => ∃ b, d = .lit (.bool b) ∧ xs = [.bool b]
    | .int k => ∃ z, (Lit.int k z).wf = true ∧ d = .lit (.int k z) ∧ xs = [.int k z]
    | .str => ∃ s : List UInt8, d = .lit (.string s) ∧ xs = [.str s]
    | .slice e => ∃ (ds sp : List (DataW H)) (l : List AV), (d = .slice ds sp ∨ (d = .nil ∧ ds = [])) ∧ xs = [.lst .ro (T.ty e).size l] ∧ Each (fun d x => ∃ ys, Fit T n e d ys ∧ ElemOf (T.ty e) x ys) ds l
    | .struct fs => ∃ (ds : List (DataW H)) (yss : List (List AV)), d = .agg ds ∧ xs = yss.flatten ∧ Each3 (fun f d ys => Fit T n f.2 d ys) fs ds yss
    | _ => False
def offsOK (T : Tab) : Nat → List (Nat × Nat) → Nat → Bool
  | o, [], n => Nat.beq o n
  | o, f :: fs, n => Nat.beq f.1 o && offsOK T (o + (T.ty f.2).size) fs n
def fitTy (T : Tab) : Nat → Nat → Bool
  | 0, _ => false
  | n + 1, t => (T.ty t).known &&
    match (T.ty t).k with
    | .bool | .int _ | .str => Nat.beq (T.ty t).size 1
    | .slice e => Nat.beq (T.ty t).size 1 && Nat.blt 0 (T.ty e).size && fitTy T n e
    | .struct fs => offsOK T 0 fs (T.ty t).size && fs.all (fun f => fitTy T n f.2)
    | _ => false
theorem TabOK.cellsOf (hT : TabOK P T) {t : Nat} (hk : (T.ty t).known = true) : P.cellsOf t = (T.ty t).size := by
  obtain ⟨i, h1, h2, _⟩ := (hT t).info hk; simp [Program.cellsOf, h1, h2]
def snapE (W : World) : E3 := ⟨fun b i => W.cell? ⟨b, i, none⟩, fun _ => none, fun _ => none⟩
theorem RepL.append {E : E3} : ∀ {l r : List AV} {vs us : List Value}, RepL E l vs → RepL E r us → RepL E (l ++ r) (vs ++ us)
  | [], r, vs, us, h, h' => by simp only [RepL] at h; subst h; simpa using h'
  | x :: l, r, vs, us, h, h' => by
    simp only [RepL] at h; obtain ⟨v, r', rfl, h1, h2, h3, h4⟩ := h; exact ⟨v, r' ++ us, rfl, h1, h2, h3, RepL.append h4 h'⟩
def fitsAt (E : E3) (T : Tab) (W : World) (n t : Nat) (d : DataW H) (cs : List Value) : Prop := ∃ xs, RepL E xs cs ∧ xs.all AV.flat1 = true ∧ Fit T n t d xs
theorem Each.length {α β : Type} {R : α → β → Prop} : ∀ {l : List α} {r : List β}, Each R l r → l.length = r.length
  | [], [], _ => rfl
  | _ :: _, _ :: _, h => by simp [Each.length h.2]
  | [], _ :: _, h => h.elim
  | _ :: _, [], h => h.elim
theorem zsc {E : E3} {td : TD} {ys : List AV} {cs : List Value} (hr : RepL E ys cs) (hf : ys.all AV.flat1 = true) (h1 : td.isAgg = false → cs.length = 1) : ∃ x u, ElemOf td x ys ∧ x.flat = true ∧ Rep E x u ∧ u.cells.toList = cs := by
  unfold ElemOf
  cases hagg : td.isAgg with
  | true =>
    refine ⟨.agg ys, .agg cs.toArray, by simp, by simpa [AV.flat] using hf, ?_, by simp [Value.cells]⟩
    simp only [Rep]; exact ⟨cs, rfl, hr⟩
  | false =>
    have hl := h1 hagg; have hl2 := hr.length
    match cs, hl, ys, hl2 with
    | [c], _, [y], _ =>
      simp only [RepL] at hr; obtain ⟨v, r, e, h1, h2, h3, h4⟩ := hr
      cases e
      refine ⟨y, c, by simp, ?_, h3, ?_⟩
      · simp only [List.all_cons, List.all_nil, Bool.and_true] at hf
        cases y <;> first | exact hf | (simp [AV.flat1] at hf)
      · cases c <;> first | rfl | (simp [Value.oneCell'] at h2)
theorem z6i {E : E3} {x : AV} {v : Value} (h1 : x.one = true) (h2 : v.oneCell' = true) (h3 : Rep E x v) : RepL E [x] [v] := by
  simp only [RepL]; exact ⟨v, [], rfl, h1, h2, h3, rfl⟩
theorem znm (hT : TabOK P T) {n t : Nat} (hk : fitTy T n t = true) (ha : (T.ty t).isAgg = false) : P.cellsOf t = 1 := by
  cases n with
  | zero => cases hk
  | succ n =>
    simp only [fitTy, Bool.and_eq_true] at hk; rw [hT.cellsOf hk.1]; have h := hk.2; unfold TD.isAgg at ha
    cases hh : (T.ty t).k <;> rw [hh] at h ha <;> simp at h ha
    all_goals first | exact h | exact h.1 | exact h.1.1
theorem zm0 {α β : Type} {R : α → β → Prop} : ∀ (l : List α), (∀ (i : Nat) (a : α), l[i]? = some a → ∃ b, R a b) → ∃ r, Each R l r
  | [], _ => ⟨[], trivial⟩
  | a :: l, h => by
    obtain ⟨b, hb⟩ := h 0 a rfl; obtain ⟨r, hr⟩ := zm0 l fun i a ha => h (i + 1) a ha; exact ⟨b :: r, hb, hr⟩
theorem Each.get {α β : Type} {R : α → β → Prop} : ∀ {l : List α} {r : List β}, Each R l r → ∀ (i : Nat) (b : β), r[i]? = some b → ∃ a, l[i]? = some a ∧ R a b
  | [], [], _, i, b, h => by simp at h
  | a :: l, b :: r, h, i, x, hx => by
    cases i with
    | zero => simp at hx; subst hx; exact ⟨a, rfl, h.1⟩
    | succ i => exact Each.get h.2 i x (by simpa using hx)
  | [], _ :: _, h, _, _, _ => h.elim
  | _ :: _, [], h, _, _, _ => h.elim
theorem Each.mk {α β : Type} {R : α → β → Prop} : ∀ {l : List α} {r : List β}, l.length = r.length → (∀ (i : Nat) (a : α) (b : β), l[i]? = some a → r[i]? = some b → R a b) → Each R l r
  | [], [], _, _ => trivial
  | a :: l, b :: r, hl, h => ⟨h 0 a b rfl rfl, Each.mk (by simpa using hl) fun i a b h1 h2 => h (i + 1) a b h1 h2⟩
  | [], _ :: _, h, _ => by cases h
  | _ :: _, [], h, _ => by cases h
theorem zbp {n t : Nat} (h : fitTy T n t = true) : (T.ty t).known = true := by
  cases n with
  | zero => cases h
  | succ n => simp only [fitTy, Bool.and_eq_true] at h; exact h.1
theorem zdy (hT : TabOK P T) {W : World} {m n : Nat} {cs : List Value} (ih : ∀ (n t : Nat) (cs : List Value) (d : DataW H) (ps : List MemPlace), fitTy T m t = true → DataW.trod enc P W 0 (fun _ => true) true n t cs = some (d, ps) → fitsAt (snapE W) T W m t d cs) :
    ∀ (fs : List Field) (o : Nat) (xs : List (DataW H × List MemPlace)), offsOK T o (fs.map fun f => (f.offset, f.type)) cs.length = true → (fs.all fun f => fitTy T m f.type) = true → xs.length = fs.length →
      (∀ (i : Nat) (f : Field), fs[i]? = some f → DataW.trod enc P W 0 (fun _ => true) true n f.type ((cs.drop f.offset).take (P.cellsOf f.type)) = xs[i]?) →
      ∃ yss : List (List AV), Each3 (fun (f : Nat × Nat) (d : DataW H) ys => Fit T m f.2 d ys) (fs.map fun f => (f.offset, f.type)) (xs.map (·.1)) yss ∧ RepL (snapE W) yss.flatten (cs.drop o) ∧ yss.flatten.all AV.flat1 = true
  | [], o, xs, ho, _, hl, _ => by
    simp only [List.map_nil, offsOK, Nat.beq_eq] at ho
    cases xs with
    | nil => exact ⟨[], trivial, by simp [RepL, ho], rfl⟩
    | cons x l => simp at hl
  | f :: fs, o, xs, ho, hf, hl, hx => by
    cases xs with
    | nil => simp at hl
    | cons x xs =>
      simp only [List.map_cons, offsOK, Bool.and_eq_true, Nat.beq_eq] at ho; simp only [List.all_cons, Bool.and_eq_true] at hf; have h0 := hx 0 f rfl; simp only [List.getElem?_cons_zero] at h0; obtain ⟨ys, g1, g2, g3⟩ := ih _ _ _ x.1 x.2 hf.1 h0
      obtain ⟨yss, q1, q2, q3⟩ := zdy hT ih fs (o + (T.ty f.type).size) xs ho.2 hf.2 (by simpa using hl) fun i f h => by simpa using hx (i + 1) f (by simpa using h)
      refine ⟨ys :: yss, ⟨g3, q1⟩, ?_, by simp [g2, q3]⟩
      rw [List.flatten_cons]
      have e : cs.drop o = (cs.drop f.offset).take (P.cellsOf f.type) ++ cs.drop (o + (T.ty f.type).size) := by
        rw [ho.1, hT.cellsOf (zbp hf.1), ← List.drop_drop]; exact (List.take_append_drop _ _).symm
      rw [e]; exact RepL.append g1 q2
theorem zcf (hT : TabOK P T) {W : World} : ∀ (m : Nat) (n t : Nat) (cs : List Value) (d : DataW H) (ps : List MemPlace), fitTy T m t = true → DataW.trod enc P W 0 (fun _ => true) true n t cs = some (d, ps) → fitsAt (snapE W) T W m t d cs
  | 0, n, t, cs, d, ps, hk, h => by cases hk
  | m + 1, n, t, cs, d, ps, hk, h => by
    simp only [fitTy, Bool.and_eq_true] at hk; obtain ⟨hkn, hk⟩ := hk; have hd := (hT t).desc; have hsz := hT.cellsOf hkn; unfold fitsAt Fit
    cases hh : (T.ty t).k with
    | int k =>
      rw [hh] at hd; obtain ⟨z, rfl, e, hw⟩ := DataW.trod_int hd h
      cases e
      exact ⟨[.int k z], z6i rfl rfl (by rw [Rep]), rfl, z, hw, rfl, rfl⟩
    | bool =>
      rw [hh] at hd; obtain ⟨b, rfl, e⟩ := DataW.trod_bool hd h
      cases e
      exact ⟨[.bool b], z6i rfl rfl (by rw [Rep]), rfl, b, rfl, rfl⟩
    | str =>
      rw [hh] at hd; obtain ⟨s, rfl, e, hs⟩ := DataW.trod_string hd h
      cases e
      refine ⟨[.str s.data.toList], z6i rfl rfl ?_, rfl, _, rfl, rfl⟩; rw [Rep]; refine ⟨rfl, ?_⟩
      have : s.data.toList.length = s.size := by rw [Array.length_toList]; rfl
      rw [this]; exact hs
    | slice e =>
      rw [hh] at hd hk; simp only [Bool.and_eq_true, Nat.beq_eq, Nat.blt_eq] at hk; have hce := hT.cellsOf (zbp hk.2)
      rcases DataW.trod_slice hd h with ⟨rfl, e1⟩ | ⟨a, len, cap, elems, rest, n', rfl, rfl, e1, _, hlc, hcap, hlen, hel, _, _⟩
      · cases e1
        refine ⟨[.lst .ro (T.ty e).size []], z6i rfl rfl ?_, rfl, [], [], [], .inr ⟨rfl, rfl⟩, rfl, trivial⟩; rw [Rep]
        exact ⟨none, 0, 0, rfl, rfl, Nat.le_refl _, Nat.zero_le _, fun h => absurd rfl h, fun h => (by cases h), fun q h => (by cases h)⟩
      · cases e1
        have hone : ∀ i x, elems[i]? = some x → a.spot = none ∧ ∃ y u, (∃ ys, Fit T m e x.1 ys ∧ ElemOf (T.ty e) y ys) ∧ y.flat = true ∧ Rep (snapE W) y u ∧ u.cells.size = (T.ty e).size ∧ ∀ j, j < (T.ty e).size → W.cell? ⟨a.block, a.off + i * (T.ty e).size + j, none⟩ = u.cells[j]? := by
          intro i x hx
          have hi : i < len := by rw [← hlen]; exact (List.getElem?_eq_some_iff.1 hx).1
          have h1 := hel i hi; rw [hx, hce] at h1; simp only [Option.bind_eq_some_iff] at h1; obtain ⟨ecs, hc1, hc2⟩ := h1; obtain ⟨_, hcl, hcg⟩ := World.cells?_some hc1
          have hsp : (a.add (i * (T.ty e).size)).spot = none := by
            have h2 := hcg 0 hk.1.2
            have e0 : (a.add (i * (T.ty e).size)).add 0 = a.add (i * (T.ty e).size) := by simp [Addr.add]
            rw [e0, List.getElem?_eq_getElem (by omega)] at h2
            unfold World.cell? at h2
            cases hs : (a.add (i * (T.ty e).size)).spot with
            | none => rfl
            | some z => rw [hs] at h2; split at h2 <;> simp at h2
          obtain ⟨ys, g1, g2, g3⟩ := zcf hT m n' e ecs x.1 x.2 hk.2 hc2
          obtain ⟨y, u, q1, q2, q3, q4⟩ := zsc (td := T.ty e) g1 g2 (fun ha => by rw [hcl, ← hce]; exact znm hT hk.2 ha)
          have ha0 : a.spot = none := by
            -- the first element's place
            have hx0 := hel 0 (by omega)
            rw [Nat.zero_mul] at hx0
            have e0 : a.add 0 = a := by simp [Addr.add]
            rw [e0, hce] at hx0
            have hsome : (elems[0]?).isSome = true := by
              rw [List.getElem?_eq_getElem (by omega)]; rfl
            rw [← hx0] at hsome
            cases hc : W.cells? 0 a (T.ty e).size with
            | none => rw [hc] at hsome; cases hsome
            | some cs0 =>
              obtain ⟨_, hcl0, hcg0⟩ := World.cells?_some hc; have h2 := hcg0 0 hk.1.2
              rw [e0, List.getElem?_eq_getElem (by omega)] at h2
              unfold World.cell? at h2
              cases hs : a.spot with
              | none => rfl
              | some z => rw [hs] at h2; split at h2 <;> simp at h2
          refine ⟨ha0, y, u, ⟨ys, g3, q1⟩, q2, q3, by rw [← Array.length_toList, q4, hcl], fun j hj => ?_⟩
          have h5 := hcg j hj
          have e3 : (a.add (i * (T.ty e).size)).add j = ⟨a.block, a.off + i * (T.ty e).size + j, none⟩ := by
            obtain ⟨b0, o0, s0⟩ := a; simp only at ha0; subst ha0; unfold Addr.add
            split <;> split <;> simp_all [Nat.add_assoc]
          rw [e3] at h5; rw [h5, ← q4]; simp
        obtain ⟨l, hl⟩ := zm0 (R := fun (p : (DataW H × List MemPlace) × Nat) y => ∃ u, (∃ ys, Fit T m e p.1.1 ys ∧ ElemOf (T.ty e) y ys) ∧ y.flat = true ∧ Rep (snapE W) y u ∧ u.cells.size = (T.ty e).size ∧ ∀ j, j < (T.ty e).size → W.cell? ⟨a.block, a.off + p.2 * (T.ty e).size + j, none⟩ = u.cells[j]?) elems.zipIdx (by
          intro i p hp; rw [List.getElem?_zipIdx] at hp
          cases hx : elems[i]? with
          | none => rw [hx] at hp; cases hp
          | some x =>
            rw [hx] at hp; simp only [Option.map_some, Option.some.injEq, Nat.zero_add] at hp; obtain ⟨_, y, u, h1⟩ := hone i x hx; subst hp; exact ⟨y, u, h1⟩)
        have hll : len = l.length := by rw [← hl.length, List.length_zipIdx, hlen]
        have hget : ∀ (i : Nat) (y : AV), l[i]? = some y → ∃ x, elems[i]? = some x ∧ ∃ u, (∃ ys, Fit T m e x.1 ys ∧ ElemOf (T.ty e) y ys) ∧ y.flat = true ∧ Rep (snapE W) y u ∧ u.cells.size = (T.ty e).size ∧ ∀ j, j < (T.ty e).size → W.cell? ⟨a.block, a.off + i * (T.ty e).size + j, none⟩ = u.cells[j]? := by
          intro i y hy; obtain ⟨p, hp, hr⟩ := hl.get i y hy; rw [List.getElem?_zipIdx] at hp
          cases hx : elems[i]? with
          | none => rw [hx] at hp; cases hp
          | some x =>
            rw [hx] at hp; simp only [Option.map_some, Option.some.injEq, Nat.zero_add] at hp; subst hp; exact ⟨x, rfl, hr⟩
        refine ⟨[.lst .ro (T.ty e).size l], z6i rfl rfl ?_, rfl, elems.map (·.1), rest.map (·.1), l, .inl rfl, rfl, ?_⟩
        · rw [Rep]
          refine ⟨some a, len, cap, rfl, hll, hlc, hcap, fun hne => ?_, fun h => (by cases h), fun q h => (by cases h)⟩
          have hpos : 0 < l.length := by
            cases l with
            | nil => exact absurd rfl hne
            | cons _ _ => simp
          obtain ⟨x0, hx0, _⟩ := hget 0 l[0] (List.getElem?_eq_getElem hpos); have ha0 := (hone 0 x0 hx0).1; refine ⟨a.block, a.off, ?_, ?_⟩
          · obtain ⟨b0, o0, s0⟩ := a
            simp only at ha0; subst ha0; rfl
          · refine RepE.of_get fun i y hy => ?_
            obtain ⟨x, hx, u, _, h2, h3, h4, h5⟩ := hget i y hy; exact ⟨h2, u, h3, h4, h5⟩
        · refine Each.mk (by rw [List.length_map, hlen, hll]) fun i d y h1 h2 => ?_
          obtain ⟨x, hx, u, h3, _⟩ := hget i y h2; rw [List.getElem?_map, hx] at h1
          cases h1
          exact h3
    | struct fs =>
      rw [hh] at hk; simp only [Bool.and_eq_true] at hk; obtain ⟨fields, hu, hfs⟩ := hT.struct hh; obtain ⟨xs, n', rfl, e, hcl, hxl, hx⟩ := DataW.trod_struct hu h
      cases e
      subst hfs
      have hcl' : cs.length = (T.ty t).size := by rw [hcl, hsz]
      rw [← hcl'] at hk
      obtain ⟨yss, q1, q2, q3⟩ := zdy hT (enc := enc) (W := W) (m := m) (n := n') (cs := cs) (fun n t cs d ps h1 h2 => zcf hT m n t cs d ps h1 h2) fields.toList 0 xs hk.1 (by simpa using hk.2) (by simpa using hxl) (fun i f hf => hx i f (by simpa using hf))
      exact ⟨yss.flatten, by simpa using q2, q3, xs.map (·.1), yss, rfl, rfl, q1⟩
    | array len e => rw [hh] at hk; cases hk
    | ptr e => rw [hh] at hk; cases hk
    | fn => rw [hh] at hk; cases hk
    | other => rw [hh] at hk; cases hk
end V
namespace V
open Go Go.ChangeShapes Go.WideShapes Go.ChangeAt Go.RowKit
variable {H : Type} {enc : TypeId × Value → H} {P : Program} {T : Tab}
abbrev FitAll (T : Tab) (m : Nat) (ts : List Nat) (ds : List (DataW H)) (xs : List AV) : Prop := Each3 (fun t d x => ∃ ys, Fit T m t d ys ∧ ElemOf (T.ty t) x ys) ts ds xs
theorem znn (hT : TabOK P T) {m t base : Nat} {W : World} {v : Value} (hk : fitTy T m t = true) (h : Value.okWide P W .any base t v) : ((T.ty t).isAgg = true → ∃ cs, v = .agg cs) ∧ ((T.ty t).isAgg = false → v.oneCell' = true ∧ v.cells.toList = [v]) := by
  cases m with
  | zero => cases hk
  | succ m =>
    simp only [fitTy, Bool.and_eq_true] at hk; have hd := (hT t).desc; unfold TD.isAgg; have hk := hk.2
    cases hh : (T.ty t).k <;> rw [hh] at hd hk <;> simp at hk ⊢
    · unfold Value.okWide Cell.okWide at h; simp only [hd] at h; unfold Cell.ok at h; simp only [hd] at h; cases v <;> first | exact h.elim | exact ⟨rfl, rfl⟩
    · unfold Value.okWide Cell.okWide at h; simp only [hd] at h; unfold Cell.ok at h; simp only [hd] at h; cases v <;> first | exact h.elim | exact ⟨rfl, rfl⟩
    · unfold Value.okWide Cell.okWide at h; simp only [hd] at h; unfold Cell.ok at h; simp only [hd] at h; cases v <;> first | exact h.elim | exact ⟨rfl, rfl⟩
    · unfold Value.okWide Cell.okWide at h; simp only [hd] at h; unfold Cell.ok at h; simp only [hd] at h; cases v <;> first | exact h.elim | exact ⟨rfl, rfl⟩
    · obtain ⟨fields, hu, _⟩ := hd
      unfold Value.okWide at h; simp only [hu] at h; obtain ⟨cs, e, _⟩ := h; exact ⟨cs, e⟩
theorem ziv (hT : TabOK P T) {W : World} {m base : Nat} : ∀ (ts : List Nat) (vs : List Value) (ds : List (DataW H)) (ps : List MemPlace), (ts.all fun t => fitTy T m t) = true → (∀ (j : Nat) t v, ts[j]? = some t → vs[j]? = some v → Value.okWide P W .any base t v) →
    DataW.TrodAll enc P W 0 (fun _ => true) true ts vs ds ps → ∃ xs, RepT (snapE W) xs vs ∧ xs.all AV.flat = true ∧ FitAll T m ts ds xs
  | [], [], [], ps, _, _, h => ⟨[], by simp [RepT], rfl, trivial⟩
  | t :: ts, v :: vs, d :: ds, ps, hk, hv, h => by
    simp only [List.all_cons, Bool.and_eq_true] at hk; obtain ⟨p, q, ⟨fuel, h1⟩, h2, _⟩ := h
    obtain ⟨xs, g1, g2, g3⟩ := ziv hT ts vs ds q hk.2 (fun j t v a b => hv (j + 1) t v (by simpa using a) (by simpa using b)) h2
    obtain ⟨ys, q1, q2, q3⟩ := zcf hT m fuel t _ d p hk.1 h1; have ho := znn hT hk.1 (hv 0 t v rfl rfl)
    cases ha : (T.ty t).isAgg with
    | true =>
      obtain ⟨cs, rfl⟩ := ho.1 ha
      refine ⟨.agg ys :: xs, ?_, by simp [AV.flat, q2, g2], ⟨ys, q3, by simp [ElemOf, ha]⟩, g3⟩
      simp only [RepT]; refine ⟨_, _, rfl, ?_, g1⟩; rw [Rep]
      exact ⟨cs.toList, by simp, by simpa [Value.cells] using q1⟩
    | false =>
      obtain ⟨h3, h4⟩ := ho.2 ha; rw [h4] at q1; have hl := q1.length
      match ys, hl with
      | [y], _ =>
        simp only [RepL] at q1; obtain ⟨v', r, e, a1, a2, a3, a4⟩ := q1
        cases e
        refine ⟨y :: xs, ?_, ?_, ⟨[y], q3, by simp [ElemOf, ha]⟩, g3⟩
        · simp only [RepT]
          exact ⟨_, _, rfl, a3, g1⟩
        · simp only [List.all_cons, List.all_nil, Bool.and_true, Bool.and_eq_true] at q2 ⊢
          refine ⟨?_, g2⟩
          cases y <;> first | exact q2 | (simp [AV.flat1] at q2)
  | [], [], _ :: _, _, _, _, h => h.elim
  | [], _ :: _, _, _, _, _, h => by cases ‹List (DataW H)› <;> exact h.elim
  | _ :: _, [], _, _, _, _, h => by cases ‹List (DataW H)› <;> exact h.elim
  | _ :: _, _ :: _, [], _, _, _, h => h.elim
theorem zpi {E : Env} (hE : EnvOK' E) {W : World} {m base f : Nat} {ts : List Nat} {args : Array Value} {ds : List (DataW H)} {ps : List MemPlace} (hk : (ts.all fun t => fitTy E.T m t) = true)
    (hv : ∀ (j : Nat) t v, ts[j]? = some t → args.toList[j]? = some v → Value.okWide E.P W .any base t v) (hA : DataW.TrodAll enc E.P W 0 (fun _ => true) true ts args.toList ds ps)
    (hlaw : ∀ xs, FitAll E.T m ts ds xs → tbl E f xs [] = some ([.bool true], [])) : Calls E.P f args W fun e W' => e = .returned (.bool true) ∧ Below W.heap.size W W' := by
  obtain ⟨xs, h1, h2, h3⟩ := ziv hE.T ts args.toList ds ps hk hv hA; have hs := zph hE (hlaw xs h3)
  have hI : WI ⟨W, fun _ => False, (snapE W).S, fun _ => none, fun _ _ h => by cases h⟩ (snapE W) (objsOf []) (fun _ => none) W := by
    refine ⟨fun _ _ _ h => h, ?_, ?_, ?_, ?_, ?_, ?_, ?_, ?_, ?_, ⟨rfl, rfl, rfl, Nat.le_refl _, fun _ _ _ => rfl⟩, fun _ _ _ h => h, fun _ _ _ h => .inl h, ?_⟩
    · intro o cs h; cases h
    · intro o cs h; cases h
    · intro q h; cases h
    · intro q l h; cases h
    · intro o o' cs cs' b h; cases h
    · intro q q' v v' s s' g h; cases h
    · intro o cs b q v s h; cases h
    · intro o b h; cases h
    · intro q x h; cases h
    · intro j b cs h; cases h
  refine (hs ⟨W, fun _ => False, (snapE W).S, fun _ => none, fun _ _ h => by cases h⟩ (snapE W) (fun _ => none) W args rfl rfl rfl (by rw [z6g h2]; exact h1) hI (fun j cs h => by cases h) (fun j x e => z38 (List.all_eq_true.1 h2 _ (List.mem_of_getElem? e)))).mono ?_
  rintro e W' ⟨v, res, outs, E', cl', g1, ⟨g2, g3⟩, g4, g5, _⟩; subst g2
  rw [show one1 (frR 0 [AV.bool true]) = .bool true from rfl, Rep] at g4
  subst g4; exact ⟨g1, g5.step.os, g5.step.tape, g5.step.output, g5.step.size, fun k hk => g5.step.block k hk id⟩
theorem z93 (hl : laidOutB P = true) {W W' : World} (hb : Below W.heap.size W W') : ∀ {ts : List TypeId} {vs : List Value} {ds : List (DataW H)} {ps : List MemPlace}, (ts.all fun t => P.readableRec t && decide (t < P.types.size)) = true →
    DataW.TrodAll enc P W 0 (fun _ => true) true ts vs ds ps → DataW.TrodAll enc P W' 0 (fun b => decide (b < W.heap.size)) true ts vs ds ps
  | [], [], [], ps, _, h => h
  | t :: ts, v :: vs, d :: ds, ps, hk, h => by
    simp only [List.all_cons, Bool.and_eq_true, decide_eq_true_eq] at hk; obtain ⟨p, q, h1, h2, e⟩ := h
    refine ⟨p, q, Below.trod hl hk.1.1 hk.1.2 h1 hb ?_, z93 hl hb (by simpa using hk.2) h2, e⟩
    obtain ⟨n, h1⟩ := h1; exact DataW.trod_lt n _ _ _ h1
  | [], [], _ :: _, _, _, h => h.elim
  | [], _ :: _, _, _, _, h => by cases ‹List (DataW H)› <;> exact h.elim
  | _ :: _, [], _, _, _, h => by cases ‹List (DataW H)› <;> exact h.elim
  | _ :: _, _ :: _, [], _, _, h => h.elim
theorem zsd {f : Func} {s : ChangeSpec} {W W' : World} {args : Array Value} {ds : List (DataW H)} {before p : List MemPlace} {tb : TypeId} (hl : laidOutB P = true) (hr : (f.params.toList.all fun t => P.readableRec t && decide (t < P.types.size)) = true)
    (hres : f.resultTypes = #[tb]) (htb : P.underlying tb = some .bool) (hv : s.vars = []) (hs : s.fn H (ds ++ []) = { results := [.lit (.bool true)], args := ds }) (hW : DataW.Whole enc P f.params.toList s.vars false W args.toList ds [] before) (hA : DataW.TrodAll enc P W 0 (fun _ => true) true f.params.toList args.toList ds p) (hb : Below W.heap.size W W') :
    s.post enc P f false true false false W args (.bool true) W' := by
  refine ⟨ds, [], before, [], p, [], hW, ?_, ?_, ?_, hb.frame _, fun h => by cases h⟩
  · rw [hres, hs]
    exact trodAll_mk1 (shut_bool htb true)
  · rw [hs]
    exact z93 hl hb hr hA
  · rw [hs, hv]
    rfl
end V
namespace V
def tyTab : List TD := [
  (TD.mk TK.other 1 0 [] Sh.any []),
  (TD.mk TK.fn 1 8 [] Sh.any []),
  (TD.mk (TK.int IntKind.i64) 1 8 [(AV.int IntKind.i64 0)] (Sh.int IntKind.i64) []),
  (TD.mk (TK.int IntKind.i64) 1 8 [(AV.int IntKind.i64 0)] (Sh.int IntKind.i64) []),
  (TD.mk TK.bool 1 1 [(AV.bool false)] Sh.bool []),
  (TD.mk (TK.int IntKind.u8) 1 1 [(AV.int IntKind.u8 0)] (Sh.int IntKind.u8) []),
  (TD.mk (TK.int IntKind.u8) 1 1 [(AV.int IntKind.u8 0)] (Sh.int IntKind.u8) []),
  (TD.mk (TK.struct [(0, 2), (1, 3), (2, 4), (3, 6)]) 4 24 [(AV.int IntKind.i64 0), (AV.int IntKind.i64 0), (AV.bool false), (AV.int IntKind.u8 0)] (Sh.agg [(Sh.int IntKind.i64), (Sh.int IntKind.i64), Sh.bool, (Sh.int IntKind.u8)]) [(Sh.int IntKind.i64), (Sh.int IntKind.i64), Sh.bool, (Sh.int IntKind.u8)]),
  (TD.mk (TK.struct [(0, 2), (1, 3), (2, 4), (3, 6)]) 4 24 [(AV.int IntKind.i64 0), (AV.int IntKind.i64 0), (AV.bool false), (AV.int IntKind.u8 0)] (Sh.agg [(Sh.int IntKind.i64), (Sh.int IntKind.i64), Sh.bool, (Sh.int IntKind.u8)]) [(Sh.int IntKind.i64), (Sh.int IntKind.i64), Sh.bool, (Sh.int IntKind.u8)]),
  (TD.mk TK.str 1 16 [(AV.str [])] Sh.str []),
  (TD.mk TK.str 1 16 [(AV.str [])] Sh.str []),
  (TD.mk TK.str 1 16 [(AV.str [])] Sh.str []),
  (TD.mk (TK.int IntKind.u64) 1 8 [(AV.int IntKind.u64 0)] (Sh.int IntKind.u64) []),
  (TD.mk (TK.struct [(0, 9), (1, 12)]) 2 24 [(AV.str []), (AV.int IntKind.u64 0)] (Sh.agg [Sh.str, (Sh.int IntKind.u64)]) []),
  (TD.mk (TK.struct [(0, 9), (1, 12)]) 2 24 [(AV.str []), (AV.int IntKind.u64 0)] (Sh.agg [Sh.str, (Sh.int IntKind.u64)]) []),
  (TD.mk (TK.ptr 167) 1 8 [AV.nilp] Sh.any []),
  (TD.mk (TK.ptr 170) 1 8 [AV.nilp] Sh.any []),
  (TD.mk (TK.ptr 180) 1 8 [AV.nilp] Sh.any []),
  (TD.mk (TK.struct [(0, 17)]) 1 8 [AV.nilp] (Sh.agg [Sh.any]) []),
  (TD.mk (TK.struct [(0, 17)]) 1 8 [AV.nilp] (Sh.agg [Sh.any]) []),
  (TD.mk TK.other 1 16 [] Sh.any []),
  (TD.mk (TK.int IntKind.i32) 1 4 [(AV.int IntKind.i32 0)] (Sh.int IntKind.i32) []),
  (TD.mk (TK.slice 57) 1 24 [(AV.lst Md.nil 0 [])] (Sh.lst 2) []),
  (TD.mk (TK.struct [(0, 3), (1, 22)]) 2 32 [(AV.int IntKind.i64 0), (AV.lst Md.nil 0 [])] (Sh.agg [(Sh.int IntKind.i64), (Sh.lst 2)]) []),
  (TD.mk (TK.struct [(0, 3), (1, 22)]) 2 32 [(AV.int IntKind.i64 0), (AV.lst Md.nil 0 [])] (Sh.agg [(Sh.int IntKind.i64), (Sh.lst 2)]) []),
  (TD.mk (TK.struct [(0, 3), (1, 3), (2, 3), (3, 3), (4, 3)]) 5 40 [(AV.int IntKind.i64 0), (AV.int IntKind.i64 0), (AV.int IntKind.i64 0), (AV.int IntKind.i64 0), (AV.int IntKind.i64 0)] (Sh.agg [(Sh.int IntKind.i64), (Sh.int IntKind.i64), (Sh.int IntKind.i64), (Sh.int IntKind.i64), (Sh.int IntKind.i64)]) [(Sh.int IntKind.i64), (Sh.int IntKind.i64), (Sh.int IntKind.i64), (Sh.int IntKind.i64), (Sh.int IntKind.i64)]),
  (TD.mk (TK.struct [(0, 3), (1, 3), (2, 3), (3, 3), (4, 3)]) 5 40 [(AV.int IntKind.i64 0), (AV.int IntKind.i64 0), (AV.int IntKind.i64 0), (AV.int IntKind.i64 0), (AV.int IntKind.i64 0)] (Sh.agg [(Sh.int IntKind.i64), (Sh.int IntKind.i64), (Sh.int IntKind.i64), (Sh.int IntKind.i64), (Sh.int IntKind.i64)]) [(Sh.int IntKind.i64), (Sh.int IntKind.i64), (Sh.int IntKind.i64), (Sh.int IntKind.i64), (Sh.int IntKind.i64)]),
  (TD.mk (TK.struct [(0, 3), (1, 9)]) 2 24 [(AV.int IntKind.i64 0), (AV.str [])] (Sh.agg [(Sh.int IntKind.i64), Sh.str]) [(Sh.int IntKind.i64), Sh.str]),
  (TD.mk (TK.struct [(0, 3), (1, 9)]) 2 24 [(AV.int IntKind.i64 0), (AV.str [])] (Sh.agg [(Sh.int IntKind.i64), Sh.str]) [(Sh.int IntKind.i64), Sh.str]),
  (TD.mk (TK.slice 3) 1 24 [(AV.lst Md.nil 0 [])] (Sh.lst 1) []),
  (TD.mk (TK.slice 26) 1 24 [(AV.lst Md.nil 0 [])] (Sh.lst 5) []),
  (TD.mk (TK.struct [(0, 3), (1, 3), (2, 3), (3, 3), (4, 3), (5, 3), (6, 3), (7, 26), (12, 28), (14, 29), (15, 30)]) 16 168 [(AV.int IntKind.i64 0), (AV.int IntKind.i64 0), (AV.int IntKind.i64 0), (AV.int IntKind.i64 0), (AV.int IntKind.i64 0), (AV.int IntKind.i64 0), (AV.int IntKind.i64 0), (AV.int IntKind.i64 0), (AV.int IntKind.i64 0), (AV.int IntKind.i64 0), (AV.int IntKind.i64 0), (AV.int IntKind.i64 0), (AV.int IntKind.i64 0), (AV.str []), (AV.lst Md.nil 0 []), (AV.lst Md.nil 0 [])] (Sh.agg [(Sh.int IntKind.i64), (Sh.int IntKind.i64), (Sh.int IntKind.i64), (Sh.int IntKind.i64), (Sh.int IntKind.i64), (Sh.int IntKind.i64), (Sh.int IntKind.i64), (Sh.int IntKind.i64), (Sh.int IntKind.i64), (Sh.int IntKind.i64), (Sh.int IntKind.i64), (Sh.int IntKind.i64), (Sh.int IntKind.i64), Sh.str, (Sh.lst 1), (Sh.lst 5)]) []),
  (TD.mk (TK.struct [(0, 3), (1, 3), (2, 3), (3, 3), (4, 3), (5, 3), (6, 3), (7, 26), (12, 28), (14, 29), (15, 30)]) 16 168 [(AV.int IntKind.i64 0), (AV.int IntKind.i64 0), (AV.int IntKind.i64 0), (AV.int IntKind.i64 0), (AV.int IntKind.i64 0), (AV.int IntKind.i64 0), (AV.int IntKind.i64 0), (AV.int IntKind.i64 0), (AV.int IntKind.i64 0), (AV.int IntKind.i64 0), (AV.int IntKind.i64 0), (AV.int IntKind.i64 0), (AV.int IntKind.i64 0), (AV.str []), (AV.lst Md.nil 0 []), (AV.lst Md.nil 0 [])] (Sh.agg [(Sh.int IntKind.i64), (Sh.int IntKind.i64), (Sh.int IntKind.i64), (Sh.int IntKind.i64), (Sh.int IntKind.i64), (Sh.int IntKind.i64), (Sh.int IntKind.i64), (Sh.int IntKind.i64), (Sh.int IntKind.i64), (Sh.int IntKind.i64), (Sh.int IntKind.i64), (Sh.int IntKind.i64), (Sh.int IntKind.i64), Sh.str, (Sh.lst 1), (Sh.lst 5)]) []),
  (TD.mk (TK.slice 28) 1 24 [(AV.lst Md.nil 0 [])] (Sh.lst 2) []),
  (TD.mk (TK.struct [(0, 3), (1, 33)]) 2 32 [(AV.int IntKind.i64 0), (AV.lst Md.nil 0 [])] (Sh.agg [(Sh.int IntKind.i64), (Sh.lst 2)]) []),
  (TD.mk (TK.struct [(0, 3), (1, 33)]) 2 32 [(AV.int IntKind.i64 0), (AV.lst Md.nil 0 [])] (Sh.agg [(Sh.int IntKind.i64), (Sh.lst 2)]) []),
  (TD.mk (TK.struct [(0, 24), (2, 32), (18, 35)]) 20 232 [(AV.int IntKind.i64 0), (AV.lst Md.nil 0 []), (AV.int IntKind.i64 0), (AV.int IntKind.i64 0), (AV.int IntKind.i64 0), (AV.int IntKind.i64 0), (AV.int IntKind.i64 0), (AV.int IntKind.i64 0), (AV.int IntKind.i64 0), (AV.int IntKind.i64 0), (AV.int IntKind.i64 0), (AV.int IntKind.i64 0), (AV.int IntKind.i64 0), (AV.int IntKind.i64 0), (AV.int IntKind.i64 0), (AV.str []), (AV.lst Md.nil 0 []), (AV.lst Md.nil 0 []), (AV.int IntKind.i64 0), (AV.lst Md.nil 0 [])] (Sh.agg [(Sh.int IntKind.i64), (Sh.lst 2), (Sh.int IntKind.i64), (Sh.int IntKind.i64), (Sh.int IntKind.i64), (Sh.int IntKind.i64), (Sh.int IntKind.i64), (Sh.int IntKind.i64), (Sh.int IntKind.i64), (Sh.int IntKind.i64), (Sh.int IntKind.i64), (Sh.int IntKind.i64), (Sh.int IntKind.i64), (Sh.int IntKind.i64), (Sh.int IntKind.i64), Sh.str, (Sh.lst 1), (Sh.lst 5), (Sh.int IntKind.i64), (Sh.lst 2)]) []),
  (TD.mk (TK.struct [(0, 24), (2, 32), (18, 35)]) 20 232 [(AV.int IntKind.i64 0), (AV.lst Md.nil 0 []), (AV.int IntKind.i64 0), (AV.int IntKind.i64 0), (AV.int IntKind.i64 0), (AV.int IntKind.i64 0), (AV.int IntKind.i64 0), (AV.int IntKind.i64 0), (AV.int IntKind.i64 0), (AV.int IntKind.i64 0), (AV.int IntKind.i64 0), (AV.int IntKind.i64 0), (AV.int IntKind.i64 0), (AV.int IntKind.i64 0), (AV.int IntKind.i64 0), (AV.str []), (AV.lst Md.nil 0 []), (AV.lst Md.nil 0 []), (AV.int IntKind.i64 0), (AV.lst Md.nil 0 [])] (Sh.agg [(Sh.int IntKind.i64), (Sh.lst 2), (Sh.int IntKind.i64), (Sh.int IntKind.i64), (Sh.int IntKind.i64), (Sh.int IntKind.i64), (Sh.int IntKind.i64), (Sh.int IntKind.i64), (Sh.int IntKind.i64), (Sh.int IntKind.i64), (Sh.int IntKind.i64), (Sh.int IntKind.i64), (Sh.int IntKind.i64), (Sh.int IntKind.i64), (Sh.int IntKind.i64), Sh.str, (Sh.lst 1), (Sh.lst 5), (Sh.int IntKind.i64), (Sh.lst 2)]) []),
  (TD.mk TK.fn 1 8 [] Sh.any []),
  (TD.mk (TK.struct [(0, 35), (2, 4), (3, 4), (4, 9)]) 5 56 [(AV.int IntKind.i64 0), (AV.lst Md.nil 0 []), (AV.bool false), (AV.bool false), (AV.str [])] (Sh.agg [(Sh.int IntKind.i64), (Sh.lst 2), Sh.bool, Sh.bool, Sh.str]) []),
  (TD.mk (TK.struct [(0, 35), (2, 4), (3, 4), (4, 9)]) 5 56 [(AV.int IntKind.i64 0), (AV.lst Md.nil 0 []), (AV.bool false), (AV.bool false), (AV.str [])] (Sh.agg [(Sh.int IntKind.i64), (Sh.lst 2), Sh.bool, Sh.bool, Sh.str]) []),
  (TD.mk (TK.int IntKind.i64) 1 8 [(AV.int IntKind.i64 0)] (Sh.int IntKind.i64) []),
  (TD.mk TK.other 1 0 [] Sh.any []),
  (TD.mk TK.fn 1 8 [] Sh.any []),
  (TD.mk (TK.struct [(0, 35), (2, 4), (3, 4), (4, 9)]) 5 56 [(AV.int IntKind.i64 0), (AV.lst Md.nil 0 []), (AV.bool false), (AV.bool false), (AV.str [])] (Sh.agg [(Sh.int IntKind.i64), (Sh.lst 2), Sh.bool, Sh.bool, Sh.str]) []),
  (TD.mk TK.other 1 0 [] Sh.any []),
  (TD.mk TK.fn 1 8 [] Sh.any []),
  (TD.mk TK.fn 1 8 [] Sh.any []),
  (TD.mk TK.fn 1 8 [] Sh.any []),
  (TD.mk TK.other 1 0 [] Sh.any []),
  (TD.mk TK.fn 1 8 [] Sh.any []),
  (TD.mk TK.fn 1 8 [] Sh.any []),
  (TD.mk TK.other 1 0 [] Sh.any []),
  (TD.mk TK.fn 1 8 [] Sh.any []),
  (TD.mk TK.fn 1 8 [] Sh.any []),
  (TD.mk TK.fn 1 8 [] Sh.any []),
  (TD.mk (TK.struct [(0, 3), (1, 30)]) 2 32 [(AV.int IntKind.i64 0), (AV.lst Md.nil 0 [])] (Sh.agg [(Sh.int IntKind.i64), (Sh.lst 5)]) []),
  (TD.mk (TK.struct [(0, 3), (1, 30)]) 2 32 [(AV.int IntKind.i64 0), (AV.lst Md.nil 0 [])] (Sh.agg [(Sh.int IntKind.i64), (Sh.lst 5)]) []),
  (TD.mk TK.fn 1 8 [] Sh.any []),
  (TD.mk TK.fn 1 8 [] Sh.any []),
  (TD.mk (TK.slice 32) 1 24 [(AV.lst Md.nil 0 [])] (Sh.lst 16) []),
  (TD.mk TK.other 1 0 [] Sh.any []),
  (TD.mk TK.fn 1 8 [] Sh.any []),
  (TD.mk (TK.struct [(0, 33), (1, 3)]) 2 32 [(AV.lst Md.nil 0 []), (AV.int IntKind.i64 0)] (Sh.agg [(Sh.lst 2), (Sh.int IntKind.i64)]) []),
  (TD.mk (TK.struct [(0, 33), (1, 3)]) 2 32 [(AV.lst Md.nil 0 []), (AV.int IntKind.i64 0)] (Sh.agg [(Sh.lst 2), (Sh.int IntKind.i64)]) []),
  (TD.mk TK.other 1 0 [] Sh.any []),
  (TD.mk TK.fn 1 8 [] Sh.any []),
  (TD.mk (TK.slice 5) 1 24 [(AV.lst Md.nil 0 [])] (Sh.lst 1) []),
  (TD.mk TK.other 1 0 [] Sh.any []),
  (TD.mk TK.fn 1 8 [] Sh.any []),
  (TD.mk TK.other 1 0 [] Sh.any []),
  (TD.mk TK.fn 1 8 [] Sh.any []),
  (TD.mk TK.fn 1 8 [] Sh.any []),
  (TD.mk TK.fn 1 8 [] Sh.any []),
  (TD.mk TK.fn 1 8 [] Sh.any []),
  (TD.mk TK.fn 1 8 [] Sh.any []),
  (TD.mk TK.fn 1 8 [] Sh.any []),
  (TD.mk TK.fn 1 8 [] Sh.any []),
  (TD.mk TK.other 1 0 [] Sh.any []),
  (TD.mk TK.fn 1 8 [] Sh.any []),
  (TD.mk TK.fn 1 8 [] Sh.any []),
  (TD.mk TK.fn 1 8 [] Sh.any []),
  (TD.mk TK.fn 1 8 [] Sh.any []),
  (TD.mk TK.fn 1 8 [] Sh.any []),
  (TD.mk TK.fn 1 8 [] Sh.any []),
  (TD.mk TK.other 1 0 [] Sh.any []),
  (TD.mk TK.fn 1 8 [] Sh.any []),
  (TD.mk TK.fn 1 8 [] Sh.any []),
  (TD.mk TK.fn 1 8 [] Sh.any []),
  (TD.mk TK.fn 1 8 [] Sh.any []),
  (TD.mk TK.fn 1 8 [] Sh.any []),
  (TD.mk TK.other 1 0 [] Sh.any []),
  (TD.mk TK.fn 1 8 [] Sh.any []),
  (TD.mk TK.fn 1 8 [] Sh.any []),
  (TD.mk (TK.ptr 97) 1 8 [AV.nilp] Sh.any []),
  (TD.mk TK.fn 1 8 [] Sh.any []),
  (TD.mk (TK.struct [(0, 32), (16, 24), (18, 3), (19, 3)]) 20 216 [(AV.int IntKind.i64 0), (AV.int IntKind.i64 0), (AV.int IntKind.i64 0), (AV.int IntKind.i64 0), (AV.int IntKind.i64 0), (AV.int IntKind.i64 0), (AV.int IntKind.i64 0), (AV.int IntKind.i64 0), (AV.int IntKind.i64 0), (AV.int IntKind.i64 0), (AV.int IntKind.i64 0), (AV.int IntKind.i64 0), (AV.int IntKind.i64 0), (AV.str []), (AV.lst Md.nil 0 []), (AV.lst Md.nil 0 []), (AV.int IntKind.i64 0), (AV.lst Md.nil 0 []), (AV.int IntKind.i64 0), (AV.int IntKind.i64 0)] (Sh.agg [(Sh.int IntKind.i64), (Sh.int IntKind.i64), (Sh.int IntKind.i64), (Sh.int IntKind.i64), (Sh.int IntKind.i64), (Sh.int IntKind.i64), (Sh.int IntKind.i64), (Sh.int IntKind.i64), (Sh.int IntKind.i64), (Sh.int IntKind.i64), (Sh.int IntKind.i64), (Sh.int IntKind.i64), (Sh.int IntKind.i64), Sh.str, (Sh.lst 1), (Sh.lst 5), (Sh.int IntKind.i64), (Sh.lst 2), (Sh.int IntKind.i64), (Sh.int IntKind.i64)]) []),
  (TD.mk (TK.struct [(0, 32), (16, 24), (18, 3), (19, 3)]) 20 216 [(AV.int IntKind.i64 0), (AV.int IntKind.i64 0), (AV.int IntKind.i64 0), (AV.int IntKind.i64 0), (AV.int IntKind.i64 0), (AV.int IntKind.i64 0), (AV.int IntKind.i64 0), (AV.int IntKind.i64 0), (AV.int IntKind.i64 0), (AV.int IntKind.i64 0), (AV.int IntKind.i64 0), (AV.int IntKind.i64 0), (AV.int IntKind.i64 0), (AV.str []), (AV.lst Md.nil 0 []), (AV.lst Md.nil 0 []), (AV.int IntKind.i64 0), (AV.lst Md.nil 0 []), (AV.int IntKind.i64 0), (AV.int IntKind.i64 0)] (Sh.agg [(Sh.int IntKind.i64), (Sh.int IntKind.i64), (Sh.int IntKind.i64), (Sh.int IntKind.i64), (Sh.int IntKind.i64), (Sh.int IntKind.i64), (Sh.int IntKind.i64), (Sh.int IntKind.i64), (Sh.int IntKind.i64), (Sh.int IntKind.i64), (Sh.int IntKind.i64), (Sh.int IntKind.i64), (Sh.int IntKind.i64), Sh.str, (Sh.lst 1), (Sh.lst 5), (Sh.int IntKind.i64), (Sh.lst 2), (Sh.int IntKind.i64), (Sh.int IntKind.i64)]) []),
  (TD.mk TK.fn 1 8 [] Sh.any []),
  (TD.mk TK.fn 1 8 [] Sh.any []),
  (TD.mk TK.fn 1 8 [] Sh.any []),
  (TD.mk TK.fn 1 8 [] Sh.any []),
  (TD.mk TK.fn 1 8 [] Sh.any []),
  (TD.mk TK.fn 1 8 [] Sh.any []),
  (TD.mk TK.fn 1 8 [] Sh.any []),
  (TD.mk (TK.ptr 64) 1 8 [AV.nilp] Sh.any []),
  (TD.mk TK.fn 1 8 [] Sh.any []),
  (TD.mk TK.fn 1 8 [] Sh.any []),
  (TD.mk (TK.ptr 3) 1 8 [AV.nilp] Sh.any []),
  (TD.mk TK.fn 1 8 [] Sh.any []),
  (TD.mk TK.other 1 0 [] Sh.any []),
  (TD.mk TK.fn 1 8 [] Sh.any []),
  (TD.mk TK.fn 1 8 [] Sh.any []),
  (TD.mk TK.other 1 0 [] Sh.any []),
  (TD.mk TK.fn 1 8 [] Sh.any []),
  (TD.mk TK.fn 1 8 [] Sh.any []),
  (TD.mk TK.fn 1 8 [] Sh.any []),
  (TD.mk TK.fn 1 8 [] Sh.any []),
  (TD.mk TK.fn 1 8 [] Sh.any []),
  (TD.mk TK.fn 1 8 [] Sh.any []),
  (TD.mk TK.fn 1 8 [] Sh.any []),
  (TD.mk TK.other 1 0 [] Sh.any []),
  (TD.mk TK.fn 1 8 [] Sh.any []),
  (TD.mk TK.fn 1 8 [] Sh.any []),
  (TD.mk TK.fn 1 8 [] Sh.any []),
  (TD.mk TK.fn 1 8 [] Sh.any []),
  (TD.mk (TK.slice 128) 1 24 [(AV.lst Md.nil 0 [])] (Sh.lst 1) []),
  (TD.mk TK.fn 1 8 [] Sh.any []),
  (TD.mk (TK.int IntKind.i64) 1 8 [(AV.int IntKind.i64 0)] (Sh.int IntKind.i64) []),
  (TD.mk TK.fn 1 8 [] Sh.any []),
  (TD.mk TK.fn 1 8 [] Sh.any []),
  (TD.mk TK.fn 1 8 [] Sh.any []),
  (TD.mk TK.fn 1 8 [] Sh.any []),
  (TD.mk TK.fn 1 8 [] Sh.any []),
  (TD.mk TK.fn 1 8 [] Sh.any []),
  (TD.mk TK.fn 1 8 [] Sh.any []),
  (TD.mk TK.fn 1 8 [] Sh.any []),
  (TD.mk TK.fn 1 8 [] Sh.any []),
  (TD.mk TK.other 1 0 [] Sh.any []),
  (TD.mk TK.fn 1 8 [] Sh.any []),
  (TD.mk TK.fn 1 8 [] Sh.any []),
  (TD.mk TK.fn 1 8 [] Sh.any []),
  (TD.mk TK.fn 1 8 [] Sh.any []),
  (TD.mk TK.fn 1 8 [] Sh.any []),
  (TD.mk (TK.array 256 4) 256 256 [(AV.bool false), (AV.bool false), (AV.bool false), (AV.bool false), (AV.bool false), (AV.bool false), (AV.bool false), (AV.bool false), (AV.bool false), (AV.bool false), (AV.bool false), (AV.bool false), (AV.bool false), (AV.bool false), (AV.bool false), (AV.bool false), (AV.bool false), (AV.bool false), (AV.bool false), (AV.bool false), (AV.bool false), (AV.bool false), (AV.bool false), (AV.bool false), (AV.bool false), (AV.bool false), (AV.bool false), (AV.bool false), (AV.bool false), (AV.bool false), (AV.bool false), (AV.bool false), (AV.bool false), (AV.bool false), (AV.bool false), (AV.bool false), (AV.bool false), (AV.bool false), (AV.bool false), (AV.bool false), (AV.bool false), (AV.bool false), (AV.bool false), (AV.bool false), (AV.bool false), (AV.bool false), (AV.bool false), (AV.bool false), (AV.bool false), (AV.bool false), (AV.bool false), (AV.bool false), (AV.bool false), (AV.bool false), (AV.bool false), (AV.bool false), (AV.bool false), (AV.bool false), (AV.bool false), (AV.bool false), (AV.bool false), (AV.bool false), (AV.bool false), (AV.bool false), (AV.bool false), (AV.bool false), (AV.bool false), (AV.bool false), (AV.bool false), (AV.bool false), (AV.bool false), (AV.bool false), (AV.bool false), (AV.bool false), (AV.bool false), (AV.bool false), (AV.bool false), (AV.bool false), (AV.bool false), (AV.bool false), (AV.bool false), (AV.bool false), (AV.bool false), (AV.bool false), (AV.bool false), (AV.bool false), (AV.bool false), (AV.bool false), (AV.bool false), (AV.bool false), (AV.bool false), (AV.bool false), (AV.bool false), (AV.bool false), (AV.bool false), (AV.bool false), (AV.bool false), (AV.bool false), (AV.bool false), (AV.bool false), (AV.bool false), (AV.bool false), (AV.bool false), (AV.bool false), (AV.bool false), (AV.bool false), (AV.bool false), (AV.bool false), (AV.bool false), (AV.bool false), (AV.bool false), (AV.bool false), (AV.bool false), (AV.bool false), (AV.bool false), (AV.bool false), (AV.bool false), (AV.bool false), (AV.bool false), (AV.bool false), (AV.bool false), (AV.bool false), (AV.bool false), (AV.bool false), (AV.bool false), (AV.bool false), (AV.bool false), (AV.bool false), (AV.bool false), (AV.bool false), (AV.bool false), (AV.bool false), (AV.bool false), (AV.bool false), (AV.bool false), (AV.bool false), (AV.bool false), (AV.bool false), (AV.bool false), (AV.bool false), (AV.bool false), (AV.bool false), (AV.bool false), (AV.bool false), (AV.bool false), (AV.bool false), (AV.bool false), (AV.bool false), (AV.bool false), (AV.bool false), (AV.bool false), (AV.bool false), (AV.bool false), (AV.bool false), (AV.bool false), (AV.bool false), (AV.bool false), (AV.bool false), (AV.bool false), (AV.bool false), (AV.bool false), (AV.bool false), (AV.bool false), (AV.bool false), (AV.bool false), (AV.bool false), (AV.bool false), (AV.bool false), (AV.bool false), (AV.bool false), (AV.bool false), (AV.bool false), (AV.bool false), (AV.bool false), (AV.bool false), (AV.bool false), (AV.bool false), (AV.bool false), (AV.bool false), (AV.bool false), (AV.bool false), (AV.bool false), (AV.bool false), (AV.bool false), (AV.bool false), (AV.bool false), (AV.bool false), (AV.bool false), (AV.bool false), (AV.bool false), (AV.bool false), (AV.bool false), (AV.bool false), (AV.bool false), (AV.bool false), (AV.bool false), (AV.bool false), (AV.bool false), (AV.bool false), (AV.bool false), (AV.bool false), (AV.bool false), (AV.bool false), (AV.bool false), (AV.bool false), (AV.bool false), (AV.bool false), (AV.bool false), (AV.bool false), (AV.bool false), (AV.bool false), (AV.bool false), (AV.bool false), (AV.bool false), (AV.bool false), (AV.bool false), (AV.bool false), (AV.bool false), (AV.bool false), (AV.bool false), (AV.bool false), (AV.bool false), (AV.bool false), (AV.bool false), (AV.bool false), (AV.bool false), (AV.bool false), (AV.bool false), (AV.bool false), (AV.bool false), (AV.bool false), (AV.bool false), (AV.bool false), (AV.bool false), (AV.bool false), (AV.bool false), (AV.bool false), (AV.bool false), (AV.bool false), (AV.bool false), (AV.bool false), (AV.bool false), (AV.bool false), (AV.bool false), (AV.bool false), (AV.bool false), (AV.bool false), (AV.bool false), (AV.bool false), (AV.bool false), (AV.bool false), (AV.bool false), (AV.bool false), (AV.bool false), (AV.bool false), (AV.bool false)] (Sh.agg [Sh.arr]) []),
  (TD.mk TK.other 1 0 [] Sh.any []),
  (TD.mk TK.fn 1 8 [] Sh.any []),
  (TD.mk (TK.int IntKind.u64) 1 8 [(AV.int IntKind.u64 0)] (Sh.int IntKind.u64) []),
  (TD.mk TK.fn 1 8 [] Sh.any []),
  (TD.mk TK.fn 1 8 [] Sh.any []),
  (TD.mk TK.fn 1 8 [] Sh.any []),
  (TD.mk TK.fn 1 8 [] Sh.any []),
  (TD.mk TK.fn 1 8 [] Sh.any []),
  (TD.mk (TK.array 7 3) 7 56 [(AV.int IntKind.i64 0), (AV.int IntKind.i64 0), (AV.int IntKind.i64 0), (AV.int IntKind.i64 0), (AV.int IntKind.i64 0), (AV.int IntKind.i64 0), (AV.int IntKind.i64 0)] (Sh.agg [(Sh.int IntKind.i64), (Sh.int IntKind.i64), (Sh.int IntKind.i64), (Sh.int IntKind.i64), (Sh.int IntKind.i64), (Sh.int IntKind.i64), (Sh.int IntKind.i64)]) [(Sh.int IntKind.i64), (Sh.int IntKind.i64), (Sh.int IntKind.i64), (Sh.int IntKind.i64), (Sh.int IntKind.i64), (Sh.int IntKind.i64), (Sh.int IntKind.i64)]),
  (TD.mk TK.fn 1 8 [] Sh.any []),
  (TD.mk TK.other 1 0 [] Sh.any []),
  (TD.mk TK.fn 1 8 [] Sh.any []),
  (TD.mk TK.fn 1 8 [] Sh.any []),
  (TD.mk TK.fn 1 8 [] Sh.any []),
  (TD.mk TK.fn 1 8 [] Sh.any []),
  (TD.mk (TK.array 1000 4) 1000 1000 [(AV.bool false), (AV.bool false), (AV.bool false), (AV.bool false), (AV.bool false), (AV.bool false), (AV.bool false), (AV.bool false), (AV.bool false), (AV.bool false), (AV.bool false), (AV.bool false), (AV.bool false), (AV.bool false), (AV.bool false), (AV.bool false), (AV.bool false), (AV.bool false), (AV.bool false), (AV.bool false), (AV.bool false), (AV.bool false), (AV.bool false), (AV.bool false), (AV.bool false), (AV.bool false), (AV.bool false), (AV.bool false), (AV.bool false), (AV.bool false), (AV.bool false), (AV.bool false), (AV.bool false), (AV.bool false), (AV.bool false), (AV.bool false), (AV.bool false), (AV.bool false), (AV.bool false), (AV.bool false), (AV.bool false), (AV.bool false), (AV.bool false), (AV.bool false), (AV.bool false), (AV.bool false), (AV.bool false), (AV.bool false), (AV.bool false), (AV.bool false), (AV.bool false), (AV.bool false), (AV.bool false), (AV.bool false), (AV.bool false), (AV.bool false), (AV.bool false), (AV.bool false), (AV.bool false), (AV.bool false), (AV.bool false), (AV.bool false), (AV.bool false), (AV.bool false), (AV.bool false), (AV.bool false), (AV.bool false), (AV.bool false), (AV.bool false), (AV.bool false), (AV.bool false), (AV.bool false), (AV.bool false), (AV.bool false), (AV.bool false), (AV.bool false), (AV.bool false), (AV.bool false), (AV.bool false), (AV.bool false), (AV.bool false), (AV.bool false), (AV.bool false), (AV.bool false), (AV.bool false), (AV.bool false), (AV.bool false), (AV.bool false), (AV.bool false), (AV.bool false), (AV.bool false), (AV.bool false), (AV.bool false), (AV.bool false), (AV.bool false), (AV.bool false), (AV.bool false), (AV.bool false), (AV.bool false), (AV.bool false), (AV.bool false), (AV.bool false), (AV.bool false), (AV.bool false), (AV.bool false), (AV.bool false), (AV.bool false), (AV.bool false), (AV.bool false), (AV.bool false), (AV.bool false), (AV.bool false), (AV.bool false), (AV.bool false), (AV.bool false), (AV.bool false), (AV.bool false), (AV.bool false), (AV.bool false), (AV.bool false), (AV.bool false), (AV.bool false), (AV.bool false), (AV.bool false), (AV.bool false), (AV.bool false), (AV.bool false), (AV.bool false), (AV.bool false), (AV.bool false), (AV.bool false), (AV.bool false), (AV.bool false), (AV.bool false), (AV.bool false), (AV.bool false), (AV.bool false), (AV.bool false), (AV.bool false), (AV.bool false), (AV.bool false), (AV.bool false), (AV.bool false), (AV.bool false), (AV.bool false), (AV.bool false), (AV.bool false), (AV.bool false), (AV.bool false), (AV.bool false), (AV.bool false), (AV.bool false), (AV.bool false), (AV.bool false), (AV.bool false), (AV.bool false), (AV.bool false), (AV.bool false), (AV.bool false), (AV.bool false), (AV.bool false), (AV.bool false), (AV.bool false), (AV.bool false), (AV.bool false), (AV.bool false), (AV.bool false), (AV.bool false), (AV.bool false), (AV.bool false), (AV.bool false), (AV.bool false), (AV.bool false), (AV.bool false), (AV.bool false), (AV.bool false), (AV.bool false), (AV.bool false), (AV.bool false), (AV.bool false), (AV.bool false), (AV.bool false), (AV.bool false), (AV.bool false), (AV.bool false), (AV.bool false), (AV.bool false), (AV.bool false), (AV.bool false), (AV.bool false), (AV.bool false), (AV.bool false), (AV.bool false), (AV.bool false), (AV.bool false), (AV.bool false), (AV.bool false), (AV.bool false), (AV.bool false), (AV.bool false), (AV.bool false), (AV.bool false), (AV.bool false), (AV.bool false), (AV.bool false), (AV.bool false), (AV.bool false), (AV.bool false), (AV.bool false), (AV.bool false), (AV.bool false), (AV.bool false), (AV.bool false), (AV.bool false), (AV.bool false), (AV.bool false), (AV.bool false), (AV.bool false), (AV.bool false), (AV.bool false), (AV.bool false), (AV.bool false), (AV.bool false), (AV.bool false), (AV.bool false), (AV.bool false), (AV.bool false), (AV.bool false), (AV.bool false), (AV.bool false), (AV.bool false), (AV.bool false), (AV.bool false), (AV.bool false), (AV.bool false), (AV.bool false), (AV.bool false), (AV.bool false), (AV.bool false), (AV.bool false), (AV.bool false), (AV.bool false), (AV.bool false), (AV.bool false), (AV.bool false), (AV.bool false), (AV.bool false), (AV.bool false), (AV.bool false), (AV.bool false), (AV.bool false), (AV.bool false), (AV.bool false), (AV.bool false), (AV.bool false), (AV.bool false), (AV.bool false), (AV.bool false), (AV.bool false), (AV.bool false), (AV.bool false), (AV.bool false), (AV.bool false), (AV.bool false), (AV.bool false), (AV.bool false), (AV.bool false), (AV.bool false), (AV.bool false), (AV.bool false), (AV.bool false), (AV.bool false), (AV.bool false), (AV.bool false), (AV.bool false), (AV.bool false), (AV.bool false), (AV.bool false), (AV.bool false), (AV.bool false), (AV.bool false), (AV.bool false), (AV.bool false), (AV.bool false), (AV.bool false), (AV.bool false), (AV.bool false), (AV.bool false), (AV.bool false), (AV.bool false), (AV.bool false), (AV.bool false), (AV.bool false), (AV.bool false), (AV.bool false), (AV.bool false), (AV.bool false), (AV.bool false), (AV.bool false), (AV.bool false), (AV.bool false), (AV.bool false), (AV.bool false), (AV.bool false), (AV.bool false), (AV.bool false), (AV.bool false), (AV.bool false), (AV.bool false), (AV.bool false), (AV.bool false), (AV.bool false), (AV.bool false), (AV.bool false), (AV.bool false), (AV.bool false), (AV.bool false), (AV.bool false), (AV.bool false), (AV.bool false), (AV.bool false), (AV.bool false), (AV.bool false), (AV.bool false), (AV.bool false), (AV.bool false), (AV.bool false), (AV.bool false), (AV.bool false), (AV.bool false), (AV.bool false), (AV.bool false), (AV.bool false), (AV.bool false), (AV.bool false), (AV.bool false), (AV.bool false), (AV.bool false), (AV.bool false), (AV.bool false), (AV.bool false), (AV.bool false), (AV.bool false), (AV.bool false), (AV.bool false), (AV.bool false), (AV.bool false), (AV.bool false), (AV.bool false), (AV.bool false), (AV.bool false), (AV.bool false), (AV.bool false), (AV.bool false), (AV.bool false), (AV.bool false), (AV.bool false), (AV.bool false), (AV.bool false), (AV.bool false), (AV.bool false), (AV.bool false), (AV.bool false), (AV.bool false), (AV.bool false), (AV.bool false), (AV.bool false), (AV.bool false), (AV.bool false), (AV.bool false), (AV.bool false), (AV.bool false), (AV.bool false), (AV.bool false), (AV.bool false), (AV.bool false), (AV.bool false), (AV.bool false), (AV.bool false), (AV.bool false), (AV.bool false), (AV.bool false), (AV.bool false), (AV.bool false), (AV.bool false), (AV.bool false), (AV.bool false), (AV.bool false), (AV.bool false), (AV.bool false), (AV.bool false), (AV.bool false), (AV.bool false), (AV.bool false), (AV.bool false), (AV.bool false), (AV.bool false), (AV.bool false), (AV.bool false), (AV.bool false), (AV.bool false), (AV.bool false), (AV.bool false), (AV.bool false), (AV.bool false), (AV.bool false), (AV.bool false), (AV.bool false), (AV.bool false), (AV.bool false), (AV.bool false), (AV.bool false), (AV.bool false), (AV.bool false), (AV.bool false), (AV.bool false), (AV.bool false), (AV.bool false), (AV.bool false), (AV.bool false), (AV.bool false), (AV.bool false), (AV.bool false), (AV.bool false), (AV.bool false), (AV.bool false), (AV.bool false), (AV.bool false), (AV.bool false), (AV.bool false), (AV.bool false), (AV.bool false), (AV.bool false), (AV.bool false), (AV.bool false), (AV.bool false), (AV.bool false), (AV.bool false), (AV.bool false), (AV.bool false), (AV.bool false), (AV.bool false), (AV.bool false), (AV.bool false), (AV.bool false), (AV.bool false), (AV.bool false), (AV.bool false), (AV.bool false), (AV.bool false), (AV.bool false), (AV.bool false), (AV.bool false), (AV.bool false), (AV.bool false), (AV.bool false), (AV.bool false), (AV.bool false), (AV.bool false), (AV.bool false), (AV.bool false), (AV.bool false), (AV.bool false), (AV.bool false), (AV.bool false), (AV.bool false), (AV.bool false), (AV.bool false), (AV.bool false), (AV.bool false), (AV.bool false), (AV.bool false), (AV.bool false), (AV.bool false), (AV.bool false), (AV.bool false), (AV.bool false), (AV.bool false), (AV.bool false), (AV.bool false), (AV.bool false), (AV.bool false), (AV.bool false), (AV.bool false), (AV.bool false), (AV.bool false), (AV.bool false), (AV.bool false), (AV.bool false), (AV.bool false), (AV.bool false), (AV.bool false), (AV.bool false), (AV.bool false), (AV.bool false), (AV.bool false), (AV.bool false), (AV.bool false), (AV.bool false), (AV.bool false), (AV.bool false), (AV.bool false), (AV.bool false), (AV.bool false), (AV.bool false), (AV.bool false), (AV.bool false), (AV.bool false), (AV.bool false), (AV.bool false), (AV.bool false), (AV.bool false), (AV.bool false), (AV.bool false), (AV.bool false), (AV.bool false), (AV.bool false), (AV.bool false), (AV.bool false), (AV.bool false), (AV.bool false), (AV.bool false), (AV.bool false), (AV.bool false), (AV.bool false), (AV.bool false), (AV.bool false), (AV.bool false), (AV.bool false), (AV.bool false), (AV.bool false), (AV.bool false), (AV.bool false), (AV.bool false), (AV.bool false), (AV.bool false), (AV.bool false), (AV.bool false), (AV.bool false), (AV.bool false), (AV.bool false), (AV.bool false), (AV.bool false), (AV.bool false), (AV.bool false), (AV.bool false), (AV.bool false), (AV.bool false), (AV.bool false), (AV.bool false), (AV.bool false), (AV.bool false), (AV.bool false), (AV.bool false), (AV.bool false), (AV.bool false), (AV.bool false), (AV.bool false), (AV.bool false), (AV.bool false), (AV.bool false), (AV.bool false), (AV.bool false), (AV.bool false), (AV.bool false), (AV.bool false), (AV.bool false), (AV.bool false), (AV.bool false), (AV.bool false), (AV.bool false), (AV.bool false), (AV.bool false), (AV.bool false), (AV.bool false), (AV.bool false), (AV.bool false), (AV.bool false), (AV.bool false), (AV.bool false), (AV.bool false), (AV.bool false), (AV.bool false), (AV.bool false), (AV.bool false), (AV.bool false), (AV.bool false), (AV.bool false), (AV.bool false), (AV.bool false), (AV.bool false), (AV.bool false), (AV.bool false), (AV.bool false), (AV.bool false), (AV.bool false), (AV.bool false), (AV.bool false), (AV.bool false), (AV.bool false), (AV.bool false), (AV.bool false), (AV.bool false), (AV.bool false), (AV.bool false), (AV.bool false), (AV.bool false), (AV.bool false), (AV.bool false), (AV.bool false), (AV.bool false), (AV.bool false), (AV.bool false), (AV.bool false), (AV.bool false), (AV.bool false), (AV.bool false), (AV.bool false), (AV.bool false), (AV.bool false), (AV.bool false), (AV.bool false), (AV.bool false), (AV.bool false), (AV.bool false), (AV.bool false), (AV.bool false), (AV.bool false), (AV.bool false), (AV.bool false), (AV.bool false), (AV.bool false), (AV.bool false), (AV.bool false), (AV.bool false), (AV.bool false), (AV.bool false), (AV.bool false), (AV.bool false), (AV.bool false), (AV.bool false), (AV.bool false), (AV.bool false), (AV.bool false), (AV.bool false), (AV.bool false), (AV.bool false), (AV.bool false), (AV.bool false), (AV.bool false), (AV.bool false), (AV.bool false), (AV.bool false), (AV.bool false), (AV.bool false), (AV.bool false), (AV.bool false), (AV.bool false), (AV.bool false), (AV.bool false), (AV.bool false), (AV.bool false), (AV.bool false), (AV.bool false), (AV.bool false), (AV.bool false), (AV.bool false), (AV.bool false), (AV.bool false), (AV.bool false), (AV.bool false), (AV.bool false), (AV.bool false), (AV.bool false), (AV.bool false), (AV.bool false), (AV.bool false), (AV.bool false), (AV.bool false), (AV.bool false), (AV.bool false), (AV.bool false), (AV.bool false), (AV.bool false), (AV.bool false), (AV.bool false), (AV.bool false), (AV.bool false), (AV.bool false), (AV.bool false), (AV.bool false), (AV.bool false), (AV.bool false), (AV.bool false), (AV.bool false), (AV.bool false), (AV.bool false), (AV.bool false), (AV.bool false), (AV.bool false), (AV.bool false), (AV.bool false), (AV.bool false), (AV.bool false), (AV.bool false), (AV.bool false), (AV.bool false), (AV.bool false), (AV.bool false), (AV.bool false), (AV.bool false), (AV.bool false), (AV.bool false), (AV.bool false), (AV.bool false), (AV.bool false), (AV.bool false), (AV.bool false), (AV.bool false), (AV.bool false), (AV.bool false), (AV.bool false), (AV.bool false), (AV.bool false), (AV.bool false), (AV.bool false), (AV.bool false), (AV.bool false), (AV.bool false), (AV.bool false), (AV.bool false), (AV.bool false), (AV.bool false), (AV.bool false), (AV.bool false), (AV.bool false), (AV.bool false), (AV.bool false), (AV.bool false), (AV.bool false), (AV.bool false), (AV.bool false), (AV.bool false), (AV.bool false), (AV.bool false), (AV.bool false), (AV.bool false), (AV.bool false), (AV.bool false), (AV.bool false), (AV.bool false), (AV.bool false), (AV.bool false), (AV.bool false), (AV.bool false), (AV.bool false), (AV.bool false), (AV.bool false), (AV.bool false), (AV.bool false), (AV.bool false), (AV.bool false), (AV.bool false), (AV.bool false), (AV.bool false), (AV.bool false), (AV.bool false), (AV.bool false), (AV.bool false), (AV.bool false), (AV.bool false), (AV.bool false), (AV.bool false), (AV.bool false), (AV.bool false), (AV.bool false), (AV.bool false), (AV.bool false), (AV.bool false), (AV.bool false), (AV.bool false), (AV.bool false), (AV.bool false), (AV.bool false), (AV.bool false), (AV.bool false), (AV.bool false), (AV.bool false), (AV.bool false), (AV.bool false), (AV.bool false), (AV.bool false), (AV.bool false), (AV.bool false), (AV.bool false), (AV.bool false), (AV.bool false), (AV.bool false), (AV.bool false), (AV.bool false), (AV.bool false), (AV.bool false), (AV.bool false), (AV.bool false), (AV.bool false), (AV.bool false), (AV.bool false), (AV.bool false), (AV.bool false), (AV.bool false), (AV.bool false), (AV.bool false), (AV.bool false), (AV.bool false), (AV.bool false), (AV.bool false), (AV.bool false), (AV.bool false), (AV.bool false), (AV.bool false), (AV.bool false), (AV.bool false), (AV.bool false), (AV.bool false), (AV.bool false), (AV.bool false), (AV.bool false), (AV.bool false), (AV.bool false), (AV.bool false), (AV.bool false), (AV.bool false), (AV.bool false), (AV.bool false), (AV.bool false), (AV.bool false), (AV.bool false), (AV.bool false), (AV.bool false), (AV.bool false), (AV.bool false), (AV.bool false), (AV.bool false), (AV.bool false), (AV.bool false), (AV.bool false), (AV.bool false), (AV.bool false), (AV.bool false), (AV.bool false), (AV.bool false), (AV.bool false), (AV.bool false), (AV.bool false), (AV.bool false), (AV.bool false), (AV.bool false), (AV.bool false), (AV.bool false), (AV.bool false), (AV.bool false), (AV.bool false), (AV.bool false), (AV.bool false), (AV.bool false), (AV.bool false), (AV.bool false), (AV.bool false), (AV.bool false), (AV.bool false), (AV.bool false), (AV.bool false), (AV.bool false), (AV.bool false), (AV.bool false), (AV.bool false), (AV.bool false), (AV.bool false), (AV.bool false), (AV.bool false), (AV.bool false), (AV.bool false), (AV.bool false), (AV.bool false), (AV.bool false), (AV.bool false), (AV.bool false), (AV.bool false), (AV.bool false), (AV.bool false), (AV.bool false), (AV.bool false), (AV.bool false), (AV.bool false), (AV.bool false), (AV.bool false), (AV.bool false), (AV.bool false), (AV.bool false), (AV.bool false), (AV.bool false), (AV.bool false), (AV.bool false), (AV.bool false), (AV.bool false), (AV.bool false), (AV.bool false), (AV.bool false), (AV.bool false), (AV.bool false), (AV.bool false), (AV.bool false), (AV.bool false), (AV.bool false), (AV.bool false), (AV.bool false), (AV.bool false), (AV.bool false), (AV.bool false), (AV.bool false), (AV.bool false), (AV.bool false), (AV.bool false), (AV.bool false), (AV.bool false), (AV.bool false), (AV.bool false), (AV.bool false), (AV.bool false), (AV.bool false), (AV.bool false), (AV.bool false), (AV.bool false), (AV.bool false), (AV.bool false), (AV.bool false), (AV.bool false), (AV.bool false), (AV.bool false), (AV.bool false), (AV.bool false), (AV.bool false), (AV.bool false), (AV.bool false), (AV.bool false), (AV.bool false), (AV.bool false), (AV.bool false), (AV.bool false), (AV.bool false), (AV.bool false), (AV.bool false), (AV.bool false), (AV.bool false), (AV.bool false), (AV.bool false), (AV.bool false), (AV.bool false), (AV.bool false), (AV.bool false), (AV.bool false), (AV.bool false), (AV.bool false), (AV.bool false), (AV.bool false), (AV.bool false), (AV.bool false), (AV.bool false), (AV.bool false), (AV.bool false), (AV.bool false), (AV.bool false), (AV.bool false), (AV.bool false), (AV.bool false), (AV.bool false), (AV.bool false), (AV.bool false), (AV.bool false), (AV.bool false), (AV.bool false), (AV.bool false), (AV.bool false), (AV.bool false), (AV.bool false), (AV.bool false), (AV.bool false), (AV.bool false), (AV.bool false), (AV.bool false), (AV.bool false), (AV.bool false), (AV.bool false), (AV.bool false), (AV.bool false), (AV.bool false), (AV.bool false), (AV.bool false), (AV.bool false), (AV.bool false)] (Sh.agg [Sh.arr]) []),
  (TD.mk TK.fn 1 8 [] Sh.any []),
  (TD.mk (TK.ptr 26) 1 8 [AV.nilp] Sh.any []),
  (TD.mk TK.fn 1 8 [] Sh.any []),
  (TD.mk TK.fn 1 8 [] Sh.any []),
  (TD.mk TK.fn 1 8 [] Sh.any []),
  (TD.mk (TK.struct [(0, 17), (1, 17), (2, 17), (3, 9)]) 4 40 [AV.nilp, AV.nilp, AV.nilp, (AV.str [])] (Sh.agg [Sh.any, Sh.any, Sh.any, Sh.str]) []),
  (TD.mk (TK.struct [(0, 17), (1, 17), (2, 17), (3, 9)]) 4 40 [AV.nilp, AV.nilp, AV.nilp, (AV.str [])] (Sh.agg [Sh.any, Sh.any, Sh.any, Sh.str]) []),
  (TD.mk (TK.array 0 16) 0 0 [] (Sh.agg []) []),
  (TD.mk (TK.struct [(0, 168)]) 0 0 [] (Sh.agg []) []),
  (TD.mk (TK.struct [(0, 168)]) 0 0 [] (Sh.agg []) []),
  (TD.mk TK.fn 1 8 [] Sh.any []),
  (TD.mk (TK.int IntKind.u32) 1 4 [(AV.int IntKind.u32 0)] (Sh.int IntKind.u32) []),
  (TD.mk (TK.int IntKind.u8) 1 1 [(AV.int IntKind.u8 0)] (Sh.int IntKind.u8) []),
  (TD.mk (TK.int IntKind.u8) 1 1 [(AV.int IntKind.u8 0)] (Sh.int IntKind.u8) []),
  (TD.mk TK.fn 1 8 [] Sh.any []),
  (TD.mk (TK.ptr 5) 1 8 [AV.nilp] Sh.any []),
  (TD.mk (TK.int IntKind.i32) 1 4 [(AV.int IntKind.i32 0)] (Sh.int IntKind.i32) []),
  (TD.mk (TK.int IntKind.i32) 1 4 [(AV.int IntKind.i32 0)] (Sh.int IntKind.i32) []),
  (TD.mk (TK.struct [(0, 12), (1, 12), (2, 172), (3, 173), (4, 5), (5, 5), (6, 174), (7, 175), (8, 176), (9, 177), (10, 178)]) 11 48 [] (Sh.agg [(Sh.int IntKind.u64), (Sh.int IntKind.u64), (Sh.int IntKind.u32), (Sh.int IntKind.u8), (Sh.int IntKind.u8), (Sh.int IntKind.u8), (Sh.int IntKind.u8), Sh.any, Sh.any, (Sh.int IntKind.i32), (Sh.int IntKind.i32)]) []),
  (TD.mk (TK.struct [(0, 12), (1, 12), (2, 172), (3, 173), (4, 5), (5, 5), (6, 174), (7, 175), (8, 176), (9, 177), (10, 178)]) 11 48 [] (Sh.agg [(Sh.int IntKind.u64), (Sh.int IntKind.u64), (Sh.int IntKind.u32), (Sh.int IntKind.u8), (Sh.int IntKind.u8), (Sh.int IntKind.u8), (Sh.int IntKind.u8), Sh.any, Sh.any, (Sh.int IntKind.i32), (Sh.int IntKind.i32)]) []),
  (TD.mk TK.other 1 8 [AV.nilp] Sh.any [])]
def fnTab : List Bool := [false, false, true, true, true, true, true, true, true, true, true, true, true, true, true, true, true, true, true, true, true, true, true, true, true, true, true, true, true, true, true, true, true, true, true, true, true, true, true, true, true, true, true, true, true, true, true, true, true, true, true, true, true, true, true, true, true, true, true, true, true, true, true, true, true, true, true, true, true, true, true, true, true, true, true, true, true, true, true, true, false, true, true, true, true, true, true, true, true, true, true, true, true, true, true, true, true, true, true, true, true, true, true, true, true, false, true, true, true, true, true, false, true, true, true, true, true, true, false, false, false, false, false, false, false, false, false, false, false, false, false, false, false, false]
def shTab : List (List Sh) := [
  [Sh.any],
  [Sh.any],
  [(Sh.int IntKind.i64)],
  [(Sh.int IntKind.i64)],
  [Sh.bool],
  [(Sh.int IntKind.u8)],
  [(Sh.int IntKind.u8)],
  [(Sh.int IntKind.i64), (Sh.int IntKind.i64), Sh.bool, (Sh.int IntKind.u8)],
  [(Sh.int IntKind.i64), (Sh.int IntKind.i64), Sh.bool, (Sh.int IntKind.u8)],
  [Sh.str],
  [Sh.str],
  [Sh.str],
  [(Sh.int IntKind.u64)],
  [Sh.str, (Sh.int IntKind.u64)],
  [Sh.str, (Sh.int IntKind.u64)],
  [Sh.any],
  [Sh.any],
  [Sh.any],
  [Sh.any],
  [Sh.any],
  [Sh.any],
  [(Sh.int IntKind.i32)],
  [(Sh.lst 2)],
  [(Sh.int IntKind.i64), (Sh.lst 2)],
  [(Sh.int IntKind.i64), (Sh.lst 2)],
  [(Sh.int IntKind.i64), (Sh.int IntKind.i64), (Sh.int IntKind.i64), (Sh.int IntKind.i64), (Sh.int IntKind.i64)],
  [(Sh.int IntKind.i64), (Sh.int IntKind.i64), (Sh.int IntKind.i64), (Sh.int IntKind.i64), (Sh.int IntKind.i64)],
  [(Sh.int IntKind.i64), Sh.str],
  [(Sh.int IntKind.i64), Sh.str],
  [(Sh.lst 1)],
  [(Sh.lst 5)],
  [(Sh.int IntKind.i64), (Sh.int IntKind.i64), (Sh.int IntKind.i64), (Sh.int IntKind.i64), (Sh.int IntKind.i64), (Sh.int IntKind.i64), (Sh.int IntKind.i64), (Sh.int IntKind.i64), (Sh.int IntKind.i64), (Sh.int IntKind.i64), (Sh.int IntKind.i64), (Sh.int IntKind.i64), (Sh.int IntKind.i64), Sh.str, (Sh.lst 1), (Sh.lst 5)],
  [(Sh.int IntKind.i64), (Sh.int IntKind.i64), (Sh.int IntKind.i64), (Sh.int IntKind.i64), (Sh.int IntKind.i64), (Sh.int IntKind.i64), (Sh.int IntKind.i64), (Sh.int IntKind.i64), (Sh.int IntKind.i64), (Sh.int IntKind.i64), (Sh.int IntKind.i64), (Sh.int IntKind.i64), (Sh.int IntKind.i64), Sh.str, (Sh.lst 1), (Sh.lst 5)],
  [(Sh.lst 2)],
  [(Sh.int IntKind.i64), (Sh.lst 2)],
  [(Sh.int IntKind.i64), (Sh.lst 2)],
  [(Sh.int IntKind.i64), (Sh.lst 2), (Sh.int IntKind.i64), (Sh.int IntKind.i64), (Sh.int IntKind.i64), (Sh.int IntKind.i64), (Sh.int IntKind.i64), (Sh.int IntKind.i64), (Sh.int IntKind.i64), (Sh.int IntKind.i64), (Sh.int IntKind.i64), (Sh.int IntKind.i64), (Sh.int IntKind.i64), (Sh.int IntKind.i64), (Sh.int IntKind.i64), Sh.str, (Sh.lst 1), (Sh.lst 5), (Sh.int IntKind.i64), (Sh.lst 2)],
  [(Sh.int IntKind.i64), (Sh.lst 2), (Sh.int IntKind.i64), (Sh.int IntKind.i64), (Sh.int IntKind.i64), (Sh.int IntKind.i64), (Sh.int IntKind.i64), (Sh.int IntKind.i64), (Sh.int IntKind.i64), (Sh.int IntKind.i64), (Sh.int IntKind.i64), (Sh.int IntKind.i64), (Sh.int IntKind.i64), (Sh.int IntKind.i64), (Sh.int IntKind.i64), Sh.str, (Sh.lst 1), (Sh.lst 5), (Sh.int IntKind.i64), (Sh.lst 2)],
  [Sh.any],
  [(Sh.int IntKind.i64), (Sh.lst 2), Sh.bool, Sh.bool, Sh.str],
  [(Sh.int IntKind.i64), (Sh.lst 2), Sh.bool, Sh.bool, Sh.str],
  [(Sh.int IntKind.i64)],
  [Sh.any],
  [Sh.any],
  [(Sh.int IntKind.i64), (Sh.lst 2), Sh.bool, Sh.bool, Sh.str],
  [Sh.any],
  [Sh.any],
  [Sh.any],
  [Sh.any],
  [Sh.any],
  [Sh.any],
  [Sh.any],
  [Sh.any],
  [Sh.any],
  [Sh.any],
  [Sh.any],
  [(Sh.int IntKind.i64), (Sh.lst 5)],
  [(Sh.int IntKind.i64), (Sh.lst 5)],
  [Sh.any],
  [Sh.any],
  [(Sh.lst 16)],
  [Sh.any],
  [Sh.any],
  [(Sh.lst 2), (Sh.int IntKind.i64)],
  [(Sh.lst 2), (Sh.int IntKind.i64)],
  [Sh.any],
  [Sh.any],
  [(Sh.lst 1)],
  [Sh.any],
  [Sh.any],
  [Sh.any],
  [Sh.any],
  [Sh.any],
  [Sh.any],
  [Sh.any],
  [Sh.any],
  [Sh.any],
  [Sh.any],
  [Sh.any],
  [Sh.any],
  [Sh.any],
  [Sh.any],
  [Sh.any],
  [Sh.any],
  [Sh.any],
  [Sh.any],
  [Sh.any],
  [Sh.any],
  [Sh.any],
  [Sh.any],
  [Sh.any],
  [Sh.any],
  [Sh.any],
  [Sh.any],
  [Sh.any],
  [Sh.any],
  [(Sh.int IntKind.i64), (Sh.int IntKind.i64), (Sh.int IntKind.i64), (Sh.int IntKind.i64), (Sh.int IntKind.i64), (Sh.int IntKind.i64), (Sh.int IntKind.i64), (Sh.int IntKind.i64), (Sh.int IntKind.i64), (Sh.int IntKind.i64), (Sh.int IntKind.i64), (Sh.int IntKind.i64), (Sh.int IntKind.i64), Sh.str, (Sh.lst 1), (Sh.lst 5), (Sh.int IntKind.i64), (Sh.lst 2), (Sh.int IntKind.i64), (Sh.int IntKind.i64)],
  [(Sh.int IntKind.i64), (Sh.int IntKind.i64), (Sh.int IntKind.i64), (Sh.int IntKind.i64), (Sh.int IntKind.i64), (Sh.int IntKind.i64), (Sh.int IntKind.i64), (Sh.int IntKind.i64), (Sh.int IntKind.i64), (Sh.int IntKind.i64), (Sh.int IntKind.i64), (Sh.int IntKind.i64), (Sh.int IntKind.i64), Sh.str, (Sh.lst 1), (Sh.lst 5), (Sh.int IntKind.i64), (Sh.lst 2), (Sh.int IntKind.i64), (Sh.int IntKind.i64)],
  [Sh.any],
  [Sh.any],
  [Sh.any],
  [Sh.any],
  [Sh.any],
  [Sh.any],
  [Sh.any],
  [Sh.any],
  [Sh.any],
  [Sh.any],
  [Sh.any],
  [Sh.any],
  [Sh.any],
  [Sh.any],
  [Sh.any],
  [Sh.any],
  [Sh.any],
  [Sh.any],
  [Sh.any],
  [Sh.any],
  [Sh.any],
  [Sh.any],
  [Sh.any],
  [Sh.any],
  [Sh.any],
  [Sh.any],
  [Sh.any],
  [Sh.any],
  [(Sh.lst 1)],
  [Sh.any],
  [(Sh.int IntKind.i64)],
  [Sh.any],
  [Sh.any],
  [Sh.any],
  [Sh.any],
  [Sh.any],
  [Sh.any],
  [Sh.any],
  [Sh.any],
  [Sh.any],
  [Sh.any],
  [Sh.any],
  [Sh.any],
  [Sh.any],
  [Sh.any],
  [Sh.any],
  [Sh.arr],
  [Sh.any],
  [Sh.any],
  [(Sh.int IntKind.u64)],
  [Sh.any],
  [Sh.any],
  [Sh.any],
  [Sh.any],
  [Sh.any],
  [(Sh.int IntKind.i64), (Sh.int IntKind.i64), (Sh.int IntKind.i64), (Sh.int IntKind.i64), (Sh.int IntKind.i64), (Sh.int IntKind.i64), (Sh.int IntKind.i64)],
  [Sh.any],
  [Sh.any],
  [Sh.any],
  [Sh.any],
  [Sh.any],
  [Sh.any],
  [Sh.arr],
  [Sh.any],
  [Sh.any],
  [Sh.any],
  [Sh.any],
  [Sh.any],
  [Sh.any, Sh.any, Sh.any, Sh.str],
  [Sh.any, Sh.any, Sh.any, Sh.str],
  [],
  [],
  [],
  [Sh.any],
  [(Sh.int IntKind.u32)],
  [(Sh.int IntKind.u8)],
  [(Sh.int IntKind.u8)],
  [Sh.any],
  [Sh.any],
  [(Sh.int IntKind.i32)],
  [(Sh.int IntKind.i32)],
  [(Sh.int IntKind.u64), (Sh.int IntKind.u64), (Sh.int IntKind.u32), (Sh.int IntKind.u8), (Sh.int IntKind.u8), (Sh.int IntKind.u8), (Sh.int IntKind.u8), Sh.any, Sh.any, (Sh.int IntKind.i32), (Sh.int IntKind.i32)],
  [(Sh.int IntKind.u64), (Sh.int IntKind.u64), (Sh.int IntKind.u32), (Sh.int IntKind.u8), (Sh.int IntKind.u8), (Sh.int IntKind.u8), (Sh.int IntKind.u8), Sh.any, Sh.any, (Sh.int IntKind.i32), (Sh.int IntKind.i32)],
  [Sh.any]]
def resTab : List (List Sh) := [
  [],
  [],
  [],
  [Sh.bool],
  [Sh.bool],
  [Sh.bool],
  [Sh.bool],
  [(Sh.agg [(Sh.int IntKind.i64), (Sh.lst 2), Sh.bool, Sh.bool, Sh.str]), (Sh.int IntKind.i64)],
  [(Sh.agg [(Sh.int IntKind.i64), (Sh.lst 2), Sh.bool, Sh.bool, Sh.str]), (Sh.int IntKind.i64)],
  [Sh.bool],
  [(Sh.agg [(Sh.int IntKind.i64), (Sh.lst 2)]), (Sh.int IntKind.i64)],
  [Sh.bool],
  [(Sh.agg [(Sh.int IntKind.i64), (Sh.lst 2)]), (Sh.int IntKind.i64)],
  [(Sh.int IntKind.i64)],
  [Sh.bool],
  [(Sh.agg [(Sh.int IntKind.i64), (Sh.lst 2)]), (Sh.int IntKind.i64)],
  [Sh.bool],
  [(Sh.agg [(Sh.int IntKind.i64), (Sh.lst 2)]), (Sh.int IntKind.i64)],
  [(Sh.agg [(Sh.int IntKind.i64), (Sh.lst 5)]), (Sh.agg [(Sh.lst 2), (Sh.int IntKind.i64)]), (Sh.int IntKind.i64)],
  [(Sh.lst 1), (Sh.int IntKind.i64)],
  [Sh.str, Sh.bool],
  [(Sh.lst 1)],
  [(Sh.int IntKind.i64)],
  [(Sh.lst 2)],
  [(Sh.lst 1)],
  [(Sh.lst 2)],
  [(Sh.lst 2)],
  [(Sh.agg [(Sh.int IntKind.i64), (Sh.lst 5)]), Sh.bool],
  [(Sh.agg [(Sh.int IntKind.i64), (Sh.lst 2)]), (Sh.int IntKind.i64)],
  [Sh.bool],
  [Sh.bool],
  [(Sh.int IntKind.i64)],
  [(Sh.lst 5)],
  [(Sh.lst 5), Sh.bool],
  [(Sh.lst 5)],
  [(Sh.agg [(Sh.int IntKind.i64), (Sh.lst 2)])],
  [Sh.bool],
  [Sh.bool],
  [(Sh.agg [(Sh.int IntKind.i64), (Sh.int IntKind.i64), (Sh.int IntKind.i64), (Sh.int IntKind.i64), (Sh.int IntKind.i64), (Sh.int IntKind.i64), (Sh.int IntKind.i64), (Sh.int IntKind.i64), (Sh.int IntKind.i64), (Sh.int IntKind.i64), (Sh.int IntKind.i64), (Sh.int IntKind.i64), (Sh.int IntKind.i64), Sh.str, (Sh.lst 1), (Sh.lst 5)]), (Sh.int IntKind.i64)],
  [(Sh.int IntKind.i64)],
  [Sh.bool],
  [Sh.bool],
  [(Sh.agg [(Sh.int IntKind.i64), (Sh.lst 2)])],
  [(Sh.int IntKind.i64)],
  [(Sh.lst 2)],
  [(Sh.lst 5)],
  [(Sh.lst 2)],
  [Sh.bool],
  [Sh.bool],
  [(Sh.lst 2)],
  [(Sh.int IntKind.i64)],
  [Sh.bool],
  [(Sh.int IntKind.i64)],
  [(Sh.lst 1), (Sh.int IntKind.i64)],
  [],
  [(Sh.agg [(Sh.int IntKind.i64), Sh.str])],
  [Sh.any],
  [(Sh.int IntKind.i64), (Sh.int IntKind.i64), (Sh.int IntKind.i64), Sh.bool],
  [(Sh.int IntKind.i64)],
  [(Sh.agg [(Sh.int IntKind.i64), Sh.str]), (Sh.int IntKind.i64), (Sh.int IntKind.i64)],
  [Sh.str],
  [Sh.bool],
  [Sh.bool],
  [Sh.bool],
  [Sh.bool],
  [Sh.bool],
  [Sh.bool],
  [Sh.bool],
  [(Sh.int IntKind.i64)],
  [(Sh.agg [(Sh.int IntKind.i64), (Sh.int IntKind.i64), (Sh.int IntKind.i64), (Sh.int IntKind.i64), (Sh.int IntKind.i64)]), (Sh.int IntKind.i64)],
  [(Sh.lst 1)],
  [(Sh.int IntKind.i64)],
  [Sh.bool],
  [(Sh.int IntKind.i64)],
  [Sh.bool],
  [(Sh.lst 1)],
  [Sh.bool],
  [Sh.bool],
  [(Sh.agg [(Sh.int IntKind.i64), (Sh.int IntKind.i64), (Sh.int IntKind.i64), (Sh.int IntKind.i64), (Sh.int IntKind.i64), (Sh.int IntKind.i64), (Sh.int IntKind.i64), (Sh.int IntKind.i64), (Sh.int IntKind.i64), (Sh.int IntKind.i64), (Sh.int IntKind.i64), (Sh.int IntKind.i64), (Sh.int IntKind.i64), Sh.str, (Sh.lst 1), (Sh.lst 5)])],
  [Sh.bool],
  [Sh.bool],
  [],
  [(Sh.lst 5)],
  [(Sh.agg [(Sh.int IntKind.i64), (Sh.int IntKind.i64), (Sh.int IntKind.i64), (Sh.int IntKind.i64), (Sh.int IntKind.i64)])],
  [(Sh.lst 5)],
  [(Sh.lst 5)],
  [(Sh.lst 5), (Sh.int IntKind.i64), Sh.bool],
  [(Sh.lst 5)],
  [Sh.bool],
  [Sh.bool],
  [(Sh.int IntKind.i64)],
  [Sh.bool],
  [Sh.bool],
  [(Sh.int IntKind.i64)],
  [(Sh.int IntKind.i64), (Sh.int IntKind.i64)],
  [(Sh.int IntKind.i64)],
  [(Sh.lst 2)],
  [(Sh.lst 2)],
  [(Sh.int IntKind.i64)],
  [Sh.bool],
  [Sh.bool],
  [Sh.bool],
  [Sh.bool],
  [Sh.bool],
  [],
  [Sh.bool],
  [],
  [Sh.bool],
  [(Sh.agg [(Sh.int IntKind.i64), (Sh.int IntKind.i64), (Sh.int IntKind.i64), (Sh.int IntKind.i64), (Sh.int IntKind.i64)]), Sh.bool],
  [(Sh.int IntKind.i64)],
  [(Sh.int IntKind.i64)],
  [Sh.bool],
  [],
  [],
  [],
  [],
  [],
  [],
  [Sh.str],
  [],
  [Sh.str],
  [],
  [Sh.str],
  [],
  [Sh.str],
  [],
  [Sh.str],
  [],
  [Sh.str],
  [],
  [(Sh.int IntKind.i64)],
  [Sh.str],
  [],
  [Sh.str]]
theorem zse : (List.range tyTab.length).map (tdOf Tryz.prog) = tyTab := by kernel_rfl
theorem zsf : (List.range fnTab.length).map (fnOf Tryz.prog) = fnTab := by kernel_rfl
end V
namespace V
open Go Go.RowKit Go.Lib
variable {P : Program}
theorem zdz (w : World) {o : Oper} {a : Act} {K : Act → World → Prop} {Q : Exit → Act → World → Prop} (d s : Operand) (t t' : TypeId) (ho : o.op = .call { callee := .builtin .copy, args := #[d, s], argTypes := #[t, t'] }) (v u : Value) (hd : a.eval d = v) (hs : a.eval s = u) {v' : Value} {w' : World}
    (hr : (Builtin.copy_ #[t, t'] o.type #[v, u]).run P w = .ok v' w') (h : K (a.put o.dst v') w') : o.wp P a w K Q := by
  unfold Oper.wp execOp; simp only [ho, resolve, invoke, builtin, Sem.run_bind, Sem.run_pure, Result.andThen_ok, List.map_toArray, List.map_cons, List.map_nil, hd, hs, hr]; exact h
theorem z9v (w : World) {o : Oper} {a : Act} {K : Act → World → Prop} {Q : Exit → Act → World → Prop} (d s : Operand) (t t' : TypeId) (ho : o.op = .call { callee := .builtin .append, args := #[d, s], argTypes := #[t, t'] }) (v u : Value) (hd : a.eval d = v) (hs : a.eval s = u) {v' : Value} {w' : World}
    (hr : (Builtin.append_ #[t, t'] o.type #[v, u]).run P w = .ok v' w') (h : K (a.put o.dst v') w') : o.wp P a w K Q := by
  unfold Oper.wp execOp; simp only [ho, resolve, invoke, builtin, Sem.run_bind, Sem.run_pure, Result.andThen_ok, List.map_toArray, List.map_cons, List.map_nil, hd, hs, hr]; exact h
theorem zlc (w : World) {o : Oper} {a : Act} {K : Act → World → Prop} {Q : Exit → Act → World → Prop} (d : Operand) (t : TypeId) (ho : o.op = .call { callee := .builtin .clear, args := #[d], argTypes := #[t] }) (v : Value) (hd : a.eval d = v) {v' : Value} {w' : World}
    (hr : (Builtin.clear_ #[t] o.type #[v]).run P w = .ok v' w') (h : K (a.put o.dst v') w') : o.wp P a w K Q := by
  unfold Oper.wp execOp; simp only [ho, resolve, invoke, builtin, Sem.run_bind, Sem.run_pure, Result.andThen_ok, List.map_toArray, List.map_cons, List.map_nil, hd, hr]; exact h
theorem z2p (w : World) {ops : Array Oper} {rest : List Oper} {o : Oper} {a : Act} {Q : Exit → Act → World → Prop} (hgd : o.guard = none) (d s : Operand) (t t' : TypeId) (ho : o.op = .call { callee := .builtin .copy, args := #[d, s], argTypes := #[t, t'] }) (v u : Value) (hd : a.eval d = v) (hs : a.eval s = u) {v' : Value} {w' : World}
    (hr : (Builtin.copy_ #[t, t'] o.type #[v, u]).run P w = .ok v' w') (h : wpList P ops Q rest (a.put o.dst v') w') : wpList P ops Q (o :: rest) a w :=
  wpList_plain hgd fun _ hK => zdz w d s t t' ho v u hd hs hr (hK _ _ h)
theorem z1b (w : World) {ops : Array Oper} {rest : List Oper} {o : Oper} {a : Act} {Q : Exit → Act → World → Prop} (hgd : o.guard = none) (d s : Operand) (t t' : TypeId) (ho : o.op = .call { callee := .builtin .append, args := #[d, s], argTypes := #[t, t'] }) (v u : Value) (hd : a.eval d = v) (hs : a.eval s = u) {v' : Value} {w' : World}
    (hr : (Builtin.append_ #[t, t'] o.type #[v, u]).run P w = .ok v' w') (h : wpList P ops Q rest (a.put o.dst v') w') : wpList P ops Q (o :: rest) a w :=
  wpList_plain hgd fun _ hK => z9v w d s t t' ho v u hd hs hr (hK _ _ h)
theorem z2k (w : World) {ops : Array Oper} {rest : List Oper} {o : Oper} {a : Act} {Q : Exit → Act → World → Prop} (hgd : o.guard = none) (d : Operand) (t : TypeId) (ho : o.op = .call { callee := .builtin .clear, args := #[d], argTypes := #[t] }) (v : Value) (hd : a.eval d = v) {v' : Value} {w' : World}
    (hr : (Builtin.clear_ #[t] o.type #[v]).run P w = .ok v' w') (h : wpList P ops Q rest (a.put o.dst v') w') : wpList P ops Q (o :: rest) a w :=
  wpList_plain hgd fun _ hK => zlc w d t ho v hd hr (hK _ _ h)
theorem z2q {ops : Array Oper} {o : Oper} {a : Act} {w : World} {K : Act → World → Prop} {Q : Exit → Act → World → Prop} {E : Prop} (hg : o.guard = none) (d x : Operand) (dT sT : TypeId) (hop : o.op = Op.call { callee := Callee.builtin Builtin.copy, args := #[d, x], argTypes := #[dT, sT] })
    (v u : Value) (hd : a.eval d = v) (hx : a.eval x = u) {v' : Value} {w' : World} (hr : (Builtin.copy_ #[dT, sT] o.type #[v, u]).run P w = .ok v' w') (hK : K (a.put o.dst v') w') : if Region.wanted o (yielded ops a.tmps) = true then Oper.wp P o a w K Q else E := by
  have hw : Region.wanted o (yielded ops a.tmps) = true := by simp [Region.wanted, hg]
  rw [if_pos hw]; exact zdz w d x dT sT hop v u hd hx hr hK
theorem z9w {ops : Array Oper} {o : Oper} {a : Act} {w : World} {K : Act → World → Prop} {Q : Exit → Act → World → Prop} {E : Prop} (hg : o.guard = none) (d x : Operand) (dT sT : TypeId) (hop : o.op = Op.call { callee := Callee.builtin Builtin.append, args := #[d, x], argTypes := #[dT, sT] })
    (v u : Value) (hd : a.eval d = v) (hx : a.eval x = u) {v' : Value} {w' : World} (hr : (Builtin.append_ #[dT, sT] o.type #[v, u]).run P w = .ok v' w') (hK : K (a.put o.dst v') w') : if Region.wanted o (yielded ops a.tmps) = true then Oper.wp P o a w K Q else E := by
  have hw : Region.wanted o (yielded ops a.tmps) = true := by simp [Region.wanted, hg]
  rw [if_pos hw]; exact z9v w d x dT sT hop v u hd hx hr hK
def spl (cur : Array Value) (o : Nat) (news : List Value) : Array Value := (cur.toList.take o ++ news ++ cur.toList.drop (o + news.length)).toArray
theorem zn (cur : Array Value) (o : Nat) (news : List Value) (h : o + news.length ≤ cur.size) : (spl cur o news).size = cur.size := by
  simp [spl]; omega
theorem zl (cur : Array Value) (o : Nat) (news : List Value) : (spl cur o news).toList = cur.toList.take o ++ news ++ cur.toList.drop (o + news.length) := by simp [spl]
theorem ziw {w : World} {sz n cap g off : Nat} {cur : Array Value} {te : TypeId} {fr : Nat × Nat} (hg : w.heap[g]? = some (.cells cur te fr)) (hfit : off + n * sz ≤ cur.size) (h1 : ∀ u ∈ (cur.toList.drop off).take (n * sz), u.oneCell' = true) (a : Option Addr) (ha : n ≠ 0 → a = some ⟨g, off, none⟩) :
    SrcM P w sz n (.slice a n cap) ((cur.toList.drop off).take (n * sz)) := by
  refine z4l (by rw [List.length_take, List.length_drop, Array.length_toList]; omega) h1 fun hn => ⟨g, off, ha hn, fun j v hj => ?_⟩
  rw [List.getElem?_take] at hj
  split at hj
  · rw [List.getElem?_drop] at hj
    rw [cell_of_row w g (off + j) cur te fr hg]
    simpa using hj
  · cases hj
theorem zw {w : World} {sz n cap g off cnt : Nat} {cur : Array Value} {te : TypeId} {fr : Nat × Nat} (hg : w.heap[g]? = some (.cells cur te fr)) (hfit : off + cnt * sz ≤ cur.size) :
    (Builtin.firstCells sz cnt (.slice (some ⟨g, off, none⟩) n cap)).run P w = .ok ((cur.toList.drop off).take (cnt * sz)).toArray w := by
  refine run_firstCells_some w sz cnt _ _ _ _ (by rw [List.length_take, List.length_drop, Array.length_toList]; omega) fun j v hj => ?_
  rw [List.getElem?_take] at hj
  split at hj
  · rw [List.getElem?_drop] at hj
    rw [z1x, cell_of_row w g (off + j) cur te fr hg]
    simpa using hj
  · cases hj
theorem zq {w : World} {t t' ty e : TypeId} {i : TypeInfo} (ht : P.underlying t = some (.slice e)) (hi : P.info? e = some i) {g o dn dc k cnt : Nat} {cur : Array Value} {te : TypeId} (hg : w.heap[g]? = some (.cells cur te (0, 0))) {b : Option Addr} {c : Nat} {news : List Value}
    (hcnt : Nat.min k dn = cnt) (hc : (Builtin.firstCells i.size cnt (.slice b k c)).run P w = .ok news.toArray w) (h1 : ∀ u ∈ news, u.oneCell' = true) (hfit : o + news.length ≤ cur.size) :
    (Builtin.copy_ #[t, t'] ty #[.slice (some ⟨g, o, none⟩) dn dc, .slice b k c]).run P w = .ok (goInt cnt) (w.setRow g (spl cur o news)) := by
  have hst := run_storeCells_at P g o te news 0 cur w hg (by omega) h1
  simp only [Nat.add_zero] at hst; simp [Builtin.copy_, run_underlying ht, Builtin.lenOf, hcnt, sizeOf, typeInfo, hi, hc, hst, spl]
theorem z1n {w : World} {t ty e : TypeId} {i : TypeInfo} {z : Value} (ht : P.underlying t = some (.slice e)) (hi : P.info? e = some i) (hz : i.zero = some z) (hzs : z.cells.size = i.size) (hz1 : ∀ u ∈ z.cells, u.oneCell' = true) {g o n c : Nat} {cur : Array Value} {te : TypeId} (hg : w.heap[g]? = some (.cells cur te (0, 0))) (hfit : o + n * i.size ≤ cur.size) (hn : 0 < n) :
    (Builtin.clear_ #[t] ty #[.slice (some ⟨g, o, none⟩) n c]).run P w = .ok (.tuple #[]) (w.setRow g (spl cur o (Builtin.zeroCells z.cells n).toList)) := by
  have hl : (Builtin.zeroCells z.cells n).toList.length = n * i.size := by rw [Array.length_toList, size_zeroCells, hzs]
  have hst := run_storeCells_at P g o te (Builtin.zeroCells z.cells n).toList 0 cur w hg (by omega) (by
    intro u hu
    have hu : u ∈ Builtin.zeroCells z.cells n := by simpa using hu
    unfold Builtin.zeroCells at hu; rw [Array.mem_map] at hu; obtain ⟨k, hk, rfl⟩ := hu
    have hpos : 0 < z.cells.size := by
      have := Array.mem_range.1 hk
      rcases Nat.eq_zero_or_pos z.cells.size with h | h
      · rw [h, Nat.mul_zero] at this; omega
      · exact h
    have hlt := Nat.mod_lt k hpos; rw [getElem!_pos z.cells _ hlt]; exact hz1 _ (Array.getElem_mem hlt))
  simp only [Nat.add_zero] at hst
  obtain ⟨m, rfl⟩ : ∃ m, n = m + 1 := ⟨n - 1, by omega⟩
  simp [Builtin.clear_, run_underlying ht, zeroValue, typeInfo, hi, hz, hst, spl]
end V
namespace V
open Go Go.RowKit Go.Lib
def RowTo (w : World) (v : Value) (sz n : Nat) (xs : List Value) (e : Ending) (w' : World) : Prop :=
  ∃ v' te, e = .returned v' ∧ w'.ownsRow 0 te sz v' n xs ∧ w.grownBy w' v.ownBlock ∧ ∀ g, v'.ownBlock = some g → v.ownBlock = some g ∨ w.heap.size ≤ g
theorem z12 {w : World} {v : Value} {sz n : Nat} {xs : List Value} {te : TypeId} (h : w.ownsRow 0 te sz v n xs) : RowTo w v sz n xs (.returned v) w :=
  ⟨v, te, rfl, h, ⟨rfl, rfl, rfl, Nat.le_refl _, fun _ _ _ => rfl⟩, fun g hg => .inl hg⟩
theorem z1o {w W : World} {g n' cap sz : Nat} {xs : List Value} {te : TypeId} {cur cur' : Array Value} (hW : W = w.setRow g cur') (hg : w.heap[g]? = some (.cells cur te (0, 0))) (hs : cur'.size = cap * sz) (hn : n' ≤ cap) (hc : cap ≤ maxLen) (hx : cur'.toList.take (n' * sz) = xs) (w0 : World) (hw0 : w0.heap = w.heap ∧ w0.os = w.os ∧ w0.tape = w.tape ∧ w0.output = w.output) (m : Nat) :
    RowTo w0 (.slice (some ⟨g, 0, none⟩) m cap) sz n' xs (.returned (.slice (some ⟨g, 0, none⟩) n' cap)) W := by
  obtain ⟨e1, e2, e3, e4⟩ := hw0; subst hW; have hl : n' * sz ≤ cap * sz := Nat.mul_le_mul_right _ hn; refine ⟨_, te, rfl, ⟨?_, .inr ⟨g, cap, cur', rfl, Nat.zero_le _, setRow_heap w g cur cur' te (0, 0) hg, hn, hc, hs, hx⟩⟩, ⟨e2.symm, e3.symm, e4.symm, ?_, ?_⟩, fun g' h => .inl h⟩
  · rw [← hx, List.length_take, Array.length_toList]; omega
  · rw [size_setRow, e1]; exact Nat.le_refl _
  · intro k hk hne
    rw [setRow_other' w g k cur' (fun h => hne (by rw [h]; rfl)), e1]
theorem z10 (w : World) (g : Nat) (a b : Array Value) : (w.setRow g a).setRow g b = w.setRow g b := by
  unfold World.setRow
  congr 1
  simp only [Array.ext_iff, Array.size_modify, Array.getElem_modify, true_and]; intro i h1 h2
  by_cases hgi : g = i
  · subst hgi
    simp only [if_true]
    cases w.heap[g] <;> rfl
  · simp [hgi]
set_option maxHeartbeats 4000000 in
set_option maxRecDepth 1000000 in
theorem zpj (g n cap i j : Nat) (te : TypeId) (cur : Array Value) (w : World) (hg : w.heap[g]? = some (.cells cur te (0, 0))) (hs : cur.size = cap * 5) (hn : n ≤ cap) (hc : cap ≤ maxLen) (h1 : ∀ u ∈ cur.toList.take (n * 5), u.oneCell' = true) (hi : i ≤ j) (hj : j ≤ n) :
    Calls Tryz.prog 85 #[.slice (some ⟨g, 0, none⟩) n cap, .int .i64 i, .int .i64 j] w (RowTo w (.slice (some ⟨g, 0, none⟩) n cap) 5 (n - (j - i)) (cur.toList.take (i * 5) ++ (cur.toList.drop (j * 5)).take ((n - j) * 5))) := by
  have hown : w.ownsRow 0 te 5 (.slice (some ⟨g, 0, none⟩) n cap) n (cur.toList.take (n * 5)) := ⟨by rw [List.length_take, Array.length_toList]; omega, .inr ⟨g, cap, cur, rfl, Nat.zero_le _, hg, hn, hc, hs, rfl⟩⟩
  unfold maxLen at hc
  by_cases heq : i = j
  · subst heq
    have e : cur.toList.take (i * 5) ++ (cur.toList.drop (i * 5)).take ((n - i) * 5) = cur.toList.take (n * 5) := by
      rw [← List.take_add]; congr 1; omega
    rw [e, Nat.sub_self, Nat.sub_zero]; have H := Lib.hid (z12 hown); clear hown hg hs h1 e
    rcases Nat.lt_or_ge i n with hin | hin
    · go_enter Tryz.func85, Tryz.ntmps85
      go_wp2
      all_goals (go_ret; exact H.out)
    · obtain rfl : n = i := by omega
      go_enter Tryz.func85, Tryz.ntmps85
      go_wp2
      all_goals (go_ret; exact H.out)
  · have hlt : i < j := by omega
    have hU : Tryz.prog.underlying 30 = some (.slice 26) := Tryz.underlying30
    obtain ⟨ti, hti, hz1, hz2, hz3⟩ := info_parts (by kernel_rfl : (Tryz.prog.info? 26).map (fun i => (i.zero, i.size, i.bytes)) = some (some (.agg #[.int .i64 0, .int .i64 0, .int .i64 0, .int .i64 0, .int .i64 0]), 5, 40))
    rcases (show j < cap ∨ cap = j by omega) with hjl | rfl
    rotate_left
    · obtain rfl : n = cap := by omega
      have hcl : ∀ ty c, (Builtin.clear_ #[30] ty #[.slice (some ⟨g, i * 5, none⟩) (n - i) c]).run Tryz.prog w.drew = .ok (.tuple #[]) (w.drew.setRow g (spl cur (i * 5) (Builtin.zeroCells #[Value.int .i64 0, .int .i64 0, .int .i64 0, .int .i64 0, .int .i64 0] (n - i)).toList)) := fun ty c =>
        z1n hU hti hz1 (by rw [hz2]; rfl) (by intro u hu; simp [Value.cells] at hu; rcases hu with rfl | rfl | rfl | rfl | rfl <;> rfl) (w := w.drew) (te := te) hg (by rw [hz2, hs]; omega) (by omega)
      have hzl : (Builtin.zeroCells #[Value.int .i64 0, .int .i64 0, .int .i64 0, .int .i64 0, .int .i64 0] (n - i)).toList.length = (n - i) * 5 := by rw [Array.length_toList, size_zeroCells]; rfl
      have Hend : RowTo w (.slice (some ⟨g, 0, none⟩) n n) 5 (n - (n - i)) (cur.toList.take (i * 5) ++ (cur.toList.drop (n * 5)).take ((n - n) * 5)) (.returned (.slice (some ⟨g, 0, none⟩) i n)) (w.drew.setRow g (spl cur (i * 5) (Builtin.zeroCells #[Value.int .i64 0, .int .i64 0, .int .i64 0, .int .i64 0, .int .i64 0] (n - i)).toList)) := by
        rw [show n - (n - i) = i by omega]
        refine z1o (w := w.drew) (n' := i) (cap := n) (sz := 5) (te := te) (cur := cur) rfl hg ?_ hi hc ?_ w ⟨rfl, rfl, rfl, rfl⟩ n
        · rw [zn _ _ _ (by omega), hs]
        · rw [zl]
          simp only [Nat.sub_self, Nat.zero_mul, List.take_zero, List.append_nil]
          rw [List.append_assoc, List.take_append_of_le_length (by rw [List.length_take, Array.length_toList]; omega), List.take_take, Nat.min_self]
      have Hcl := Lib.hid hcl; have HE := Lib.hid Hend
      have mixed : Tryz.prog.follows .mixedOrders = true := by kernel_rfl
      generalize (cur.toList.take (i * 5) ++ (cur.toList.drop (n * 5)).take ((n - n) * 5)) = xs at *; clear hcl Hend hzl hz1 hz2 hz3 hown hg hs h1 hti
      go_enter Tryz.func85, Tryz.ntmps85
      go_wp2_with fail
      go_region_law_o fail
      all_goals
        go_wp2_with (with_reducible refine z2k _ rfl (.tmp 31) 30 rfl (.slice (some ⟨g, i * 5, none⟩) (n - i) (n - i)) rfl (Hcl.out _ _) ?_)
        all_goals
          go_ret
          exact HE.out
    obtain ⟨news, hnews⟩ : ∃ news, news = (cur.toList.drop (j * 5)).take ((n - j) * 5) := ⟨_, rfl⟩
    have hnl : news.length = (n - j) * 5 := by rw [hnews, List.length_take, List.length_drop, Array.length_toList]; omega
    have hn1 : ∀ u ∈ news, u.oneCell' = true := by
      intro u hu; rw [hnews, List.take_drop] at hu; have := List.mem_of_mem_drop hu
      rw [show j * 5 + (n - j) * 5 = n * 5 by omega] at this
      exact h1 u this
    have hap : ∀ A c, (cap ≠ j → A = some (⟨g, j * 5, none⟩ : Addr)) → (Builtin.append_ #[30, 30] 30 #[.slice (some ⟨g, 0, none⟩) i cap, .slice A (n - j) c]).run Tryz.prog w.drew = .ok (.slice (some ⟨g, 0, none⟩) (i + (n - j)) cap) (w.drew.setRow g (spl cur (i * 5) news)) := fun A c hA => by
      have hcells : ∀ W : World, W.heap = w.drew.heap → (Builtin.firstCells 5 (n - j) (.slice A (n - j) c)).run Tryz.prog W = .ok news.toArray W := fun W hW => by
        have hgW : W.heap[g]? = some (.cells cur te (0, 0)) := by rw [hW]; exact hg
        have hs1 : SrcM Tryz.prog W 5 (n - j) (.slice A (n - j) c) news := by
          rw [hnews]
          exact ziw (te := te) (fr := (0, 0)) hgW (by omega) (by rw [← hnews]; exact hn1) A fun h0 => hA (by omega)
        have hsl := hs1.cells (n - j) (Nat.le_refl _)
        rwa [List.take_of_length_le (by omega)] at hsl
      have := z28 (P := Tryz.prog) (w := w.drew) (t := 30) (u := 30) (ty := 30) (e := 26) (e' := te) (i := ti) hU hU (.inl ⟨_, rfl⟩) hti (g := g) (sLen := i) (sCap := cap) (n := n - j) (cur := cur) hg (y := .slice A (n - j) c) (news := news)
        ⟨fun W hW => by simp [Builtin.lenOf], fun W hW => by rw [hz2]; exact hcells W hW, by rw [hnl, hz2], hn1⟩ (by omega) (by rw [hz2]; omega)
      rw [hz2] at this; exact this
    obtain ⟨W1, hW1⟩ : ∃ W1, W1 = w.drew.setRow g (spl cur (i * 5) news) := ⟨_, rfl⟩
    have hg1 : W1.heap[g]? = some (.cells (spl cur (i * 5) news) te (0, 0)) := by rw [hW1]; exact setRow_heap _ g cur _ te (0, 0) hg
    have hsz1 : (spl cur (i * 5) news).size = cap * 5 := by rw [zn _ _ _ (by omega), hs]
    have hcl : ∀ ty c, (Builtin.clear_ #[30] ty #[.slice (some ⟨g, (i + (n - j)) * 5, none⟩) (n - (i + (n - j))) c]).run Tryz.prog W1 = .ok (.tuple #[]) (W1.setRow g (spl (spl cur (i * 5) news) ((i + (n - j)) * 5) (Builtin.zeroCells #[Value.int .i64 0, .int .i64 0, .int .i64 0, .int .i64 0, .int .i64 0] (n - (i + (n - j)))).toList)) := fun ty c =>
      z1n hU hti hz1 (by rw [hz2]; rfl) (by intro u hu; simp [Value.cells] at hu; rcases hu with rfl | rfl | rfl | rfl | rfl <;> rfl) hg1 (by rw [hz2, hsz1]; omega) (by omega)
    have hic : i ≤ cap := by omega
    have hjc : j ≤ cap := by omega
    have Hap := Lib.hid hap; have Hcl := Lib.hid hcl; have HW1 := Lib.hid hW1; have Hend : ∀ cur2, cur2 = spl (spl cur (i * 5) news) ((i + (n - j)) * 5) (Builtin.zeroCells #[Value.int .i64 0, .int .i64 0, .int .i64 0, .int .i64 0, .int .i64 0] (n - (i + (n - j)))).toList →
        RowTo w (.slice (some ⟨g, 0, none⟩) n cap) 5 (n - (j - i)) (cur.toList.take (i * 5) ++ news) (.returned (.slice (some ⟨g, 0, none⟩) (i + (n - j)) cap)) (W1.setRow g cur2) := by
      intro cur2 hc2
      have hzl : (Builtin.zeroCells #[Value.int .i64 0, .int .i64 0, .int .i64 0, .int .i64 0, .int .i64 0] (n - (i + (n - j)))).toList.length = (n - (i + (n - j))) * 5 := by rw [Array.length_toList, size_zeroCells]; rfl
      rw [hW1, z10, show i + (n - j) = n - (j - i) by omega]
      refine z1o (w := w.drew) (n' := n - (j - i)) (cap := cap) (sz := 5) (te := te) (cur := cur) rfl hg ?_ (by omega) hc ?_ w ⟨rfl, rfl, rfl, rfl⟩ n
      · rw [hc2, zn _ _ _ (by omega), hsz1]
      · rw [hc2, zl, zl]
        have hl1 : (cur.toList.take (i * 5) ++ news).length = (n - (j - i)) * 5 := by rw [List.length_append, List.length_take, Array.length_toList]; omega
        rw [show (i + (n - j)) * 5 = (n - (j - i)) * 5 by omega]
        rw [List.append_assoc, List.take_append_of_le_length (by rw [List.length_take, List.length_append]; omega), List.take_take, Nat.min_self, List.take_append_of_le_length (by omega), List.take_of_length_le (by omega)]
    have HE := Lib.hid Hend; rw [← hnews]
    have mixed : Tryz.prog.follows .mixedOrders = true := by kernel_rfl
    clear hap hcl hW1 Hend hnews hg1 hsz1 hz1 hz2 hz3 hnl hn1 hown hg hs h1
    · have hne : ¬ cap = j := by omega
      go_enter Tryz.func85, Tryz.ntmps85
      go_wp2_with fail
      go_region_law_o (refine z9w rfl (.tmp 22) (.tmp 25) 30 30 rfl (.slice (some ⟨g, 0, none⟩) i cap) (.slice (some ⟨g, j * 5, none⟩) (n - j) (cap - j)) (by simp [Act.eval, Act.put]) (by simp [Act.eval, Act.put]) (Hap.out (some ⟨g, j * 5, none⟩) (cap - j) (fun h => rfl)) ?_)
      all_goals
        rw [← HW1.out]
        go_wp2_with (with_reducible refine z2k _ rfl (.tmp 31) 30 rfl (.slice (some ⟨g, (i + (n - j)) * 5, none⟩) (n - (i + (n - j))) (cap - (i + (n - j)))) rfl (Hcl.out _ _) ?_)
        all_goals
          go_ret
          exact HE.out _ rfl
end V
namespace V
open Go Go.RowKit Go.Lib
theorem z2u {w : World} {g : Nat} {cur : Array Value} {te : TypeId} (h : w.heap[g]? = some (.cells cur te (0, 0))) : w.shape? g = some (te, cur.size) := by simp [World.shape?, h]
theorem z2f {w : World} {g o : Nat} {cur : Array Value} {te : TypeId} (h : w.heap[g]? = some (.cells cur te (0, 0))) : w.frozen? ⟨g, o, none⟩ = false := by simp [World.frozen?, h]
theorem z39 {w w0 W : World} {sz n cap : Nat} {xs : List Value} {te : TypeId} {cur : Array Value} (hW : W = w.alloc (.cells cur te)) (hw0 : w0.heap = w.heap ∧ w0.os = w.os ∧ w0.tape = w.tape ∧ w0.output = w.output) (hs : cur.size = cap * sz) (hn : n ≤ cap) (hc : cap ≤ maxLen) (hx : cur.toList.take (n * sz) = xs) (v : Value) :
    RowTo w0 v sz n xs (.returned (.slice (some ⟨w.heap.size, 0, none⟩) n cap)) W := by
  obtain ⟨e1, e2, e3, e4⟩ := hw0; subst hW; have hl : n * sz ≤ cap * sz := Nat.mul_le_mul_right _ hn; refine ⟨_, te, rfl, ⟨?_, .inr ⟨w.heap.size, cap, cur, rfl, Nat.zero_le _, heap_alloc_new w _, hn, hc, hs, hx⟩⟩, ⟨e2.symm, e3.symm, e4.symm, ?_, ?_⟩, fun g' h => .inr ?_⟩
  · rw [← hx, List.length_take, Array.length_toList]; omega
  · rw [e1]; simp
  · intro k hk hne
    rw [heap_alloc_old w (.cells cur te) (by rw [← e1]; exact hk), e1]
  · simp [Value.ownBlock] at h
    rw [e1]; omega
theorem z70 {P : Program} {w : World} {t u ty e : TypeId} {i : TypeInfo} {z : Value} (ht : P.underlying t = some (.slice e)) (hu : P.underlying u = some (.slice e)) (hi : P.info? e = some i) (hz : i.zero = some z) (hzs : z.cells.size = i.size) (hsz : 0 < i.size) (hby : 0 < i.bytes) (hbm : i.bytes ≤ 1048576)
    {v : Value} {n : Nat} {xs : List Value} {te : TypeId} (hown : w.ownsRow 0 te i.size v n xs) {y : Value} {k : Nat} {news : List Value} (hy : Src P w i.size k y news) (hb : (n + k) * i.bytes ≤ 211106232532992) :
    ∃ v' w', (Builtin.append_ #[t, u] ty #[v, y]).run P w = .ok v' w' ∧ RowTo w v i.size (n + k) (xs ++ news) (.returned v') w' := by
  have h63 : n + k ≤ 211106232532992 := Nat.le_trans (Nat.le_mul_of_pos_right _ hby) hb
  rcases hown.2 with ⟨rfl, rfl⟩ | ⟨g, cap, cur, rfl, _, hg, hnc, hcm, hcs, htake⟩
  · have hx0 : xs = [] := List.eq_nil_of_length_eq_zero (by rw [hown.1]; simp)
    subst hx0
    by_cases hk : k = 0
    · subst hk
      have hn0 : news = [] := List.eq_nil_of_length_eq_zero (by rw [hy.size]; simp)
      subst hn0; exact ⟨_, _, z6c ht hu (.inl ⟨_, rfl⟩) hi (Nat.le_refl _) hy, z12 hown⟩
    · obtain ⟨k1, k2, k3, k4, k5⟩ := z9d (ty := ty) ht hu (.inl ⟨_, rfl⟩) hi hz hzs hby hbm hy (by omega) (by simpa using hb)
      refine ⟨_, _, k1, ?_⟩; rw [Nat.zero_add, List.nil_append]; exact z39 (w := w.drew) (w0 := w) rfl ⟨rfl, rfl, rfl, rfl⟩ k4 k2 k3 k5 _
  · by_cases hroom : n + k ≤ cap
    · have hfit : n * i.size + news.length ≤ cur.size := by rw [hy.size, hcs, ← Nat.add_mul]; exact Nat.mul_le_mul_right _ hroom
      refine ⟨_, _, z28 ht hu (.inl ⟨_, rfl⟩) hi hg hy hroom hfit, ?_⟩
      refine z1o (w := w) (n' := n + k) (cap := cap) (sz := i.size) (te := te) (cur := cur) (cur' := spl cur (n * i.size) news) rfl hg (by rw [zn _ _ _ hfit, hcs]) hroom hcm ?_ w ⟨rfl, rfl, rfl, rfl⟩ n
      rw [zl, htake, Nat.add_mul, ← hy.size, List.append_assoc, ← List.append_assoc, List.take_append_of_le_length (by rw [List.length_append, hown.1]; omega), List.take_of_length_le (by rw [List.length_append, hown.1]; omega)]
    · have holds : ∀ W : World, W.heap = w.heap → (Builtin.firstCells i.size n (.slice (some ⟨g, 0, none⟩) n cap)).run P W = .ok xs.toArray W := fun W hW => by
        refine run_firstCells_some W i.size n _ _ _ _ hown.1 fun j u hj => ?_; have := hown.cells (g := g) rfl j u hj; rw [z1x] at this ⊢
        rw [show W.cell? ⟨g, 0 + j, none⟩ = w.cell? ⟨g, 0 + j, none⟩ by simp [World.cell?, hW]]
        exact this
      have hge := grownCap_ge w (n + k) cap e
      have hcm' : grownCap w (n + k) cap e ≤ maxLen := grownCap_le_maxLen w _ cap e (by simp only [maxLen]; omega)
      refine ⟨_, _, z3e ht hu (.inl ⟨_, rfl⟩) hi hz holds hy (by omega) (by omega) (z4k (by omega) hbm hb), ?_⟩
      refine z39 (w := w.drew) (w0 := w) (cap := grownCap w (n + k) cap e) rfl ⟨rfl, rfl, rfl, rfl⟩ ?_ hge hcm' ?_ _
      · simp only [Array.size_append, List.size_toArray, z22, hzs, hy.size, hown.1, ← Nat.add_mul]
        congr 1
        omega
      · have hl : (n + k) * i.size = (xs ++ news).length := by rw [List.length_append, hown.1, hy.size, Nat.add_mul]
        simp only [Array.toList_append]; rw [hl]; exact List.take_left
set_option maxHeartbeats 4000000 in
set_option maxRecDepth 1000000 in
theorem z5v (base : Option Addr) (n cap i : Nat) (b2 : Option Addr) (c2 : Nat) (w : World) (hi : i ≤ n) (hn : n ≤ cap) (hc : cap ≤ maxLen) (xs : List Value) (hR : RowTo w (.slice base n cap) 5 n xs (.returned (.slice base n cap)) w) :
    Calls Tryz.prog 84 #[.slice base n cap, .int .i64 i, .slice b2 0 c2] w (RowTo w (.slice base n cap) 5 n xs) := by
  unfold maxLen at hc
  have hic : i ≤ cap := by omega
  have H := Lib.hid hR; clear hR
  cases base with
  | none =>
    go_enter Tryz.func84, Tryz.ntmps84
    go_wp2
    all_goals (go_ret; exact H.out)
  | some b =>
    rcases (show i < cap ∨ cap = i by omega) with hlt | rfl
    · have hne : ¬ cap = i := by omega
      go_enter Tryz.func84, Tryz.ntmps84
      go_wp2
      all_goals (go_ret; exact H.out)
    · go_enter Tryz.func84, Tryz.ntmps84
      go_wp2
      all_goals (go_ret; exact H.out)
set_option maxHeartbeats 4000000 in
set_option maxRecDepth 1000000 in
theorem zno (v : Value) (n : Nat) (xs : List Value) (te : TypeId) (b2 : Addr) (m c2 : Nat) (news : List Value) (w : World) (hown : w.ownsRow 0 te 5 v n xs) (hm : 0 < m) (hy : Src Tryz.prog w 5 m (.slice (some b2) m c2) news) (hb : (n + m) * 40 ≤ 211106232532992) :
    Calls Tryz.prog 84 #[v, .int .i64 n, .slice (some b2) m c2] w (RowTo w v 5 (n + m) (xs ++ news)) := by
  have hU : Tryz.prog.underlying 30 = some (.slice 26) := Tryz.underlying30
  obtain ⟨ti, hti, hz1, hz2, hz3⟩ := info_parts (by kernel_rfl : (Tryz.prog.info? 26).map (fun i => (i.zero, i.size, i.bytes)) = some (some (.agg #[.int .i64 0, .int .i64 0, .int .i64 0, .int .i64 0, .int .i64 0]), 5, 40))
  obtain ⟨v', w', hap, hR⟩ := z70 (P := Tryz.prog) (w := w) (ty := 30) hU hU hti hz1 (by rw [hz2]; rfl) (by omega) (by omega) (by omega) (by rw [hz2]; exact hown) (by rw [hz2]; exact hy) (by rw [hz3]; exact hb)
  rw [hz2] at hR
  have hz4 : ¬ ((m : Int) = 0) := by omega
  have H := Lib.hid hR; have Hap := Lib.hid hap
  have mixed : Tryz.prog.follows .mixedOrders = true := by kernel_rfl
  rcases hown.2 with ⟨rfl, rfl⟩ | ⟨g, cap, cur, rfl, _, hg, hnc, hcm, hcs, htake⟩
  · clear hown hy hR hap hz1 hz2 hz3 hti hb
    go_enter Tryz.func84, Tryz.ntmps84
    go_wp2_with (at_builtin; refine z1b _ rfl _ _ 30 30 rfl _ _ rfl rfl Hap.out ?_)
    all_goals (go_ret; exact H.out)
  · unfold maxLen at hcm
    clear hown hy hR hap hz1 hz2 hz3 hti hb hg hcs htake
    rcases (show n < cap ∨ cap = n by omega) with hlt | rfl
    · have hne : ¬ cap = n := by omega
      go_enter Tryz.func84, Tryz.ntmps84
      go_wp2_with (at_builtin; refine z1b _ rfl _ _ 30 30 rfl _ _ rfl rfl Hap.out ?_)
      all_goals (go_ret; exact H.out)
    · go_enter Tryz.func84, Tryz.ntmps84
      go_wp2_with (at_builtin; refine z1b _ rfl _ _ 30 30 rfl _ _ rfl rfl Hap.out ?_)
      all_goals (go_ret; exact H.out)
set_option maxHeartbeats 4000000 in
set_option maxRecDepth 1000000 in
theorem znp (g n cap i h m c2 : Nat) (te te2 : TypeId) (cur cur2 : Array Value) (w : World) (hg : w.heap[g]? = some (.cells cur te (0, 0))) (hs : cur.size = cap * 5) (hc : cap ≤ maxLen) (h1 : ∀ u ∈ cur.toList.take (n * 5), u.oneCell' = true)
    (hg2 : w.heap[h]? = some (.cells cur2 te2 (0, 0))) (hs2 : cur2.size = c2 * 5) (hmc : m ≤ c2) (h2 : ∀ u ∈ cur2.toList.take (m * 5), u.oneCell' = true) (hgh : h ≠ g) (hin : i < n) (hm : 0 < m) (hroom : n + m ≤ cap) :
    Calls Tryz.prog 84 #[.slice (some ⟨g, 0, none⟩) n cap, .int .i64 i, .slice (some ⟨h, 0, none⟩) m c2] w (RowTo w (.slice (some ⟨g, 0, none⟩) n cap) 5 (n + m) (cur.toList.take (i * 5) ++ cur2.toList.take (m * 5) ++ (cur.toList.drop (i * 5)).take ((n - i) * 5))) := by
  have hU : Tryz.prog.underlying 30 = some (.slice 26) := Tryz.underlying30
  obtain ⟨ti, hti, hz1, hz2, hz3⟩ := info_parts (by kernel_rfl : (Tryz.prog.info? 26).map (fun i => (i.zero, i.size, i.bytes)) = some (some (.agg #[.int .i64 0, .int .i64 0, .int .i64 0, .int .i64 0, .int .i64 0]), 5, 40))
  unfold maxLen at hc
  have hov : ∀ lb cb, (callFunc 105 #[.slice (some ⟨h, 0, none⟩) m c2, .slice (some ⟨g, (i + m) * 5, none⟩) lb cb]).run Tryz.prog w = .ok (.value (.bool false)) w := fun lb cb => by
    rw [run_callFunc_extern Tryz.func105 (by kernel_rfl) (by kernel_rfl) (by kernel_rfl) (e := Extern.SlicesOverlaps.overlaps #[30, 30] #[4]) (by kernel_rfl),
      Lib.run_overlaps_apart w 30 4 26 hU 5 (fun w => by simp [sizeOf, typeInfo, hti, hz2]) ⟨h, 0, none⟩ ⟨g, (i + m) * 5, none⟩ m c2 lb cb hgh te2 te cur2.size cur.size (z2u hg2) (z2u hg) (by omega) (z2f hg2) (z2f hg2)]
    rfl
  obtain ⟨olds, holds⟩ : ∃ olds, olds = (cur.toList.drop (i * 5)).take ((n - i) * 5) := ⟨_, rfl⟩; obtain ⟨news, hnews⟩ : ∃ news, news = cur2.toList.take (m * 5) := ⟨_, rfl⟩
  have hol : olds.length = (n - i) * 5 := by rw [holds, List.length_take, List.length_drop, Array.length_toList]; omega
  have hnl : news.length = m * 5 := by rw [hnews, List.length_take, Array.length_toList]; omega
  have ho1 : ∀ u ∈ olds, u.oneCell' = true := by
    intro u hu; rw [holds, List.take_drop] at hu; have := List.mem_of_mem_drop hu
    rw [show i * 5 + (n - i) * 5 = n * 5 by omega] at this
    exact h1 u this
  have hcp1 : ∀ ty dc sc, (Builtin.copy_ #[30, 30] ty #[.slice (some ⟨g, (i + m) * 5, none⟩) (n + m - (i + m)) dc, .slice (some ⟨g, i * 5, none⟩) (n + m - i) sc]).run Tryz.prog w.drew = .ok (goInt ((n - i : Nat) : Int)) (w.drew.setRow g (spl cur ((i + m) * 5) olds)) := fun ty dc sc => by
    refine zq hU hti (w := w.drew) (te := te) (o := (i + m) * 5) (cur := cur) (news := olds) hg (by simp only [Nat.min_def]; split <;> omega) ?_ ho1 (by omega)
    rw [hz2, holds]
    exact zw (w := w.drew) (te := te) (fr := (0, 0)) hg (by omega)
  obtain ⟨W1, hW1⟩ : ∃ W1, W1 = w.drew.setRow g (spl cur ((i + m) * 5) olds) := ⟨_, rfl⟩
  have hg1 : W1.heap[g]? = some (.cells (spl cur ((i + m) * 5) olds) te (0, 0)) := by rw [hW1]; exact setRow_heap _ g cur _ te (0, 0) hg
  have hgh1 : W1.heap[h]? = some (.cells cur2 te2 (0, 0)) := by rw [hW1, setRow_other' _ _ _ _ hgh]; exact hg2
  have hsz1 : (spl cur ((i + m) * 5) olds).size = cap * 5 := by rw [zn _ _ _ (by omega), hs]
  have hcp2 : ∀ ty dc, (Builtin.copy_ #[30, 30] ty #[.slice (some ⟨g, i * 5, none⟩) (n + m - i) dc, .slice (some ⟨h, 0, none⟩) m c2]).run Tryz.prog W1 = .ok (goInt m) (W1.setRow g (spl (spl cur ((i + m) * 5) olds) (i * 5) news)) := fun ty dc => by
    refine zq hU hti (w := W1) (te := te) (o := i * 5) (cur := spl cur ((i + m) * 5) olds) (news := news) hg1 (by simp only [Nat.min_def]; split <;> omega) ?_ (by rw [hnews]; exact h2) (by omega)
    rw [hz2, hnews]
    exact zw (w := W1) (te := te2) (fr := (0, 0)) hgh1 (by omega)
  have Hend : RowTo w (.slice (some ⟨g, 0, none⟩) n cap) 5 (n + m) (cur.toList.take (i * 5) ++ news ++ olds) (.returned (.slice (some ⟨g, 0, none⟩) (n + m) cap)) (W1.setRow g (spl (spl cur ((i + m) * 5) olds) (i * 5) news)) := by
    have hl2 : (cur.toList.take (i * 5) ++ news ++ olds).length = (n + m) * 5 := by rw [List.length_append, List.length_append, List.length_take, Array.length_toList]; omega
    rw [hW1, z10]
    refine z1o (w := w.drew) (n' := n + m) (cap := cap) (sz := 5) (te := te) (cur := cur) rfl hg ?_ (by omega) hc ?_ w ⟨rfl, rfl, rfl, rfl⟩ n
    · rw [zn _ _ _ (by omega), hsz1]
    · rw [zl, zl]
      have e1 : (cur.toList.take ((i + m) * 5) ++ olds ++ cur.toList.drop ((i + m) * 5 + olds.length)).take (i * 5) = cur.toList.take (i * 5) := by
        rw [List.append_assoc, List.take_append_of_le_length (by rw [List.length_take, Array.length_toList]; omega), List.take_take, Nat.min_eq_left (by omega)]
      have e2 : (cur.toList.take ((i + m) * 5) ++ olds ++ cur.toList.drop ((i + m) * 5 + olds.length)).drop (i * 5 + news.length) = olds ++ cur.toList.drop ((i + m) * 5 + olds.length) := by
        rw [List.append_assoc, show i * 5 + news.length = (cur.toList.take ((i + m) * 5)).length by rw [List.length_take]; have := Array.length_toList (xs := cur); omega]
        exact List.drop_left
      rw [e1, e2, ← List.append_assoc, List.take_append_of_le_length (by omega), List.take_of_length_le (by omega)]
  have H := Lib.hid Hend; have Hcp1 := Lib.hid hcp1; have Hcp2 := Lib.hid hcp2; have HW1 := Lib.hid hW1
  have mixed : Tryz.prog.follows .mixedOrders = true := by kernel_rfl
  rw [← hnews, ← holds]
  have hq1 : ¬ ((m : Int) = 0) := by omega
  have hq2 : ¬ ((i : Int) = (n : Int)) := by omega
  have hw1 : IntKind.i64.wrap ((i : Int) + (m : Int)) = (i : Int) + (m : Int) := by rw [IntKind.wrap_i64]; omega
  have hb1 : (0 : Int) ≤ (i : Int) + (m : Int) := by omega
  have hin' : i ≤ n := by omega
  have htn : ((i : Int) + (m : Int)).toNat = i + m := by omega
  have hb2 : ¬ (cap = i + m) := by omega
  have hb3 : (i : Int) ≤ (n : Int) + (m : Int) := by omega
  have hb4 : ¬ (cap = i) := by omega
  clear Hend hcp1 hcp2 hW1 hg1 hgh1 hsz1 hnews holds hol hnl ho1 hz1 hz2 hz3 hti hg hs h1 hg2 hs2 h2
  go_enter Tryz.func84, Tryz.ntmps84
  go_wp2_with (simp only [hov])
  go_region_law_o (refine z2q rfl (.tmp 73) (.tmp 76) 30 30 rfl (.slice (some ⟨g, (i + m) * 5, none⟩) (n + m - (i + m)) (cap - (i + m))) (.slice (some ⟨g, i * 5, none⟩) (n + m - i) (cap - i)) (by simp [Act.eval, Act.put]) (by simp [Act.eval, Act.put]) (Hcp1.out _ _ _) ?_)
  all_goals
    rw [← HW1.out]
    go_wp2_with (with_reducible refine z2p _ rfl (.tmp 80) (.tmp 81) 30 30 rfl (.slice (some ⟨g, i * 5, none⟩) (n + m - i) (cap - i)) (.slice (some ⟨h, 0, none⟩) m c2) rfl rfl (Hcp2.out _ _) ?_)
    all_goals
      go_ret
      exact H.out
set_option maxHeartbeats 4000000 in
set_option maxRecDepth 1000000 in
theorem znq (g n cap i h m c2 : Nat) (te te2 : TypeId) (cur cur2 : Array Value) (w : World) (hg : w.heap[g]? = some (.cells cur te (0, 0))) (hs : cur.size = cap * 5) (hc : cap ≤ maxLen) (h1 : ∀ u ∈ cur.toList.take (n * 5), u.oneCell' = true)
    (hg2 : w.heap[h]? = some (.cells cur2 te2 (0, 0))) (hs2 : cur2.size = c2 * 5) (hmc : m ≤ c2) (h2 : ∀ u ∈ cur2.toList.take (m * 5), u.oneCell' = true) (hgh : h ≠ g) (hin : i < n) (hm : 0 < m) (hn : n ≤ cap) (hroom : cap < n + m) (hb : (n + m) * 40 ≤ 211106232532992) :
    Calls Tryz.prog 84 #[.slice (some ⟨g, 0, none⟩) n cap, .int .i64 i, .slice (some ⟨h, 0, none⟩) m c2] w (RowTo w (.slice (some ⟨g, 0, none⟩) n cap) 5 (n + m) (cur.toList.take (i * 5) ++ cur2.toList.take (m * 5) ++ (cur.toList.drop (i * 5)).take ((n - i) * 5))) := by
  have hU : Tryz.prog.underlying 30 = some (.slice 26) := Tryz.underlying30
  obtain ⟨ti, hti, hz1, hz2, hz3⟩ := info_parts (by kernel_rfl : (Tryz.prog.info? 26).map (fun i => (i.zero, i.size, i.bytes)) = some (some (.agg #[.int .i64 0, .int .i64 0, .int .i64 0, .int .i64 0, .int .i64 0]), 5, 40))
  unfold maxLen at hc; have hcurl := Array.length_toList (xs := cur); obtain ⟨olds, holds⟩ : ∃ olds, olds = (cur.toList.drop (i * 5)).take ((n - i) * 5) := ⟨_, rfl⟩; obtain ⟨news, hnews⟩ : ∃ news, news = cur2.toList.take (m * 5) := ⟨_, rfl⟩
  have hol : olds.length = (n - i) * 5 := by rw [holds, List.length_take, List.length_drop]; omega
  have hnl : news.length = m * 5 := by rw [hnews, List.length_take]; have := Array.length_toList (xs := cur2); omega
  have ho1 : ∀ u ∈ olds, u.oneCell' = true := by
    intro u hu; rw [holds, List.take_drop] at hu; have := List.mem_of_mem_drop hu
    rw [show i * 5 + (n - i) * 5 = n * 5 by omega] at this
    exact h1 u this
  have hkk : (n : Int) + (m : Int) - (i : Int) = ((n + m - i : Nat) : Int) := by omega
  have hik : i + (n + m - i) = n + m := by omega
  have hold : (Builtin.firstCells ti.size i (.slice (some ⟨g, 0, none⟩) i cap)).run Tryz.prog w.drew = .ok (cur.toList.take (i * 5)).toArray w.drew := by
    rw [hz2]
    have := zw (P := Tryz.prog) (w := w.drew) (sz := 5) (n := i) (cap := cap) (off := 0) (cnt := i) (te := te) (fr := (0, 0)) hg (by omega)
    rwa [List.drop_zero] at this
  obtain ⟨NC, hNC⟩ : ∃ NC, NC = grownCap w (n + m) cap 26 := ⟨_, rfl⟩
  have hge : n + m ≤ NC := by rw [hNC]; exact grownCap_ge w (n + m) cap _
  have hle : NC ≤ maxLen := by rw [hNC]; exact grownCap_le_maxLen w _ cap _ (by simp only [maxLen]; omega)
  obtain ⟨ROW, hROW⟩ : ∃ ROW : Array Value, ROW = (cur.toList.take (i * 5)).toArray ++ Builtin.zeroCells (Value.agg #[.int .i64 0, .int .i64 0, .int .i64 0, .int .i64 0, .int .i64 0]).cells (n + m - i) ++ Builtin.zeroCells (Value.agg #[.int .i64 0, .int .i64 0, .int .i64 0, .int .i64 0, .int .i64 0]).cells (NC - (n + m)) := ⟨_, rfl⟩
  have hrz : ∀ ty, (Builtin.append_ #[30, 3] ty #[.slice (some ⟨g, 0, none⟩) i cap, .int .i64 ((n : Int) + (m : Int) - (i : Int))]).run Tryz.prog w = .ok (.slice (some ⟨w.heap.size, 0, none⟩) (n + m) NC) (w.drew.alloc (.cells ROW 26)) := fun ty => by
    have h := Lib.run_append_grow_zeros w 30 3 ty 26 ti _ .i64 .i64 hU Tryz.underlying3 hti hz1 (some ⟨g, 0, none⟩) i cap (cur.toList.take (i * 5)) hold (n + m - i) (by omega) (by omega) (by omega) (by omega) (by rw [hz3]; omega) (by rw [hik]; exact z4k (by omega) (by omega) (by rw [hz3]; exact hb))
    rw [hik, ← hNC, ← hROW] at h; rw [hkk]; exact h
  have hRl : ROW.size = NC * 5 := by
    rw [hROW]; simp only [Array.size_append, List.size_toArray, List.length_take, z22]; have e5 : (Value.agg #[.int .i64 0, .int .i64 0, .int .i64 0, .int .i64 0, .int .i64 0]).cells.size = 5 := rfl; rw [e5]; omega
  have hRt : ROW.toList.take (i * 5) = cur.toList.take (i * 5) := by
    rw [hROW]; simp only [Array.toList_append, List.append_assoc]
    rw [List.take_append_of_le_length (by rw [List.length_take]; omega), List.take_take, Nat.min_self]
  have hRtl := Array.length_toList (xs := ROW); have hgw : g < w.heap.size := (Array.getElem?_eq_some_iff.1 hg).1; have hhw : h < w.heap.size := (Array.getElem?_eq_some_iff.1 hg2).1; obtain ⟨G, hG⟩ : ∃ G, G = w.heap.size := ⟨_, rfl⟩; obtain ⟨W1, hW1⟩ : ∃ W1, W1 = w.drew.alloc (.cells ROW 26) := ⟨_, rfl⟩
  have hN1 : W1.heap[G]? = some (.cells ROW 26 (0, 0)) := by rw [hW1, hG]; exact heap_alloc_new w.drew _
  have hH1 : W1.heap[h]? = some (.cells cur2 te2 (0, 0)) := by rw [hW1, heap_alloc_old w.drew _ (by exact hhw)]; exact hg2
  have hO1 : W1.heap[g]? = some (.cells cur te (0, 0)) := by rw [hW1, heap_alloc_old w.drew _ (by exact hgw)]; exact hg
  have hcp1 : ∀ ty dc, (Builtin.copy_ #[30, 30] ty #[.slice (some ⟨G, i * 5, none⟩) (n + m - i) dc, .slice (some ⟨h, 0, none⟩) m c2]).run Tryz.prog W1 = .ok (goInt ((m : Nat) : Int)) (W1.setRow G (spl ROW (i * 5) news)) := fun ty dc => by
    refine zq hU hti (w := W1) (te := 26) (o := i * 5) (cur := ROW) (news := news) hN1 (by simp only [Nat.min_def]; split <;> omega) ?_ (by rw [hnews]; exact h2) (by omega)
    rw [hz2, hnews]
    exact zw (w := W1) (te := te2) (fr := (0, 0)) hH1 (by omega)
  obtain ⟨W2, hW2⟩ : ∃ W2, W2 = W1.setRow G (spl ROW (i * 5) news) := ⟨_, rfl⟩
  have hN2 : W2.heap[G]? = some (.cells (spl ROW (i * 5) news) 26 (0, 0)) := by rw [hW2]; exact setRow_heap _ G ROW _ _ (0, 0) hN1
  have hO2 : W2.heap[g]? = some (.cells cur te (0, 0)) := by rw [hW2, setRow_other' _ _ _ _ (by omega)]; exact hO1
  have hs2' : (spl ROW (i * 5) news).size = NC * 5 := by rw [zn _ _ _ (by omega), hRl]
  have hcp2 : ∀ ty dc sc, (Builtin.copy_ #[30, 30] ty #[.slice (some ⟨G, (i + m) * 5, none⟩) (n + m - (i + m)) dc, .slice (some ⟨g, i * 5, none⟩) (n - i) sc]).run Tryz.prog W2.drew = .ok (goInt ((n - i : Nat) : Int)) (W2.drew.setRow G (spl (spl ROW (i * 5) news) ((i + m) * 5) olds)) := fun ty dc sc => by
    refine zq hU hti (w := W2.drew) (te := 26) (o := (i + m) * 5) (cur := spl ROW (i * 5) news) (news := olds) hN2 (by simp only [Nat.min_def]; split <;> omega) ?_ ho1 (by omega)
    rw [hz2, holds]
    exact zw (w := W2.drew) (te := te) (fr := (0, 0)) hO2 (by omega)
  have Hend : RowTo w (.slice (some ⟨g, 0, none⟩) n cap) 5 (n + m) (cur.toList.take (i * 5) ++ news ++ olds) (.returned (.slice (some ⟨G, 0, none⟩) (n + m) NC)) (W2.drew.setRow G (spl (spl ROW (i * 5) news) ((i + m) * 5) olds)) := by
    have eW : W2.drew.setRow G (spl (spl ROW (i * 5) news) ((i + m) * 5) olds) = (w.drew.drew).alloc (.cells (spl (spl ROW (i * 5) news) ((i + m) * 5) olds) 26) := by
      rw [hW2, hW1, hG]; have e1 : (((w.drew.alloc (.cells ROW 26)).setRow w.heap.size (spl ROW (i * 5) news)).drew).setRow w.heap.size (spl (spl ROW (i * 5) news) ((i + m) * 5) olds) = ((w.drew.drew.alloc (.cells ROW 26)).setRow w.heap.size (spl ROW (i * 5) news)).setRow w.heap.size (spl (spl ROW (i * 5) news) ((i + m) * 5) olds) := rfl; rw [e1, z10]; exact World.setRow_alloc_new w.drew.drew _ _ _
    rw [eW, hG]
    have hl2 : (cur.toList.take (i * 5) ++ news ++ olds).length = (n + m) * 5 := by rw [List.length_append, List.length_append, List.length_take]; omega
    refine z39 (w := w.drew.drew) (w0 := w) (cap := NC) rfl ⟨rfl, rfl, rfl, rfl⟩ ?_ hge hle ?_ _
    · rw [zn _ _ _ (by omega), hs2']
    · rw [zl, zl]
      have e1 : (ROW.toList.take (i * 5) ++ news ++ ROW.toList.drop (i * 5 + news.length)).take ((i + m) * 5) = cur.toList.take (i * 5) ++ news := by
        rw [hRt, List.take_append_of_le_length (by rw [List.length_append, List.length_take]; omega), List.take_of_length_le (by rw [List.length_append, List.length_take]; omega)]
      rw [e1, List.take_append_of_le_length (by omega), List.take_of_length_le (by omega)]
  have H := Lib.hid Hend; have Hrz := Lib.hid hrz; have Hcp1 := Lib.hid hcp1; have Hcp2 := Lib.hid hcp2; have HW1 := Lib.hid hW1; have HW2 := Lib.hid hW2; have HG := Lib.hid hG
  have mixed : Tryz.prog.follows .mixedOrders = true := by kernel_rfl
  rw [← hnews, ← holds]
  have hq1 : ¬ ((m : Int) = 0) := by omega
  have hq2 : ¬ ((i : Int) = (n : Int)) := by omega
  have hq3 : (cap : Int) < (n : Int) + (m : Int) := by omega
  have hw1 : IntKind.i64.wrap ((n : Int) + (m : Int)) = (n : Int) + (m : Int) := by rw [IntKind.wrap_i64]; omega
  have hw2 : IntKind.i64.wrap ((n : Int) + (m : Int) - (i : Int)) = (n : Int) + (m : Int) - (i : Int) := by rw [IntKind.wrap_i64]; omega
  have hw3 : IntKind.i64.wrap ((i : Int) + (m : Int)) = (i : Int) + (m : Int) := by rw [IntKind.wrap_i64]; omega
  have hb1 : (0 : Int) ≤ (i : Int) + (m : Int) := by omega
  have hin' : i ≤ n := by omega
  have hic : i ≤ cap := by omega
  have htn : ((i : Int) + (m : Int)).toNat = i + m := by omega
  have hb2 : ¬ (NC = i + m) := by omega
  have hb3 : (i : Int) ≤ (n : Int) := by omega
  have hb4 : ¬ (cap = i) := by omega
  have hb5 : ¬ (NC = i) := by omega
  have hb6 : i ≤ n + m := by omega
  have hb7 : i + m ≤ n + m := by omega
  have hb8 : (i : Int) + (m : Int) ≤ (n : Int) + (m : Int) := by omega
  unfold maxLen at hle; clear Hend hrz hcp1 hcp2 hW1 hW2 hG hN1 hH1 hO1 hN2 hO2 hs2' hRl hRt hRtl hROW hNC hnews holds hol hnl ho1 hz1 hz2 hz3 hti hg hs h1 hg2 hs2 h2 hcurl hold hkk hik hgw hhw
  go_enter Tryz.func84, Tryz.ntmps84
  go_wp2_with (first | (at_builtin; refine z1b _ rfl _ _ 30 3 rfl _ _ rfl rfl (Hrz.out _) ?_; rw [← HW1.out, ← HG.out]) | (with_reducible refine z2p _ rfl (.tmp 43) (.tmp 44) 30 30 rfl (.slice (some ⟨G, i * 5, none⟩) (n + m - i) (NC - i)) (.slice (some ⟨h, 0, none⟩) m c2) rfl rfl (Hcp1.out _ _) ?_; rw [← HW2.out]))
  go_region_law_o (refine z2q rfl (.tmp 50) (.tmp 53) 30 30 rfl (.slice (some ⟨G, (i + m) * 5, none⟩) (n + m - (i + m)) (NC - (i + m))) (.slice (some ⟨g, i * 5, none⟩) (n - i) (cap - i)) (by simp [Act.eval, Act.put]) (by simp [Act.eval, Act.put]) (Hcp2.out _ _ _) ?_)
  all_goals
    go_wp2
    all_goals
      go_ret
      first | exact H.out | exact (List.append_assoc _ _ _ ▸ H.out)
theorem zgh (v u : Value) (n m i : Nat) (xs ys : List Value) (te te2 : TypeId) (w : World) (hv : w.ownsRow 0 te 5 v n xs) (hu : w.ownsRow 0 te2 5 u m ys) (hvu : ∀ g, v.ownBlock = some g → u.ownBlock ≠ some g) (h1 : ∀ x ∈ xs, x.oneCell' = true) (h2 : ∀ y ∈ ys, y.oneCell' = true) (hi : i ≤ n) (hb : (n + m) * 40 ≤ 211106232532992) :
    Calls Tryz.prog 84 #[v, .int .i64 i, u] w (RowTo w v 5 (n + m) (xs.take (i * 5) ++ ys ++ xs.drop (i * 5))) := by
  have hv0 := hv; have hu0 := hu; obtain ⟨hxl, hv⟩ := hv; obtain ⟨hyl, hu⟩ := hu
  rcases hu with ⟨rfl, rfl⟩ | ⟨h, c2, cur2, rfl, _, hg2, hmc, hmc2, hs2, ht2⟩
  · have hy0 : ys = [] := List.eq_nil_of_length_eq_zero (by simp [hyl])
    subst hy0; rw [List.append_nil, List.take_append_drop, Nat.add_zero]
    rcases hv with ⟨rfl, rfl⟩ | ⟨g, cap, cur, rfl, _, hg, hnc, hcm, hcs, ht⟩
    · exact z5v none 0 0 i none 0 w hi (Nat.le_refl _) (Nat.zero_le _) xs (z12 hv0)
    · exact z5v _ n cap i none 0 w hi hnc hcm xs (z12 hv0)
  · by_cases hm : m = 0
    · subst hm
      have hy0 : ys = [] := List.eq_nil_of_length_eq_zero (by simp [hyl])
      subst hy0; rw [List.append_nil, List.take_append_drop, Nat.add_zero]
      rcases hv with ⟨rfl, rfl⟩ | ⟨g, cap, cur, rfl, _, hg, hnc, hcm, hcs, ht⟩
      · exact z5v none 0 0 i _ c2 w hi (Nat.le_refl _) (Nat.zero_le _) xs (z12 hv0)
      · exact z5v _ n cap i _ c2 w hi hnc hcm xs (z12 hv0)
    · by_cases hin : i = n
      · subst hin
        rw [List.take_of_length_le (by omega), List.drop_of_length_le (by omega), List.append_nil]
        refine zno v i xs te _ m c2 ys w hv0 (by omega) ⟨fun W hW => by simp [Builtin.lenOf], fun W hW => ?_, hyl, h2⟩ hb
        have hgW : W.heap[h]? = some (.cells cur2 te2 (0, 0)) := by rw [hW]; exact hg2
        have := zw (P := Tryz.prog) (w := W) (sz := 5) (n := m) (cap := c2) (off := 0) (cnt := m) (te := te2) (fr := (0, 0)) hgW (by omega)
        rw [List.drop_zero, ht2] at this; exact this
      · rcases hv with ⟨rfl, rfl⟩ | ⟨g, cap, cur, rfl, _, hg, hnc, hcm, hcs, ht⟩
        · omega
        · have hgh : h ≠ g := fun e => hvu g rfl (by rw [e]; rfl)
          have e1 : xs.take (i * 5) = cur.toList.take (i * 5) := by rw [← ht, List.take_take, Nat.min_eq_left (by omega)]
          have e2 : xs.drop (i * 5) = (cur.toList.drop (i * 5)).take ((n - i) * 5) := by rw [← ht, List.drop_take]; congr 1; omega
          rw [e1, e2, ← ht2]
          by_cases hroom : n + m ≤ cap
          · exact znp g n cap i h m c2 te te2 cur cur2 w hg hcs hcm (by rw [ht]; exact h1) hg2 hs2 hmc (by rw [ht2]; exact h2) hgh (by omega) (by omega) hroom
          · exact znq g n cap i h m c2 te te2 cur cur2 w hg hcs hcm (by rw [ht]; exact h1) hg2 hs2 hmc (by rw [ht2]; exact h2) hgh (by omega) (by omega) hnc (by omega) hb
end V
namespace V
open Go Go.RowKit Go.Lib
set_option maxHeartbeats 4000000 in
set_option maxRecDepth 1000000 in
theorem znr (v u : Value) (n m i : Nat) (xs ys : List Value) (te te2 : TypeId) (w : World) (hv : w.ownsRow 0 te 5 v n xs) (hu : w.ownsRow 0 te2 5 u m ys) (hvu : ∀ g, v.ownBlock = some g → u.ownBlock ≠ some g) (h1 : ∀ x ∈ xs, x.oneCell' = true) (h2 : ∀ y ∈ ys, y.oneCell' = true) (hi : i ≤ n) (hb : (n + m) * 40 ≤ 211106232532992) :
    Calls Tryz.prog 87 #[v, .int .i64 i, .int .i64 i, u] w (RowTo w v 5 (n + m) (xs.take (i * 5) ++ ys ++ xs.drop (i * 5))) := by
  have hins := zgh v u n m i xs ys te te2 w hv hu hvu h1 h2 hi hb; have Hins := Lib.hid hins; generalize xs.take (i * 5) ++ ys ++ xs.drop (i * 5) = zs at *
  rcases hv.2 with ⟨rfl, rfl⟩ | ⟨g, cap, cur, rfl, _, hg, hnc, hcm, hcs, ht⟩
  · clear hv hu hvu h1 h2 hins hb
    obtain rfl : i = 0 := by omega
    go_enter Tryz.func87, Tryz.ntmps87
    go_wp2_with (go_at_call 84; refine Hins.out.mono ?_; rintro e w' ⟨v', te', rfl, k1, k2, k3⟩)
    go_ret
    exact ⟨v', te', rfl, k1, k2, k3⟩
  · clear hv hu hvu h1 h2 hins hb hg hcs ht
    unfold maxLen at hcm
    have hic : i ≤ cap := by omega
    rcases (show i < cap ∨ cap = i by omega) with hlt | rfl
    · have hne : ¬ cap = i := by omega
      go_enter Tryz.func87, Tryz.ntmps87
      go_wp2_with (go_at_call 84; refine Hins.out.mono ?_; rintro e w' ⟨v', te', rfl, k1, k2, k3⟩)
      all_goals (go_ret; exact ⟨v', te', rfl, k1, k2, k3⟩)
    · go_enter Tryz.func87, Tryz.ntmps87
      go_wp2_with (go_at_call 84; refine Hins.out.mono ?_; rintro e w' ⟨v', te', rfl, k1, k2, k3⟩)
      all_goals (go_ret; exact ⟨v', te', rfl, k1, k2, k3⟩)
set_option maxHeartbeats 4000000 in
set_option maxRecDepth 1000000 in
theorem zns (g n cap i j m c2 : Nat) (b2 : Option Addr) (te : TypeId) (cur : Array Value) (ys : List Value) (w : World) (hg : w.heap[g]? = some (.cells cur te (0, 0))) (hs : cur.size = cap * 5) (hc : cap ≤ maxLen) (hn : n ≤ cap) (h1 : ∀ u ∈ cur.toList.take (n * 5), u.oneCell' = true)
    (hyl : ys.length = m * 5) (h2 : ∀ y ∈ ys, y.oneCell' = true) (hy : ∀ W : World, (∀ k, k ≠ g → k < w.heap.size → W.heap[k]? = w.heap[k]?) → (Builtin.firstCells 5 m (.slice b2 m c2)).run Tryz.prog W = .ok ys.toArray W) (hi : i < j) (hj : j = n) (hm : i + m < n) :
    Calls Tryz.prog 87 #[.slice (some ⟨g, 0, none⟩) n cap, .int .i64 i, .int .i64 j, .slice b2 m c2] w (RowTo w (.slice (some ⟨g, 0, none⟩) n cap) 5 (i + m + (n - j)) (cur.toList.take (i * 5) ++ ys ++ (cur.toList.drop (j * 5)).take ((n - j) * 5))) := by
  have hU : Tryz.prog.underlying 30 = some (.slice 26) := Tryz.underlying30
  obtain ⟨ti, hti, hz1, hz2, hz3⟩ := info_parts (by kernel_rfl : (Tryz.prog.info? 26).map (fun i => (i.zero, i.size, i.bytes)) = some (some (.agg #[.int .i64 0, .int .i64 0, .int .i64 0, .int .i64 0, .int .i64 0]), 5, 40))
  unfold maxLen at hc; have hcurl := Array.length_toList (xs := cur); subst hj
  have hap : (Builtin.append_ #[30, 30] 30 #[.slice (some ⟨g, 0, none⟩) i cap, .slice b2 m c2]).run Tryz.prog w = .ok (.slice (some ⟨g, 0, none⟩) (i + m) cap) (w.setRow g (spl cur (i * 5) ys)) := by
    have := z28 (P := Tryz.prog) (w := w) (t := 30) (u := 30) (ty := 30) (e := 26) (e' := te) (i := ti) hU hU (.inl ⟨_, rfl⟩) hti (g := g) (sLen := i) (sCap := cap) (n := m) (cur := cur) hg (y := .slice b2 m c2) (news := ys)
      ⟨fun W hW => by simp [Builtin.lenOf], fun W hW => by rw [hz2]; exact hy W (fun k _ _ => by rw [hW]), by rw [hyl, hz2], h2⟩ (by omega) (by rw [hz2]; omega)
    rw [hz2] at this; exact this
  obtain ⟨W1, hW1⟩ : ∃ W1, W1 = w.setRow g (spl cur (i * 5) ys) := ⟨_, rfl⟩
  have hg1 : W1.heap[g]? = some (.cells (spl cur (i * 5) ys) te (0, 0)) := by rw [hW1]; exact setRow_heap _ g cur _ te (0, 0) hg
  have hsz1 : (spl cur (i * 5) ys).size = cap * 5 := by rw [zn _ _ _ (by omega), hs]
  have hcl : ∀ ty c, (Builtin.clear_ #[30] ty #[.slice (some ⟨g, (i + m) * 5, none⟩) (j - (i + m)) c]).run Tryz.prog W1 = .ok (.tuple #[]) (W1.setRow g (spl (spl cur (i * 5) ys) ((i + m) * 5) (Builtin.zeroCells #[Value.int .i64 0, .int .i64 0, .int .i64 0, .int .i64 0, .int .i64 0] (j - (i + m))).toList)) := fun ty c =>
    z1n hU hti hz1 (by rw [hz2]; rfl) (by intro u hu; simp [Value.cells] at hu; rcases hu with rfl | rfl | rfl | rfl | rfl <;> rfl) hg1 (by rw [hz2, hsz1]; omega) (by omega)
  have hzl : (Builtin.zeroCells #[Value.int .i64 0, .int .i64 0, .int .i64 0, .int .i64 0, .int .i64 0] (j - (i + m))).toList.length = (j - (i + m)) * 5 := by rw [Array.length_toList, size_zeroCells]; rfl
  have Hend : RowTo w (.slice (some ⟨g, 0, none⟩) j cap) 5 (i + m + (j - j)) (cur.toList.take (i * 5) ++ ys ++ (cur.toList.drop (j * 5)).take ((j - j) * 5)) (.returned (.slice (some ⟨g, 0, none⟩) (i + m) cap)) (W1.setRow g (spl (spl cur (i * 5) ys) ((i + m) * 5) (Builtin.zeroCells #[Value.int .i64 0, .int .i64 0, .int .i64 0, .int .i64 0, .int .i64 0] (j - (i + m))).toList)) := by
    rw [hW1, z10, Nat.sub_self, Nat.zero_mul, List.take_zero, List.append_nil, Nat.add_zero]
    refine z1o (w := w) (n' := i + m) (cap := cap) (sz := 5) (te := te) (cur := cur) rfl hg ?_ (by omega) hc ?_ w ⟨rfl, rfl, rfl, rfl⟩ j
    · rw [zn _ _ _ (by omega), hsz1]
    · rw [zl, zl]
      have hl1 : (cur.toList.take (i * 5) ++ ys).length = (i + m) * 5 := by rw [List.length_append, List.length_take]; omega
      rw [List.append_assoc, List.take_append_of_le_length (by rw [List.length_take, List.length_append]; omega), List.take_take, Nat.min_self, List.take_append_of_le_length (by omega), List.take_of_length_le (by omega)]
  have HE := Lib.hid Hend; have Hap := Lib.hid hap; have Hcl := Lib.hid hcl; have HW1 := Lib.hid hW1; generalize cur.toList.take (i * 5) ++ ys ++ (cur.toList.drop (j * 5)).take ((j - j) * 5) = zs at *
  have hic : i ≤ cap := by omega
  have hij : i ≤ j := by omega
  have hne : ¬ ((i : Int) = (j : Int)) := by omega
  have hlt : (i : Int) + (m : Int) < (j : Int) := by omega
  have hne2 : ¬ (cap = i + m) := by omega
  have hle : i + m ≤ cap := by omega
  have hne3 : ¬ (cap = i) := by omega
  clear Hend hap hcl hW1 hg1 hsz1 hzl hz1 hz2 hz3 hti hg hs h1 hyl h2 hy hcurl
  go_enter Tryz.func87, Tryz.ntmps87
  go_wp2_with (first | (at_builtin; refine z1b _ rfl _ _ 30 30 rfl _ _ rfl rfl Hap.out ?_; rw [← HW1.out]) | (with_reducible refine z2k _ rfl (.tmp 43) 30 rfl (.slice (some ⟨g, (i + m) * 5, none⟩) (j - (i + m)) (cap - (i + m))) rfl (Hcl.out _ _) ?_))
  all_goals
    go_ret
    exact HE.out
set_option maxHeartbeats 4000000 in
set_option maxRecDepth 1000000 in
theorem znt (g n cap i j m c2 : Nat) (b2 : Option Addr) (te : TypeId) (cur : Array Value) (ys : List Value) (w : World) (hg : w.heap[g]? = some (.cells cur te (0, 0))) (hs : cur.size = cap * 5) (hc : cap ≤ maxLen) (hn : n ≤ cap) (h1 : ∀ u ∈ cur.toList.take (n * 5), u.oneCell' = true)
    (hyl : ys.length = m * 5) (h2 : ∀ y ∈ ys, y.oneCell' = true) (hy : ∀ W : World, (∀ k, k ≠ g → k < w.heap.size → W.heap[k]? = w.heap[k]?) → (Builtin.firstCells 5 m (.slice b2 m c2)).run Tryz.prog W = .ok ys.toArray W) (hi : i < j) (hj : j = n) (hm : n ≤ i + m) (hb : (i + m) * 40 ≤ 211106232532992) :
    Calls Tryz.prog 87 #[.slice (some ⟨g, 0, none⟩) n cap, .int .i64 i, .int .i64 j, .slice b2 m c2] w (RowTo w (.slice (some ⟨g, 0, none⟩) n cap) 5 (i + m + (n - j)) (cur.toList.take (i * 5) ++ ys ++ (cur.toList.drop (j * 5)).take ((n - j) * 5))) := by
  have hU : Tryz.prog.underlying 30 = some (.slice 26) := Tryz.underlying30
  obtain ⟨ti, hti, hz1, hz2, hz3⟩ := info_parts (by kernel_rfl : (Tryz.prog.info? 26).map (fun i => (i.zero, i.size, i.bytes)) = some (some (.agg #[.int .i64 0, .int .i64 0, .int .i64 0, .int .i64 0, .int .i64 0]), 5, 40))
  unfold maxLen at hc; have hcurl := Array.length_toList (xs := cur); subst hj
  have hown : w.ownsRow 0 te 5 (.slice (some ⟨g, 0, none⟩) i cap) i (cur.toList.take (i * 5)) := ⟨by rw [List.length_take]; omega, .inr ⟨g, cap, cur, rfl, Nat.zero_le _, hg, by omega, hc, hs, rfl⟩⟩
  obtain ⟨v', w', hap, hR⟩ := z70 (P := Tryz.prog) (w := w) (ty := 30) (y := .slice b2 m c2) (k := m) (news := ys) hU hU hti hz1 (by rw [hz2]; rfl) (by omega) (by omega) (by omega) (by rw [hz2]; exact hown) ⟨fun W hW => by simp [Builtin.lenOf], fun W hW => by rw [hz2]; exact hy W (fun k _ _ => by rw [hW]), by rw [hyl, hz2], h2⟩ (by rw [hz3]; exact hb)
  rw [hz2] at hR
  obtain ⟨g', cap', rfl⟩ : ∃ g' cap', v' = .slice (some ⟨g', 0, none⟩) (i + m) cap' := by
    obtain ⟨v2, te2, e1, e2, _⟩ := hR; injection e1 with e1; subst e1
    rcases e2.2 with ⟨_, h0⟩ | ⟨g', cap', _, e3, _⟩
    · omega
    · exact ⟨g', cap', e3⟩
  have hE : RowTo w (.slice (some ⟨g, 0, none⟩) j cap) 5 (i + m + (j - j)) (cur.toList.take (i * 5) ++ ys ++ (cur.toList.drop (j * 5)).take ((j - j) * 5)) (.returned (.slice (some ⟨g', 0, none⟩) (i + m) cap')) w' := by
    rw [Nat.sub_self, Nat.zero_mul, List.take_zero, List.append_nil, Nat.add_zero]; exact hR
  have HE := Lib.hid hE; have Hap := Lib.hid hap; generalize cur.toList.take (i * 5) ++ ys ++ (cur.toList.drop (j * 5)).take ((j - j) * 5) = zs at *
  have hic : i ≤ cap := by omega
  have hij : i ≤ j := by omega
  have hne : ¬ ((i : Int) = (j : Int)) := by omega
  have hlt : ¬ ((i : Int) + (m : Int) < (j : Int)) := by omega
  have hne3 : ¬ (cap = i) := by omega
  clear hE hap hR hz1 hz2 hz3 hti hg hs h1 hyl h2 hy hcurl hown
  go_enter Tryz.func87, Tryz.ntmps87
  go_wp2_with (at_builtin; refine z1b _ rfl _ _ 30 30 rfl _ _ rfl rfl Hap.out ?_)
  all_goals
    go_ret
    first | exact HE.out | (have h9 := HE.out; rwa [Nat.sub_self, Nat.add_zero] at h9)
set_option maxHeartbeats 4000000 in
set_option maxRecDepth 1000000 in
theorem znu (g n cap i j m c2 : Nat) (b2 : Option Addr) (te : TypeId) (cur : Array Value) (ys : List Value) (w : World) (hg : w.heap[g]? = some (.cells cur te (0, 0))) (hs : cur.size = cap * 5) (hc : cap ≤ maxLen) (hn : n ≤ cap) (h1 : ∀ u ∈ cur.toList.take (n * 5), u.oneCell' = true)
    (hyl : ys.length = m * 5) (h2 : ∀ y ∈ ys, y.oneCell' = true) (hy : ∀ W : World, (∀ k, k ≠ g → k < w.heap.size → W.heap[k]? = w.heap[k]?) → (Builtin.firstCells 5 m (.slice b2 m c2)).run Tryz.prog W = .ok ys.toArray W) (hi : i < j) (hj : j < n) (hm : i + m < j) :
    Calls Tryz.prog 87 #[.slice (some ⟨g, 0, none⟩) n cap, .int .i64 i, .int .i64 j, .slice b2 m c2] w (RowTo w (.slice (some ⟨g, 0, none⟩) n cap) 5 (i + m + (n - j)) (cur.toList.take (i * 5) ++ ys ++ (cur.toList.drop (j * 5)).take ((n - j) * 5))) := by
  have hU : Tryz.prog.underlying 30 = some (.slice 26) := Tryz.underlying30
  obtain ⟨ti, hti, hz1, hz2, hz3⟩ := info_parts (by kernel_rfl : (Tryz.prog.info? 26).map (fun i => (i.zero, i.size, i.bytes)) = some (some (.agg #[.int .i64 0, .int .i64 0, .int .i64 0, .int .i64 0, .int .i64 0]), 5, 40))
  unfold maxLen at hc; have hcurl := Array.length_toList (xs := cur); obtain ⟨olds, holds⟩ : ∃ olds, olds = (cur.toList.drop (j * 5)).take ((n - j) * 5) := ⟨_, rfl⟩
  have hol : olds.length = (n - j) * 5 := by rw [holds, List.length_take, List.length_drop]; omega
  have ho1 : ∀ u ∈ olds, u.oneCell' = true := by
    intro u hu; rw [holds, List.take_drop] at hu; have := List.mem_of_mem_drop hu
    rw [show j * 5 + (n - j) * 5 = n * 5 by omega] at this
    exact h1 u this
  have hcp1 : ∀ ty dc, (Builtin.copy_ #[30, 30] ty #[.slice (some ⟨g, i * 5, none⟩) (i + m + (n - j) - i) dc, .slice b2 m c2]).run Tryz.prog w.drew = .ok (goInt ((m : Nat) : Int)) (w.drew.setRow g (spl cur (i * 5) ys)) := fun ty dc => by
    refine zq hU hti (w := w.drew) (te := te) (o := i * 5) (cur := cur) (news := ys) hg (by simp only [Nat.min_def]; split <;> omega) ?_ h2 (by omega)
    rw [hz2]; exact hy w.drew (fun k _ _ => rfl)
  obtain ⟨W1, hW1⟩ : ∃ W1, W1 = w.drew.setRow g (spl cur (i * 5) ys) := ⟨_, rfl⟩
  have hg1 : W1.heap[g]? = some (.cells (spl cur (i * 5) ys) te (0, 0)) := by rw [hW1]; exact setRow_heap _ g cur _ te (0, 0) hg
  have hsz1 : (spl cur (i * 5) ys).size = cap * 5 := by rw [zn _ _ _ (by omega), hs]
  have hs1l := Array.length_toList (xs := spl cur (i * 5) ys)
  have hd1 : ((spl cur (i * 5) ys).toList.drop (j * 5)).take ((n - j) * 5) = olds := by
    have hl1 : (cur.toList.take (i * 5) ++ ys).length = (i + m) * 5 := by rw [List.length_append, List.length_take]; omega
    rw [holds, zl, List.drop_append, List.drop_of_length_le (by omega), List.nil_append, List.drop_drop, hl1]
    congr 2
    omega
  have hcp2 : ∀ ty dc sc, (Builtin.copy_ #[30, 30] ty #[.slice (some ⟨g, (i + m) * 5, none⟩) (i + m + (n - j) - (i + m)) dc, .slice (some ⟨g, j * 5, none⟩) (n - j) sc]).run Tryz.prog W1.drew = .ok (goInt ((n - j : Nat) : Int)) (W1.drew.setRow g (spl (spl cur (i * 5) ys) ((i + m) * 5) olds)) := fun ty dc sc => by
    refine zq hU hti (w := W1.drew) (te := te) (o := (i + m) * 5) (cur := spl cur (i * 5) ys) (news := olds) hg1 (by simp only [Nat.min_def]; split <;> omega) ?_ ho1 (by omega)
    rw [hz2, ← hd1]
    exact zw (w := W1.drew) (te := te) (fr := (0, 0)) hg1 (by omega)
  obtain ⟨W2, hW2⟩ : ∃ W2, W2 = W1.drew.setRow g (spl (spl cur (i * 5) ys) ((i + m) * 5) olds) := ⟨_, rfl⟩
  have hg2 : W2.heap[g]? = some (.cells (spl (spl cur (i * 5) ys) ((i + m) * 5) olds) te (0, 0)) := by rw [hW2]; exact setRow_heap _ g _ _ te (0, 0) hg1
  have hsz2 : (spl (spl cur (i * 5) ys) ((i + m) * 5) olds).size = cap * 5 := by rw [zn _ _ _ (by omega), hsz1]
  have hcl : ∀ ty c, (Builtin.clear_ #[30] ty #[.slice (some ⟨g, (i + m + (n - j)) * 5, none⟩) (n - (i + m + (n - j))) c]).run Tryz.prog W2 = .ok (.tuple #[]) (W2.setRow g (spl (spl (spl cur (i * 5) ys) ((i + m) * 5) olds) ((i + m + (n - j)) * 5) (Builtin.zeroCells #[Value.int .i64 0, .int .i64 0, .int .i64 0, .int .i64 0, .int .i64 0] (n - (i + m + (n - j)))).toList)) := fun ty c =>
    z1n hU hti hz1 (by rw [hz2]; rfl) (by intro u hu; simp [Value.cells] at hu; rcases hu with rfl | rfl | rfl | rfl | rfl <;> rfl) hg2 (by rw [hz2, hsz2]; omega) (by omega)
  have hzl : (Builtin.zeroCells #[Value.int .i64 0, .int .i64 0, .int .i64 0, .int .i64 0, .int .i64 0] (n - (i + m + (n - j)))).toList.length = (n - (i + m + (n - j))) * 5 := by rw [Array.length_toList, size_zeroCells]; rfl
  have hE : RowTo w (.slice (some ⟨g, 0, none⟩) n cap) 5 (i + m + (n - j)) (cur.toList.take (i * 5) ++ ys ++ olds) (.returned (.slice (some ⟨g, 0, none⟩) (i + m + (n - j)) cap)) (W2.setRow g (spl (spl (spl cur (i * 5) ys) ((i + m) * 5) olds) ((i + m + (n - j)) * 5) (Builtin.zeroCells #[Value.int .i64 0, .int .i64 0, .int .i64 0, .int .i64 0, .int .i64 0] (n - (i + m + (n - j)))).toList)) := by
    have e1 : ∀ z, W2.setRow g z = w.drew.drew.setRow g z := fun z => by
      rw [hW2, z10, hW1]; exact z10 w.drew.drew g _ z
    rw [e1]
    refine z1o (w := w.drew.drew) (n' := i + m + (n - j)) (cap := cap) (sz := 5) (te := te) (cur := cur) rfl hg ?_ (by omega) hc ?_ w ⟨rfl, rfl, rfl, rfl⟩ n
    · rw [zn _ _ _ (by omega), hsz2]
    · have hl1 : (cur.toList.take (i * 5) ++ ys).length = (i + m) * 5 := by rw [List.length_append, List.length_take]; omega
      have hl2 : (cur.toList.take (i * 5) ++ ys ++ olds).length = (i + m + (n - j)) * 5 := by rw [List.length_append]; omega
      have e2 : (spl cur (i * 5) ys).toList.take ((i + m) * 5) = cur.toList.take (i * 5) ++ ys := by
        rw [zl, List.take_append_of_le_length (by omega), List.take_of_length_le (by omega)]
      have e3 : (spl (spl cur (i * 5) ys) ((i + m) * 5) olds).toList.take ((i + m + (n - j)) * 5) = cur.toList.take (i * 5) ++ ys ++ olds := by
        rw [zl, e2, List.take_append_of_le_length (by omega), List.take_of_length_le (by omega)]
      rw [zl, e3, List.append_assoc, List.take_append_of_le_length (by omega), List.take_of_length_le (by omega)]
  have HE := Lib.hid hE; have Hcp1 := Lib.hid hcp1; have Hcp2 := Lib.hid hcp2; have Hcl := Lib.hid hcl; have HW1 := Lib.hid hW1; have HW2 := Lib.hid hW2; rw [← holds]; generalize cur.toList.take (i * 5) ++ ys ++ olds = zs at *
  have mixed : Tryz.prog.follows .mixedOrders = true := by kernel_rfl
  have hjn : j ≤ n := by omega
  have hic : i ≤ cap := by omega
  have hij : i ≤ j := by omega
  have hjc : j ≤ cap := by omega
  have hne : ¬ ((i : Int) = (j : Int)) := by omega
  have hne2 : ¬ ((j : Int) = (n : Int)) := by omega
  have hnc1 : ¬ (cap = i) := by omega
  have hnc2 : ¬ (cap = j) := by omega
  have hw1 : IntKind.i64.wrap ((i : Int) + (m : Int)) = (i : Int) + (m : Int) := by rw [IntKind.wrap_i64]; omega
  have hw2 : IntKind.i64.wrap ((i : Int) + (m : Int) + ((n - j : Nat) : Int)) = (i : Int) + (m : Int) + ((n - j : Nat) : Int) := by rw [IntKind.wrap_i64]; omega
  have ht1 : ((i : Int) + (m : Int)).toNat = i + m := by omega
  have ht2 : ((i : Int) + (m : Int) + ((n - j : Nat) : Int)).toNat = i + m + (n - j) := by omega
  have hp1 : (0 : Int) ≤ (i : Int) + (m : Int) := by omega
  have hp2 : (0 : Int) ≤ (i : Int) + (m : Int) + ((n - j : Nat) : Int) := by omega
  have hlt : (i : Int) + (m : Int) ≤ (j : Int) := by omega
  have hg9 : ¬ ((cap : Int) < (i : Int) + (m : Int) + ((n - j : Nat) : Int)) := by omega
  have hle : i + m + (n - j) ≤ cap := by omega
  have hle2 : i + m + (n - j) ≤ n := by omega
  have hne5 : ¬ (cap = i + m + (n - j)) := by omega
  have hne6 : ¬ (cap = i + m) := by omega
  have hle3 : i ≤ i + m + (n - j) := by omega
  have hle4 : i + m ≤ i + m + (n - j) := by omega
  have hle5 : (i : Int) ≤ (i : Int) + (m : Int) + ((n - j : Nat) : Int) := by omega
  have hle6 : (i : Int) + (m : Int) ≤ (i : Int) + (m : Int) + ((n - j : Nat) : Int) := by omega
  clear hE hcp1 hcp2 hcl hW1 hW2 hg1 hg2 hsz1 hsz2 hs1l hd1 hzl hz1 hz2 hz3 hti hg hs h1 hyl h2 hy hcurl holds hol ho1
  go_enter Tryz.func87, Tryz.ntmps87
  go_wp2_with fail
  go_region_law_o fail
  all_goals
    go_wp2_with (with_reducible refine z2p _ rfl (.tmp 95) (.tmp 96) 30 30 rfl (.slice (some ⟨g, i * 5, none⟩) (i + m + (n - j) - i) (cap - i)) (.slice b2 m c2) rfl rfl (Hcp1.out _ _) ?_; rw [← HW1.out])
  all_goals
    go_region_law_o (refine z2q rfl (.tmp 103) (.tmp 106) 30 30 rfl (.slice (some ⟨g, (i + m) * 5, none⟩) (i + m + (n - j) - (i + m)) (cap - (i + m))) (.slice (some ⟨g, j * 5, none⟩) (n - j) (cap - j)) (by simp [Act.eval, Act.put]) (by simp [Act.eval, Act.put]) (Hcp2.out _ _ _) ?_)
  all_goals
    rw [← HW2.out]
    go_wp2_with (with_reducible refine z2k _ rfl (.tmp 110) 30 rfl (.slice (some ⟨g, (i + m + (n - j)) * 5, none⟩) (n - (i + m + (n - j))) (cap - (i + m + (n - j)))) rfl (Hcl.out _ _) ?_)
  all_goals
    go_ret
    exact HE.out
end V
namespace V
open Go Go.RowKit Go.Lib
set_option maxHeartbeats 4000000 in
set_option maxRecDepth 1000000 in
theorem znv (g n cap i j m c2 : Nat) (b2 : Option Addr) (te : TypeId) (cur : Array Value) (ys : List Value) (w : World) (hg : w.heap[g]? = some (.cells cur te (0, 0))) (hs : cur.size = cap * 5) (hc : cap ≤ maxLen) (hn : n ≤ cap) (h1 : ∀ u ∈ cur.toList.take (n * 5), u.oneCell' = true)
    (hyl : ys.length = m * 5) (h2 : ∀ y ∈ ys, y.oneCell' = true) (hy : ∀ W : World, (∀ k, k ≠ g → k < w.heap.size → W.heap[k]? = w.heap[k]?) → (Builtin.firstCells 5 m (.slice b2 m c2)).run Tryz.prog W = .ok ys.toArray W) (hi : i < j) (hj : j < n) (hm : i + m = j) :
    Calls Tryz.prog 87 #[.slice (some ⟨g, 0, none⟩) n cap, .int .i64 i, .int .i64 j, .slice b2 m c2] w (RowTo w (.slice (some ⟨g, 0, none⟩) n cap) 5 (i + m + (n - j)) (cur.toList.take (i * 5) ++ ys ++ (cur.toList.drop (j * 5)).take ((n - j) * 5))) := by
  have hU : Tryz.prog.underlying 30 = some (.slice 26) := Tryz.underlying30
  obtain ⟨ti, hti, hz1, hz2, hz3⟩ := info_parts (by kernel_rfl : (Tryz.prog.info? 26).map (fun i => (i.zero, i.size, i.bytes)) = some (some (.agg #[.int .i64 0, .int .i64 0, .int .i64 0, .int .i64 0, .int .i64 0]), 5, 40))
  unfold maxLen at hc; have hcurl := Array.length_toList (xs := cur); obtain ⟨olds, holds⟩ : ∃ olds, olds = (cur.toList.drop (j * 5)).take ((n - j) * 5) := ⟨_, rfl⟩
  have hol : olds.length = (n - j) * 5 := by rw [holds, List.length_take, List.length_drop]; omega
  have ho1 : ∀ u ∈ olds, u.oneCell' = true := by
    intro u hu; rw [holds, List.take_drop] at hu; have := List.mem_of_mem_drop hu
    rw [show j * 5 + (n - j) * 5 = n * 5 by omega] at this
    exact h1 u this
  have hcp1 : ∀ ty dc, (Builtin.copy_ #[30, 30] ty #[.slice (some ⟨g, i * 5, none⟩) (i + m + (n - j) - i) dc, .slice b2 m c2]).run Tryz.prog w.drew = .ok (goInt ((m : Nat) : Int)) (w.drew.setRow g (spl cur (i * 5) ys)) := fun ty dc => by
    refine zq hU hti (w := w.drew) (te := te) (o := i * 5) (cur := cur) (news := ys) hg (by simp only [Nat.min_def]; split <;> omega) ?_ h2 (by omega)
    rw [hz2]; exact hy w.drew (fun k _ _ => rfl)
  obtain ⟨W1, hW1⟩ : ∃ W1, W1 = w.drew.setRow g (spl cur (i * 5) ys) := ⟨_, rfl⟩
  have hg1 : W1.heap[g]? = some (.cells (spl cur (i * 5) ys) te (0, 0)) := by rw [hW1]; exact setRow_heap _ g cur _ te (0, 0) hg
  have hsz1 : (spl cur (i * 5) ys).size = cap * 5 := by rw [zn _ _ _ (by omega), hs]
  have hs1l := Array.length_toList (xs := spl cur (i * 5) ys)
  have hd1 : ((spl cur (i * 5) ys).toList.drop (j * 5)).take ((n - j) * 5) = olds := by
    have hl1 : (cur.toList.take (i * 5) ++ ys).length = (i + m) * 5 := by rw [List.length_append, List.length_take]; omega
    rw [holds, zl, List.drop_append, List.drop_of_length_le (by omega), List.nil_append, List.drop_drop, hl1]
    congr 2
    omega
  have hcp2 : ∀ ty dc sc, (Builtin.copy_ #[30, 30] ty #[.slice (some ⟨g, (i + m) * 5, none⟩) (i + m + (n - j) - (i + m)) dc, .slice (some ⟨g, j * 5, none⟩) (n - j) sc]).run Tryz.prog W1.drew = .ok (goInt ((n - j : Nat) : Int)) (W1.drew.setRow g (spl (spl cur (i * 5) ys) ((i + m) * 5) olds)) := fun ty dc sc => by
    refine zq hU hti (w := W1.drew) (te := te) (o := (i + m) * 5) (cur := spl cur (i * 5) ys) (news := olds) hg1 (by simp only [Nat.min_def]; split <;> omega) ?_ ho1 (by omega)
    rw [hz2, ← hd1]
    exact zw (w := W1.drew) (te := te) (fr := (0, 0)) hg1 (by omega)
  obtain ⟨W2, hW2⟩ : ∃ W2, W2 = W1.drew.setRow g (spl (spl cur (i * 5) ys) ((i + m) * 5) olds) := ⟨_, rfl⟩
  have hsz2 : (spl (spl cur (i * 5) ys) ((i + m) * 5) olds).size = cap * 5 := by rw [zn _ _ _ (by omega), hsz1]
  have hE : RowTo w (.slice (some ⟨g, 0, none⟩) n cap) 5 (i + m + (n - j)) (cur.toList.take (i * 5) ++ ys ++ olds) (.returned (.slice (some ⟨g, 0, none⟩) (i + m + (n - j)) cap)) W2 := by
    have e1 : W2 = w.drew.drew.setRow g (spl (spl cur (i * 5) ys) ((i + m) * 5) olds) := by
      rw [hW2, hW1]; exact z10 w.drew.drew g _ _
    rw [e1]
    refine z1o (w := w.drew.drew) (n' := i + m + (n - j)) (cap := cap) (sz := 5) (te := te) (cur := cur) rfl hg ?_ (by omega) hc ?_ w ⟨rfl, rfl, rfl, rfl⟩ n
    · rw [hsz2]
    · have hl1 : (cur.toList.take (i * 5) ++ ys).length = (i + m) * 5 := by rw [List.length_append, List.length_take]; omega
      have hl2 : (cur.toList.take (i * 5) ++ ys ++ olds).length = (i + m + (n - j)) * 5 := by rw [List.length_append]; omega
      have e2 : (spl cur (i * 5) ys).toList.take ((i + m) * 5) = cur.toList.take (i * 5) ++ ys := by
        rw [zl, List.take_append_of_le_length (by omega), List.take_of_length_le (by omega)]
      rw [zl, e2, List.take_append_of_le_length (by omega), List.take_of_length_le (by omega)]
  have hcl0 : ∀ a c ty, (Builtin.clear_ #[30] ty #[.slice a 0 c]).run Tryz.prog W2 = .ok (.tuple #[]) W2 := fun a c ty => by cases a <;> simp [Builtin.clear_, run_underlying hU]
  have Hcl0 := Lib.hid hcl0; have HE := Lib.hid hE; have Hcp1 := Lib.hid hcp1; have Hcp2 := Lib.hid hcp2; have HW1 := Lib.hid hW1; have HW2 := Lib.hid hW2; rw [← holds]; generalize cur.toList.take (i * 5) ++ ys ++ olds = zs at *
  have mixed : Tryz.prog.follows .mixedOrders = true := by kernel_rfl
  have hjn : j ≤ n := by omega
  have hic : i ≤ cap := by omega
  have hij : i ≤ j := by omega
  have hjc : j ≤ cap := by omega
  have hne : ¬ ((i : Int) = (j : Int)) := by omega
  have hne2 : ¬ ((j : Int) = (n : Int)) := by omega
  have hnc1 : ¬ (cap = i) := by omega
  have hnc2 : ¬ (cap = j) := by omega
  have hw1 : IntKind.i64.wrap ((i : Int) + (m : Int)) = (i : Int) + (m : Int) := by rw [IntKind.wrap_i64]; omega
  have hw2 : IntKind.i64.wrap ((i : Int) + (m : Int) + ((n - j : Nat) : Int)) = (i : Int) + (m : Int) + ((n - j : Nat) : Int) := by rw [IntKind.wrap_i64]; omega
  have ht1 : ((i : Int) + (m : Int)).toNat = i + m := by omega
  have ht2 : ((i : Int) + (m : Int) + ((n - j : Nat) : Int)).toNat = i + m + (n - j) := by omega
  have hp1 : (0 : Int) ≤ (i : Int) + (m : Int) := by omega
  have hp2 : (0 : Int) ≤ (i : Int) + (m : Int) + ((n - j : Nat) : Int) := by omega
  have hlt : (i : Int) + (m : Int) ≤ (j : Int) := by omega
  have hg9 : ¬ ((cap : Int) < (i : Int) + (m : Int) + ((n - j : Nat) : Int)) := by omega
  have hle : i + m + (n - j) ≤ cap := by omega
  have hle2 : i + m + (n - j) ≤ n := by omega
  have hne6 : ¬ (cap = i + m) := by omega
  have hle3 : i ≤ i + m + (n - j) := by omega
  have hle4 : i + m ≤ i + m + (n - j) := by omega
  have hle5 : (i : Int) ≤ (i : Int) + (m : Int) + ((n - j : Nat) : Int) := by omega
  have hle6 : (i : Int) + (m : Int) ≤ (i : Int) + (m : Int) + ((n - j : Nat) : Int) := by omega
  have hzz : n - (i + m + (n - j)) = 0 := by omega
  clear hcl0 hE hcp1 hcp2 hW1 hW2 hg1 hsz1 hsz2 hs1l hd1 hz1 hz2 hz3 hti hg hs h1 hyl h2 hy hcurl holds hol ho1
  rcases (show n < cap ∨ cap = n by omega) with hlt5 | hlt5
  · have hne5 : ¬ (cap = i + m + (n - j)) := by omega
    clear hlt5 hm
    go_enter Tryz.func87, Tryz.ntmps87
    go_wp2_with fail
    go_region_law_o fail
    all_goals
      go_wp2_with (with_reducible refine z2p _ rfl (.tmp 95) (.tmp 96) 30 30 rfl (.slice (some ⟨g, i * 5, none⟩) (i + m + (n - j) - i) (cap - i)) (.slice b2 m c2) rfl rfl (Hcp1.out _ _) ?_; rw [← HW1.out])
    all_goals
      go_region_law_o (refine z2q rfl (.tmp 103) (.tmp 106) 30 30 rfl (.slice (some ⟨g, (i + m) * 5, none⟩) (i + m + (n - j) - (i + m)) (cap - (i + m))) (.slice (some ⟨g, j * 5, none⟩) (n - j) (cap - j)) (by simp [Act.eval, Act.put]) (by simp [Act.eval, Act.put]) (Hcp2.out _ _ _) ?_)
    all_goals
      rw [← HW2.out]
      go_wp2_with (with_reducible refine z2k _ rfl (.tmp 110) 30 rfl (.slice (some ⟨g, (i + m + (n - j)) * 5, none⟩) 0 (cap - (i + m + (n - j)))) rfl (Hcl0.out _ _ _) ?_)
    all_goals
      go_ret
      exact HE.out
  · have heq5 : (cap = i + m + (n - j)) = True := by simp; omega
    clear hlt5 hm
    go_enter Tryz.func87, Tryz.ntmps87
    go_wp2_with fail
    go_region_law_o fail
    all_goals
      go_wp2_with (with_reducible refine z2p _ rfl (.tmp 95) (.tmp 96) 30 30 rfl (.slice (some ⟨g, i * 5, none⟩) (i + m + (n - j) - i) (cap - i)) (.slice b2 m c2) rfl rfl (Hcp1.out _ _) ?_; rw [← HW1.out])
    all_goals
      go_region_law_o (refine z2q rfl (.tmp 103) (.tmp 106) 30 30 rfl (.slice (some ⟨g, (i + m) * 5, none⟩) (i + m + (n - j) - (i + m)) (cap - (i + m))) (.slice (some ⟨g, j * 5, none⟩) (n - j) (cap - j)) (by simp [Act.eval, Act.put]) (by simp [Act.eval, Act.put]) (Hcp2.out _ _ _) ?_)
    all_goals
      rw [← HW2.out]
      go_wp2_with (with_reducible refine z2k _ rfl (.tmp 110) 30 rfl (.slice (some ⟨g, 0, none⟩) 0 (cap - (i + m + (n - j)))) rfl (Hcl0.out _ _ _) ?_)
    all_goals
      go_ret
      exact HE.out
end V
namespace V
open Go Go.RowKit Go.Lib
set_option maxHeartbeats 4000000 in
set_option maxRecDepth 1000000 in
theorem znw (g n cap i j m c2 h : Nat) (te te2 : TypeId) (cur cur2 : Array Value) (w : World) (hg : w.heap[g]? = some (.cells cur te (0, 0))) (hs : cur.size = cap * 5) (hc : cap ≤ maxLen) (hn : n ≤ cap) (h1 : ∀ u ∈ cur.toList.take (n * 5), u.oneCell' = true)
    (hg2 : w.heap[h]? = some (.cells cur2 te2 (0, 0))) (hs2 : cur2.size = c2 * 5) (hmc : m ≤ c2) (h2 : ∀ u ∈ cur2.toList.take (m * 5), u.oneCell' = true) (hgh : g ≠ h) (hi : i < j) (hj : j < n) (hm : j < i + m) (hroom : i + m + (n - j) ≤ cap) :
    Calls Tryz.prog 87 #[.slice (some ⟨g, 0, none⟩) n cap, .int .i64 i, .int .i64 j, .slice (some ⟨h, 0, none⟩) m c2] w (RowTo w (.slice (some ⟨g, 0, none⟩) n cap) 5 (i + m + (n - j)) (cur.toList.take (i * 5) ++ cur2.toList.take (m * 5) ++ (cur.toList.drop (j * 5)).take ((n - j) * 5))) := by
  have hU : Tryz.prog.underlying 30 = some (.slice 26) := Tryz.underlying30
  obtain ⟨ti, hti, hz1, hz2, hz3⟩ := info_parts (by kernel_rfl : (Tryz.prog.info? 26).map (fun i => (i.zero, i.size, i.bytes)) = some (some (.agg #[.int .i64 0, .int .i64 0, .int .i64 0, .int .i64 0, .int .i64 0]), 5, 40))
  unfold maxLen at hc; have hcurl := Array.length_toList (xs := cur); obtain ⟨olds, holds⟩ : ∃ olds, olds = (cur.toList.drop (j * 5)).take ((n - j) * 5) := ⟨_, rfl⟩
  have hol : olds.length = (n - j) * 5 := by rw [holds, List.length_take, List.length_drop]; omega
  have ho1 : ∀ u ∈ olds, u.oneCell' = true := by
    intro u hu; rw [holds, List.take_drop] at hu; have := List.mem_of_mem_drop hu
    rw [show j * 5 + (n - j) * 5 = n * 5 by omega] at this
    exact h1 u this
  obtain ⟨ys, hys⟩ : ∃ ys, ys = cur2.toList.take (m * 5) := ⟨_, rfl⟩
  have hyl : ys.length = m * 5 := by rw [hys, List.length_take]; have := Array.length_toList (xs := cur2); omega
  have hy1 : ∀ u ∈ ys, u.oneCell' = true := by rw [hys]; exact h2
  have hov : ∀ lb cb, (callFunc 105 #[.slice (some ⟨g, (i + m) * 5, none⟩) lb cb, .slice (some ⟨h, 0, none⟩) m c2]).run Tryz.prog w.drew = .ok (.value (.bool false)) w.drew := fun lb cb => by
    rw [run_callFunc_extern Tryz.func105 (by kernel_rfl) (by kernel_rfl) (by kernel_rfl) (e := Extern.SlicesOverlaps.overlaps #[30, 30] #[4]) (by kernel_rfl),
      Lib.run_overlaps_apart w.drew 30 4 26 hU 5 (fun w => by simp [sizeOf, typeInfo, hti, hz2]) ⟨g, (i + m) * 5, none⟩ ⟨h, 0, none⟩ lb cb m c2 hgh te te2 cur.size cur2.size (z2u (w := w.drew) hg) (z2u (w := w.drew) hg2) (by omega) (z2f (w := w.drew) hg) (z2f (w := w.drew) hg)]
    rfl
  have hcp1 : ∀ ty dc sc, (Builtin.copy_ #[30, 30] ty #[.slice (some ⟨g, (i + m) * 5, none⟩) (i + m + (n - j) - (i + m)) dc, .slice (some ⟨g, j * 5, none⟩) (n - j) sc]).run Tryz.prog w.drew.drew = .ok (goInt ((n - j : Nat) : Int)) (w.drew.drew.setRow g (spl cur ((i + m) * 5) olds)) := fun ty dc sc => by
    refine zq hU hti (w := w.drew.drew) (te := te) (o := (i + m) * 5) (cur := cur) (news := olds) hg (by simp only [Nat.min_def]; split <;> omega) ?_ ho1 (by omega)
    rw [hz2, holds]
    exact zw (w := w.drew.drew) (te := te) (fr := (0, 0)) hg (by omega)
  obtain ⟨W1, hW1⟩ : ∃ W1, W1 = w.drew.drew.setRow g (spl cur ((i + m) * 5) olds) := ⟨_, rfl⟩
  have hg1 : W1.heap[g]? = some (.cells (spl cur ((i + m) * 5) olds) te (0, 0)) := by rw [hW1]; exact setRow_heap _ g cur _ te (0, 0) hg
  have hh1 : W1.heap[h]? = some (.cells cur2 te2 (0, 0)) := by rw [hW1, setRow_other' _ _ _ _ (Ne.symm hgh)]; exact hg2
  have hsz1 : (spl cur ((i + m) * 5) olds).size = cap * 5 := by rw [zn _ _ _ (by omega), hs]
  have hcp2 : ∀ ty dc, (Builtin.copy_ #[30, 30] ty #[.slice (some ⟨g, i * 5, none⟩) (i + m + (n - j) - i) dc, .slice (some ⟨h, 0, none⟩) m c2]).run Tryz.prog W1 = .ok (goInt ((m : Nat) : Int)) (W1.setRow g (spl (spl cur ((i + m) * 5) olds) (i * 5) ys)) := fun ty dc => by
    refine zq hU hti (w := W1) (te := te) (o := i * 5) (cur := spl cur ((i + m) * 5) olds) (news := ys) hg1 (by simp only [Nat.min_def]; split <;> omega) ?_ hy1 (by omega)
    rw [hz2, hys]
    exact zw (w := W1) (te := te2) (fr := (0, 0)) hh1 (by omega)
  have hE : RowTo w (.slice (some ⟨g, 0, none⟩) n cap) 5 (i + m + (n - j)) (cur.toList.take (i * 5) ++ ys ++ olds) (.returned (.slice (some ⟨g, 0, none⟩) (i + m + (n - j)) cap)) (W1.setRow g (spl (spl cur ((i + m) * 5) olds) (i * 5) ys)) := by
    have hl2 : (cur.toList.take (i * 5) ++ ys ++ olds).length = (i + m + (n - j)) * 5 := by rw [List.length_append, List.length_append, List.length_take]; omega
    rw [hW1, z10]; refine z1o (w := w.drew.drew) (n' := i + m + (n - j)) (cap := cap) (sz := 5) (te := te) (cur := cur) rfl hg ?_ hroom hc ?_ w ⟨rfl, rfl, rfl, rfl⟩ n
    · rw [zn _ _ _ (by omega), hsz1]
    · rw [zl, zl]
      have e1 : (cur.toList.take ((i + m) * 5) ++ olds ++ cur.toList.drop ((i + m) * 5 + olds.length)).take (i * 5) = cur.toList.take (i * 5) := by
        rw [List.append_assoc, List.take_append_of_le_length (by rw [List.length_take]; omega), List.take_take, Nat.min_eq_left (by omega)]
      have e2 : (cur.toList.take ((i + m) * 5) ++ olds ++ cur.toList.drop ((i + m) * 5 + olds.length)).drop (i * 5 + ys.length) = olds ++ cur.toList.drop ((i + m) * 5 + olds.length) := by
        rw [List.append_assoc, show i * 5 + ys.length = (cur.toList.take ((i + m) * 5)).length by rw [List.length_take]; omega]
        exact List.drop_left
      rw [e1, e2, ← List.append_assoc, List.take_append_of_le_length (by omega), List.take_of_length_le (by omega)]
  have HE := Lib.hid hE; have Hcp1 := Lib.hid hcp1; have Hcp2 := Lib.hid hcp2; have HW1 := Lib.hid hW1
  have mixed : Tryz.prog.follows .mixedOrders = true := by kernel_rfl
  rw [← holds, ← hys]; generalize cur.toList.take (i * 5) ++ ys ++ olds = zs at *
  have hjn : j ≤ n := by omega
  have hic : i ≤ cap := by omega
  have hij : i ≤ j := by omega
  have hjc : j ≤ cap := by omega
  have hne : ¬ ((i : Int) = (j : Int)) := by omega
  have hne2 : ¬ ((j : Int) = (n : Int)) := by omega
  have hnc1 : ¬ (cap = i) := by omega
  have hnc2 : ¬ (cap = j) := by omega
  have hw1 : IntKind.i64.wrap ((i : Int) + (m : Int)) = (i : Int) + (m : Int) := by rw [IntKind.wrap_i64]; omega
  have hw2 : IntKind.i64.wrap ((i : Int) + (m : Int) + ((n - j : Nat) : Int)) = (i : Int) + (m : Int) + ((n - j : Nat) : Int) := by rw [IntKind.wrap_i64]; omega
  have ht1 : ((i : Int) + (m : Int)).toNat = i + m := by omega
  have ht2 : ((i : Int) + (m : Int) + ((n - j : Nat) : Int)).toNat = i + m + (n - j) := by omega
  have hp1 : (0 : Int) ≤ (i : Int) + (m : Int) := by omega
  have hp2 : (0 : Int) ≤ (i : Int) + (m : Int) + ((n - j : Nat) : Int) := by omega
  have hlt : ¬ ((i : Int) + (m : Int) ≤ (j : Int)) := by omega
  have hg9 : ¬ ((cap : Int) < (i : Int) + (m : Int) + ((n - j : Nat) : Int)) := by omega
  have hne6 : ¬ (cap = i + m) := by omega
  have hle3 : i ≤ i + m + (n - j) := by omega
  have hle4 : i + m ≤ i + m + (n - j) := by omega
  have hle5 : (i : Int) ≤ (i : Int) + (m : Int) + ((n - j : Nat) : Int) := by omega
  have hle6 : (i : Int) + (m : Int) ≤ (i : Int) + (m : Int) + ((n - j : Nat) : Int) := by omega
  clear hE hcp1 hcp2 hW1 hg1 hh1 hsz1 hz1 hz2 hz3 hti hg hs h1 hg2 hs2 h2 hyl hys hy1 hcurl holds hol ho1
  go_enter Tryz.func87, Tryz.ntmps87
  go_wp2_with fail
  go_region_law_o fail
  all_goals
    go_wp2_with (simp only [hov])
  all_goals
    go_region_law_o (refine z2q rfl (.tmp 126) (.tmp 129) 30 30 rfl (.slice (some ⟨g, (i + m) * 5, none⟩) (i + m + (n - j) - (i + m)) (cap - (i + m))) (.slice (some ⟨g, j * 5, none⟩) (n - j) (cap - j)) (by simp [Act.eval, Act.put]) (by simp [Act.eval, Act.put]) (Hcp1.out _ _ _) ?_)
  all_goals
    rw [← HW1.out]
    go_wp2_with (with_reducible refine z2p _ rfl (.tmp 133) (.tmp 134) 30 30 rfl (.slice (some ⟨g, i * 5, none⟩) (i + m + (n - j) - i) (cap - i)) (.slice (some ⟨h, 0, none⟩) m c2) rfl rfl (Hcp2.out _ _) ?_)
  all_goals
    go_ret
    exact HE.out
end V
namespace V
open Go Go.RowKit Go.Lib
set_option maxHeartbeats 4000000 in
set_option maxRecDepth 1000000 in
theorem znx (g n cap i j m c2 h : Nat) (te te2 : TypeId) (cur cur2 : Array Value) (w : World) (hg : w.heap[g]? = some (.cells cur te (0, 0))) (hs : cur.size = cap * 5) (hc : cap ≤ maxLen) (hn : n ≤ cap) (h1 : ∀ u ∈ cur.toList.take (n * 5), u.oneCell' = true)
    (hg2 : w.heap[h]? = some (.cells cur2 te2 (0, 0))) (hs2 : cur2.size = c2 * 5) (hmc : m ≤ c2) (h2 : ∀ u ∈ cur2.toList.take (m * 5), u.oneCell' = true) (hgh : g ≠ h) (hi : i < j) (hj : j < n) (hroom : cap < i + m + (n - j)) (hb : (i + m + (n - j)) * 40 ≤ 211106232532992) :
    Calls Tryz.prog 87 #[.slice (some ⟨g, 0, none⟩) n cap, .int .i64 i, .int .i64 j, .slice (some ⟨h, 0, none⟩) m c2] w (RowTo w (.slice (some ⟨g, 0, none⟩) n cap) 5 (i + m + (n - j)) (cur.toList.take (i * 5) ++ cur2.toList.take (m * 5) ++ (cur.toList.drop (j * 5)).take ((n - j) * 5))) := by
  have hU : Tryz.prog.underlying 30 = some (.slice 26) := Tryz.underlying30
  obtain ⟨ti, hti, hz1, hz2, hz3⟩ := info_parts (by kernel_rfl : (Tryz.prog.info? 26).map (fun i => (i.zero, i.size, i.bytes)) = some (some (.agg #[.int .i64 0, .int .i64 0, .int .i64 0, .int .i64 0, .int .i64 0]), 5, 40))
  unfold maxLen at hc; have hcurl := Array.length_toList (xs := cur); obtain ⟨olds, holds⟩ : ∃ olds, olds = (cur.toList.drop (j * 5)).take ((n - j) * 5) := ⟨_, rfl⟩
  have hol : olds.length = (n - j) * 5 := by rw [holds, List.length_take, List.length_drop]; omega
  have ho1 : ∀ u ∈ olds, u.oneCell' = true := by
    intro u hu; rw [holds, List.take_drop] at hu; have := List.mem_of_mem_drop hu
    rw [show j * 5 + (n - j) * 5 = n * 5 by omega] at this
    exact h1 u this
  obtain ⟨ys, hys⟩ : ∃ ys, ys = cur2.toList.take (m * 5) := ⟨_, rfl⟩
  have hyl : ys.length = m * 5 := by rw [hys, List.length_take]; have := Array.length_toList (xs := cur2); omega
  have hy1 : ∀ u ∈ ys, u.oneCell' = true := by rw [hys]; exact h2
  have hkk : (i : Int) + (m : Int) + ((n - j : Nat) : Int) - (i : Int) = ((m + (n - j) : Nat) : Int) := by omega
  have hik : i + (m + (n - j)) = i + m + (n - j) := by omega
  have hold : (Builtin.firstCells ti.size i (.slice (some ⟨g, 0, none⟩) i cap)).run Tryz.prog w.drew.drew = .ok (cur.toList.take (i * 5)).toArray w.drew.drew := by
    rw [hz2]
    have := zw (P := Tryz.prog) (w := w.drew.drew) (sz := 5) (n := i) (cap := cap) (off := 0) (cnt := i) (te := te) (fr := (0, 0)) hg (by omega)
    rwa [List.drop_zero] at this
  obtain ⟨NC, hNC⟩ : ∃ NC, NC = grownCap w.drew (i + m + (n - j)) cap 26 := ⟨_, rfl⟩
  have hge : i + m + (n - j) ≤ NC := by rw [hNC]; exact grownCap_ge w.drew (i + m + (n - j)) cap _
  have hle : NC ≤ maxLen := by rw [hNC]; exact grownCap_le_maxLen w.drew _ cap _ (by simp only [maxLen]; omega)
  obtain ⟨ROW, hROW⟩ : ∃ ROW : Array Value, ROW = (cur.toList.take (i * 5)).toArray ++ Builtin.zeroCells (Value.agg #[.int .i64 0, .int .i64 0, .int .i64 0, .int .i64 0, .int .i64 0]).cells (m + (n - j)) ++ Builtin.zeroCells (Value.agg #[.int .i64 0, .int .i64 0, .int .i64 0, .int .i64 0, .int .i64 0]).cells (NC - (i + m + (n - j))) := ⟨_, rfl⟩
  have hrz : ∀ ty, (Builtin.append_ #[30, 3] ty #[.slice (some ⟨g, 0, none⟩) i cap, .int .i64 ((i : Int) + (m : Int) + ((n - j : Nat) : Int) - (i : Int))]).run Tryz.prog w.drew = .ok (.slice (some ⟨w.heap.size, 0, none⟩) (i + m + (n - j)) NC) (w.drew.drew.alloc (.cells ROW 26)) := fun ty => by
    have h := Lib.run_append_grow_zeros w.drew 30 3 ty 26 ti _ .i64 .i64 hU Tryz.underlying3 hti hz1 (some ⟨g, 0, none⟩) i cap (cur.toList.take (i * 5)) hold (m + (n - j)) (by omega) (by omega) (by omega) (by omega) (by rw [hz3]; omega) (by rw [hik]; exact z4k (by omega) (by omega) (by rw [hz3]; exact hb))
    rw [hik, ← hNC, ← hROW] at h; rw [hkk]; exact h
  have hRl : ROW.size = NC * 5 := by
    rw [hROW]; simp only [Array.size_append, List.size_toArray, List.length_take, z22]; have e5 : (Value.agg #[.int .i64 0, .int .i64 0, .int .i64 0, .int .i64 0, .int .i64 0]).cells.size = 5 := rfl; rw [e5]; omega
  have hRt : ROW.toList.take (i * 5) = cur.toList.take (i * 5) := by
    rw [hROW]; simp only [Array.toList_append, List.append_assoc]
    rw [List.take_append_of_le_length (by rw [List.length_take]; omega), List.take_take, Nat.min_self]
  have hRtl := Array.length_toList (xs := ROW); have hgw : g < w.heap.size := (Array.getElem?_eq_some_iff.1 hg).1; have hhw : h < w.heap.size := (Array.getElem?_eq_some_iff.1 hg2).1; obtain ⟨G, hG⟩ : ∃ G, G = w.heap.size := ⟨_, rfl⟩; obtain ⟨W1, hW1⟩ : ∃ W1, W1 = w.drew.drew.alloc (.cells ROW 26) := ⟨_, rfl⟩
  have hN1 : W1.heap[G]? = some (.cells ROW 26 (0, 0)) := by rw [hW1, hG]; exact heap_alloc_new w.drew.drew _
  have hH1 : W1.heap[h]? = some (.cells cur2 te2 (0, 0)) := by rw [hW1, heap_alloc_old w.drew.drew _ (by exact hhw)]; exact hg2
  have hO1 : W1.heap[g]? = some (.cells cur te (0, 0)) := by rw [hW1, heap_alloc_old w.drew.drew _ (by exact hgw)]; exact hg
  have hcp1 : ∀ ty dc, (Builtin.copy_ #[30, 30] ty #[.slice (some ⟨G, i * 5, none⟩) (i + m + (n - j) - i) dc, .slice (some ⟨h, 0, none⟩) m c2]).run Tryz.prog W1 = .ok (goInt ((m : Nat) : Int)) (W1.setRow G (spl ROW (i * 5) ys)) := fun ty dc => by
    refine zq hU hti (w := W1) (te := 26) (o := i * 5) (cur := ROW) (news := ys) hN1 (by simp only [Nat.min_def]; split <;> omega) ?_ hy1 (by omega)
    rw [hz2, hys]
    exact zw (w := W1) (te := te2) (fr := (0, 0)) hH1 (by omega)
  obtain ⟨W2, hW2⟩ : ∃ W2, W2 = W1.setRow G (spl ROW (i * 5) ys) := ⟨_, rfl⟩
  have hN2 : W2.heap[G]? = some (.cells (spl ROW (i * 5) ys) 26 (0, 0)) := by rw [hW2]; exact setRow_heap _ G ROW _ _ (0, 0) hN1
  have hO2 : W2.heap[g]? = some (.cells cur te (0, 0)) := by rw [hW2, setRow_other' _ _ _ _ (by omega)]; exact hO1
  have hs2' : (spl ROW (i * 5) ys).size = NC * 5 := by rw [zn _ _ _ (by omega), hRl]
  have hcp2 : ∀ ty dc sc, (Builtin.copy_ #[30, 30] ty #[.slice (some ⟨G, (i + m) * 5, none⟩) (i + m + (n - j) - (i + m)) dc, .slice (some ⟨g, j * 5, none⟩) (n - j) sc]).run Tryz.prog W2.drew = .ok (goInt ((n - j : Nat) : Int)) (W2.drew.setRow G (spl (spl ROW (i * 5) ys) ((i + m) * 5) olds)) := fun ty dc sc => by
    refine zq hU hti (w := W2.drew) (te := 26) (o := (i + m) * 5) (cur := spl ROW (i * 5) ys) (news := olds) hN2 (by simp only [Nat.min_def]; split <;> omega) ?_ ho1 (by omega)
    rw [hz2, holds]
    exact zw (w := W2.drew) (te := te) (fr := (0, 0)) hO2 (by omega)
  have hE : RowTo w (.slice (some ⟨g, 0, none⟩) n cap) 5 (i + m + (n - j)) (cur.toList.take (i * 5) ++ ys ++ olds) (.returned (.slice (some ⟨G, 0, none⟩) (i + m + (n - j)) NC)) (W2.drew.setRow G (spl (spl ROW (i * 5) ys) ((i + m) * 5) olds)) := by
    have eW : W2.drew.setRow G (spl (spl ROW (i * 5) ys) ((i + m) * 5) olds) = (w.drew.drew.drew).alloc (.cells (spl (spl ROW (i * 5) ys) ((i + m) * 5) olds) 26) := by
      rw [hW2, hW1, hG]; have e1 : (((w.drew.drew.alloc (.cells ROW 26)).setRow w.heap.size (spl ROW (i * 5) ys)).drew).setRow w.heap.size (spl (spl ROW (i * 5) ys) ((i + m) * 5) olds) = ((w.drew.drew.drew.alloc (.cells ROW 26)).setRow w.heap.size (spl ROW (i * 5) ys)).setRow w.heap.size (spl (spl ROW (i * 5) ys) ((i + m) * 5) olds) := rfl; rw [e1, z10]; exact World.setRow_alloc_new w.drew.drew.drew _ _ _
    rw [eW, hG]
    have hl2 : (cur.toList.take (i * 5) ++ ys ++ olds).length = (i + m + (n - j)) * 5 := by rw [List.length_append, List.length_append, List.length_take]; omega
    refine z39 (w := w.drew.drew.drew) (w0 := w) (cap := NC) rfl ⟨rfl, rfl, rfl, rfl⟩ ?_ hge hle ?_ _
    · rw [zn _ _ _ (by omega), hs2']
    · rw [zl, zl]
      have e1 : (ROW.toList.take (i * 5) ++ ys ++ ROW.toList.drop (i * 5 + ys.length)).take ((i + m) * 5) = cur.toList.take (i * 5) ++ ys := by
        rw [hRt, List.take_append_of_le_length (by rw [List.length_append, List.length_take]; omega), List.take_of_length_le (by rw [List.length_append, List.length_take]; omega)]
      rw [e1, List.take_append_of_le_length (by omega), List.take_of_length_le (by omega)]
  have HE := Lib.hid hE; have Hrz := Lib.hid hrz; have Hcp1 := Lib.hid hcp1; have Hcp2 := Lib.hid hcp2; have HW1 := Lib.hid hW1; have HW2 := Lib.hid hW2; have HG := Lib.hid hG
  have mixed : Tryz.prog.follows .mixedOrders = true := by kernel_rfl
  rw [← holds, ← hys]; generalize cur.toList.take (i * 5) ++ ys ++ olds = zs at *
  have hjn : j ≤ n := by omega
  have hic : i ≤ cap := by omega
  have hij : i ≤ j := by omega
  have hjc : j ≤ cap := by omega
  have hne : ¬ ((i : Int) = (j : Int)) := by omega
  have hne2 : ¬ ((j : Int) = (n : Int)) := by omega
  have hnc1 : ¬ (cap = i) := by omega
  have hnc2 : ¬ (cap = j) := by omega
  have hw1 : IntKind.i64.wrap ((i : Int) + (m : Int)) = (i : Int) + (m : Int) := by rw [IntKind.wrap_i64]; omega
  have hw2 : IntKind.i64.wrap ((i : Int) + (m : Int) + ((n - j : Nat) : Int)) = (i : Int) + (m : Int) + ((n - j : Nat) : Int) := by rw [IntKind.wrap_i64]; omega
  have ht1 : ((i : Int) + (m : Int)).toNat = i + m := by omega
  have ht2 : ((i : Int) + (m : Int) + ((n - j : Nat) : Int)).toNat = i + m + (n - j) := by omega
  have hp1 : (0 : Int) ≤ (i : Int) + (m : Int) := by omega
  have hp2 : (0 : Int) ≤ (i : Int) + (m : Int) + ((n - j : Nat) : Int) := by omega
  have hg9 : (cap : Int) < (i : Int) + (m : Int) + ((n - j : Nat) : Int) := by omega
  have hw3 : IntKind.i64.wrap ((i : Int) + (m : Int) + ((n - j : Nat) : Int) - (i : Int)) = (i : Int) + (m : Int) + ((n - j : Nat) : Int) - (i : Int) := by rw [IntKind.wrap_i64]; omega
  have hne6 : ¬ (NC = i + m) := by omega
  have hne7 : ¬ (NC = i) := by omega
  have hle3 : i ≤ i + m + (n - j) := by omega
  have hle4 : i + m ≤ i + m + (n - j) := by omega
  have hle5 : (i : Int) ≤ (i : Int) + (m : Int) + ((n - j : Nat) : Int) := by omega
  have hle6 : (i : Int) + (m : Int) ≤ (i : Int) + (m : Int) + ((n - j : Nat) : Int) := by omega
  unfold maxLen at hle; clear hE hrz hcp1 hcp2 hW1 hW2 hG hN1 hH1 hO1 hN2 hO2 hs2' hRl hRt hRtl hROW hNC hz1 hz2 hz3 hti hg hs h1 hg2 hs2 h2 hyl hys hy1 hcurl holds hol ho1 hold hkk hik hgw hhw
  go_enter Tryz.func87, Tryz.ntmps87
  go_wp2_with fail
  go_region_law_o fail
  all_goals
    go_wp2_with (first | (at_builtin; refine z1b _ rfl _ _ 30 3 rfl _ _ rfl rfl (Hrz.out _) ?_; rw [← HW1.out, ← HG.out]) | (with_reducible refine z2p _ rfl (.tmp 70) (.tmp 71) 30 30 rfl (.slice (some ⟨G, i * 5, none⟩) (i + m + (n - j) - i) (NC - i)) (.slice (some ⟨h, 0, none⟩) m c2) rfl rfl (Hcp1.out _ _) ?_; rw [← HW2.out]))
  all_goals
    go_region_law_o (refine z2q rfl (.tmp 78) (.tmp 81) 30 30 rfl (.slice (some ⟨G, (i + m) * 5, none⟩) (i + m + (n - j) - (i + m)) (NC - (i + m))) (.slice (some ⟨g, j * 5, none⟩) (n - j) (cap - j)) (by simp [Act.eval, Act.put]) (by simp [Act.eval, Act.put]) (Hcp2.out _ _ _) ?_)
  all_goals
    go_wp2
  all_goals
    go_ret
    exact HE.out
theorem zpk (v u : Value) (n m i j : Nat) (xs ys : List Value) (te te2 : TypeId) (w : World) (hv : w.ownsRow 0 te 5 v n xs) (hu : w.ownsRow 0 te2 5 u m ys) (hvu : ∀ g, v.ownBlock = some g → u.ownBlock ≠ some g) (h1 : ∀ x ∈ xs, x.oneCell' = true) (h2 : ∀ y ∈ ys, y.oneCell' = true) (hi : i ≤ j) (hj : j ≤ n) (hb : (n + m) * 40 ≤ 211106232532992) :
    Calls Tryz.prog 87 #[v, .int .i64 i, .int .i64 j, u] w (RowTo w v 5 (i + m + (n - j)) (xs.take (i * 5) ++ ys ++ xs.drop (j * 5))) := by
  by_cases hij : i = j
  · subst hij
    rw [show i + m + (n - i) = n + m by omega]
    exact znr v u n m i xs ys te te2 w hv hu hvu h1 h2 hj hb
  · have hv0 := hv
    have hu0 := hu; obtain ⟨hxl, hv⟩ := hv; obtain ⟨hyl, hu⟩ := hu
    rcases hv with ⟨rfl, rfl⟩ | ⟨g, cap, cur, rfl, _, hg, hnc, hcm, hcs, ht⟩
    · omega
    have e1 : xs.take (i * 5) = cur.toList.take (i * 5) := by rw [← ht, List.take_take, Nat.min_eq_left (by omega)]
    have e2 : xs.drop (j * 5) = (cur.toList.drop (j * 5)).take ((n - j) * 5) := by rw [← ht, List.drop_take]; congr 1; omega
    have hh1 : ∀ u ∈ cur.toList.take (n * 5), u.oneCell' = true := by rw [ht]; exact h1
    rw [e1, e2]
    obtain ⟨b2, c2, hu1, hu2⟩ : ∃ b2 c2, u = .slice b2 m c2 ∧ ∀ W : World, (∀ k, k ≠ g → k < w.heap.size → W.heap[k]? = w.heap[k]?) → (Builtin.firstCells 5 m (.slice b2 m c2)).run Tryz.prog W = .ok ys.toArray W := by
      rcases hu with ⟨rfl, rfl⟩ | ⟨h, c2, cur2, rfl, _, hg2, hmc, hmc2, hs2, ht2⟩
      · refine ⟨none, 0, rfl, fun W hW => ?_⟩
        have hy0 : ys = [] := List.eq_nil_of_length_eq_zero (by simp [hyl])
        subst hy0; simp [Builtin.firstCells]
      · refine ⟨_, c2, rfl, fun W hW => ?_⟩
        have hgW : W.heap[h]? = some (.cells cur2 te2 (0, 0)) := by rw [hW h (fun e => hvu g rfl (by rw [e]; rfl)) (Array.getElem?_eq_some_iff.1 hg2).1]; exact hg2
        have := zw (P := Tryz.prog) (w := W) (sz := 5) (n := m) (cap := c2) (off := 0) (cnt := m) (te := te2) (fr := (0, 0)) hgW (by omega)
        rw [List.drop_zero, ht2] at this; exact this
    by_cases hjn : j = n
    · subst hu1
      by_cases hm : i + m < n
      · exact zns g n cap i j m c2 b2 te cur ys w hg hcs hcm hnc hh1 hyl h2 hu2 (by omega) hjn hm
      · exact znt g n cap i j m c2 b2 te cur ys w hg hcs hcm hnc hh1 hyl h2 hu2 (by omega) hjn (by omega) (by omega)
    · by_cases hm : i + m < j
      · subst hu1
        exact znu g n cap i j m c2 b2 te cur ys w hg hcs hcm hnc hh1 hyl h2 hu2 (by omega) (by omega) hm
      · by_cases hm2 : i + m = j
        · subst hu1
          exact znv g n cap i j m c2 b2 te cur ys w hg hcs hcm hnc hh1 hyl h2 hu2 (by omega) (by omega) hm2
        · rcases hu with ⟨rfl, rfl⟩ | ⟨h, c2', cur2, rfl, _, hg2, hmc, hmc2, hs2, ht2⟩
          · omega
          · have hgh : g ≠ h := fun e => hvu g rfl (by rw [e]; rfl)
            rw [← ht2]
            by_cases hroom : i + m + (n - j) ≤ cap
            · exact znw g n cap i j m c2' h te te2 cur cur2 w hg hcs hcm hnc hh1 hg2 hs2 hmc (by rw [ht2]; exact h2) hgh (by omega) (by omega) (by omega) hroom
            · exact znx g n cap i j m c2' h te te2 cur cur2 w hg hcs hcm hnc hh1 hg2 hs2 hmc (by rw [ht2]; exact h2) hgh (by omega) (by omega) (by omega) (by omega)
end V
namespace V
variable {P : Program} {F : Fr} {E : E3} {cl : Cl} {w : World}
theorem zfe (h : WI F E (objsOf []) cl w) (hF : F.w0 = w) (hS : F.S0 = E.S) {q : Nm} {l : List AV} {v : Value} {sz : Nat} (hq : cl q = some (.row l)) (hk : E.ka q = some (v, sz)) {n' : Nat} {xs' : List Value} {l' : List AV} {e : Ending} {w' : World} (hR : RowTo w v sz n' xs' e w') (hn : l'.length = n') (hs : SrcE E sz l' xs') (hf : l'.all AV.flat = true) :
    ∃ v res outs E' cl', e = .returned v ∧ (res = [.lst .uq sz l'] ∧ outs = []) ∧ Rep E' (one1 (frR 0 res)) v ∧ WI F E' (objsOf outs) cl' w' ∧ NamedO outs cl' ∧ NamedR res cl' ∧ (outs.map (·.1)).Nodup := by
  obtain ⟨v', te, rfl, g1, g2, g3⟩ := hR; obtain ⟨t0, xs0, k1, k2, k3, k4⟩ := z1j h hq hk
  have hlt : ∀ b i x, E.S b i = some x → b < w.heap.size := fun b i x hx => by
    have := h.agree b i x hx
    rcases Nat.lt_or_ge b w.heap.size with h' | h'
    · exact h'
    · simp [World.cell?, h'] at this
  have hne : ∀ b i x, E.S b i = some x → some b ≠ v.ownBlock := fun b i x hx e => by
    have := (k4 b e.symm).2 i
    rw [hx] at this; cases this
  have hown : ∀ g, v'.ownBlock = some g → F.own g ∧ ∀ i, E.S g i = none := fun g hg => by
    rcases g3 g hg with h1 | h1
    · exact k4 g h1
    · refine ⟨.inl (by rw [hF]; exact h1), fun i => ?_⟩
      cases hx : E.S g i with
      | none => rfl
      | some x => have := hlt g i x hx; omega
  have hone : ∀ q x, updN (fun _ => none) (.R 0) (.row l') q = some x → q = .R 0 ∧ x = .row l' := fun q x hx => by
    by_cases hqq : Nm.R 0 = q
    · subst hqq; rw [zp] at hx; cases hx; exact ⟨rfl, rfl⟩
    · rw [zm _ _ hqq] at hx; cases hx
  have hka : ∀ q x, updK (fun _ => none) (.R 0) (v', sz) q = some x → q = .R 0 ∧ x = (v', sz) := fun q x hx => by
    unfold updK at hx
    split at hx
    · rename_i he; cases hx; exact ⟨he.symm, rfl⟩
    · cases hx
  have hka0 : updK (fun _ => none) (.R 0) (v', sz) (.R 0) = some (v', sz) := by simp [updK]
  refine ⟨v', _, _, ⟨E.S, fun _ => none, updK (fun _ => none) (.R 0) (v', sz)⟩, updN (fun _ => none) (.R 0) (.row l'), rfl, ⟨rfl, rfl⟩, ?_, ?_, ?_, ?_, by simp⟩
  · change Rep _ (.sq (.R 0) sz) v'
    simp only [Rep]; refine ⟨hka0, ?_⟩
    rcases g1.2 with ⟨e1, _⟩ | ⟨g, cap, cur, e1, _⟩
    · exact ⟨_, _, _, e1⟩
    · exact ⟨_, _, _, e1⟩
  · refine ⟨?_, ?_, ?_, ?_, ?_, ?_, ?_, ?_, ?_, ?_, ?_, ?_, ?_, ?_⟩
    · intro b i x hx
      rw [z44 (g2.block b (hlt b i x hx) (hne b i x hx))]; exact h.agree b i x hx
    · intro o cs ho; cases ho
    · intro o cs ho; cases ho
    · intro q' hq'
      have : ∃ x, updN (fun _ => none) (.R 0) (.row l') q' = some x := by
        cases hx : updN (fun _ => none) (.R 0) (.row l') q' with
        | none => rw [hx] at hq'; cases hq'
        | some x => exact ⟨x, rfl⟩
      obtain ⟨x, hx⟩ := this; obtain ⟨rfl, rfl⟩ := hone _ _ hx; exact ⟨v', sz, te, n', xs', hka0, k3, g1, fun g hg => ⟨(hown g hg).1, fun i _ => (hown g hg).2 i⟩⟩
    · intro q' l2 hq'
      obtain ⟨rfl, e2⟩ := hone _ _ hq'
      cases e2
      exact ⟨v', sz, te, n', xs', hka0, g1, (SrcE.mono (E := E) (E' := ⟨E.S, fun _ => none, updK (fun _ => none) (.R 0) (v', sz)⟩) (fun _ _ _ hx => hx) hs).toR, hn, fun g hg i => (hown g hg).2 i⟩
    · intro o o' cs cs' b ho; cases ho
    · intro q1 q2 v1 v2 s1 s2 g hq1 hq2 hk1 hk2 _ _
      rw [(hka _ _ hk1).1, (hka _ _ hk2).1]
    · intro o cs b q' v1 s ho; cases ho
    · intro o b ho; cases ho
    · intro q' x hx
      rw [(hka _ _ hx).1, zp]; simp
    · refine ⟨g2.os.trans (by rw [hF]), g2.tape.trans (by rw [hF]), g2.output.trans (by rw [hF]), by rw [hF]; exact g2.size, fun i hi ho => ?_⟩
      rw [hF] at hi ⊢; refine g2.block i hi fun e1 => ?_
      rcases (k4 i e1.symm).1 with h5 | h5
      · rw [hF] at h5; omega
      · exact ho h5
    · intro b i x hx; rw [hS] at hx; exact hx
    · intro b i x hx; exact .inl (by rw [hS]; exact hx)
    · intro j b cs _ ho; cases ho
  · intro j cs hj; cases hj
  · intro r x hx
    cases r with
    | zero =>
      simp at hx; subst hx; exact ⟨zp _ _ _, hf⟩
    | succ r => simp at hx
theorem z9x (h : WI F E (objsOf []) cl w) {q : Nm} {l : List AV} {sz : Nat} {v : Value} (hq : cl q = some (.row l) ∧ l.all AV.flat = true) (hv : Rep E (.sq q sz) v) :
    ∃ te xs, w.ownsRow 0 te sz v l.length xs ∧ SrcE E sz l xs ∧ 0 < sz ∧ E.ka q = some (v, sz) ∧ ∀ x ∈ xs, x.oneCell' = true := by
  simp only [Rep] at hv; obtain ⟨t, xs, k1, k2, k3, k4⟩ := z1j h hq.1 hv.1; exact ⟨t, xs, k1, k2.toE hq.2, k3, hv.1, (k2.toE hq.2).one k3⟩
theorem SrcE.take' {sz : Nat} {r : List AV} {ns : List Value} (h : SrcE E sz r ns) (m : Nat) (hf : r.all AV.flat = true) : SrcE E sz (r.take m) (ns.take (m * sz)) :=
  (h.toR.take m).toE (List.all_eq_true.2 fun x hx => List.all_eq_true.1 hf x (List.mem_of_mem_take hx))
theorem SrcE.drop' {sz : Nat} {r : List AV} {ns : List Value} (h : SrcE E sz r ns) (m : Nat) (hf : r.all AV.flat = true) : SrcE E sz (r.drop m) (ns.drop (m * sz)) :=
  (h.toR.drop m).toE (List.all_eq_true.2 fun x hx => List.all_eq_true.1 hf x (List.mem_of_mem_drop hx))
theorem z9y {l : List AV} (m : Nat) (hf : l.all AV.flat = true) : (l.take m).all AV.flat = true := List.all_eq_true.2 fun x hx => List.all_eq_true.1 hf x (List.mem_of_mem_take hx)
theorem z9z {l : List AV} (m : Nat) (hf : l.all AV.flat = true) : (l.drop m).all AV.flat = true := List.all_eq_true.2 fun x hx => List.all_eq_true.1 hf x (List.mem_of_mem_drop hx)
def insX (sz bytes : Nat) (args : List AV) (ins : List (Nat × List AV)) : Option CR :=
  match args, ins with
  | [.lst .uq a l, .int .i64 i, .lst .uq b r], [] => bif Nat.beq a sz && (Nat.beq b sz && (decide (0 ≤ i) && (decide (i ≤ (l.length : Int)) && decide ((l.length + r.length) * bytes ≤ 211106232532992)))) then some ([.lst .uq sz (l.take i.toNat ++ r ++ l.drop i.toNat)], []) else none
  | _, _ => none
def delX (sz : Nat) (args : List AV) (ins : List (Nat × List AV)) : Option CR :=
  match args, ins with
  | [.lst .uq a l, .int .i64 i, .int .i64 j], [] => bif Nat.beq a sz && (decide (0 ≤ i) && (decide (i ≤ j) && decide (j ≤ (l.length : Int)))) then some ([.lst .uq sz (l.take i.toNat ++ l.drop j.toNat)], []) else none
  | _, _ => none
def repX (sz bytes : Nat) (args : List AV) (ins : List (Nat × List AV)) : Option CR :=
  match args, ins with
  | [.lst .uq a l, .int .i64 i, .int .i64 j, .lst .uq b r], [] => bif Nat.beq a sz && (Nat.beq b sz && (decide (0 ≤ i) && (decide (i ≤ j) && (decide (j ≤ (l.length : Int)) && decide ((l.length + r.length) * bytes ≤ 211106232532992))))) then some ([.lst .uq sz (l.take i.toNat ++ r ++ l.drop j.toNat)], []) else none
  | _, _ => none
theorem zff {f sz bytes : Nat} (hc : ∀ (v u : Value) (n m i : Nat) (xs ys : List Value) (te te2 : TypeId) (w : World), w.ownsRow 0 te sz v n xs → w.ownsRow 0 te2 sz u m ys → (∀ g, v.ownBlock = some g → u.ownBlock ≠ some g) → (∀ x ∈ xs, x.oneCell' = true) → (∀ y ∈ ys, y.oneCell' = true) → i ≤ n → (n + m) * bytes ≤ 211106232532992 →
      Calls P f #[v, .int .i64 i, u] w (RowTo w v sz (n + m) (xs.take (i * sz) ++ ys ++ xs.drop (i * sz))))
    {args : List AV} {ins : List (Nat × List AV)} {r : List AV} {o : List (Nat × List AV)} (h : insX sz bytes args ins = some (r, o)) : Sem P f args ins (fun r' o' => r' = r ∧ o' = o) := by
  unfold insX at h
  split at h
  · rename_i a l i b r'
    cases hb : Nat.beq a sz && (Nat.beq b sz && (decide (0 ≤ i) && (decide (i ≤ (l.length : Int)) && decide ((l.length + r'.length) * bytes ≤ 211106232532992)))) with
    | false => rw [hb] at h; cases h
    | true =>
      rw [hb] at h; simp only [Bool.and_eq_true, Nat.beq_eq, decide_eq_true_eq] at hb; obtain ⟨rfl, rfl, h0, h1, h2⟩ := hb
      cases h
      intro F E cl w vals hF hS hM hA hI hO hN
      change RepT E [.sq (.Y 3 0 0 0) _, .int .i64 i, .sq (.Y 3 2 0 0) _] vals.toList at hA
      simp only [RepT] at hA; obtain ⟨v, r1, e1, hv, i', r2, e2, hi, u, r3, e3, hu, e4⟩ := hA; simp only [Rep] at hi; subst hi
      have hvals : vals = #[v, .int .i64 i, u] := by apply Array.ext'; rw [e1, e2, e3, e4]
      have n1 := hN 0 _ rfl; have n2 := hN 2 _ rfl; obtain ⟨te, xs, a1, a2, a3, a4, a5⟩ := z9x hI n1 hv; obtain ⟨te2, ys, b1, b2, b3, b4, b5⟩ := z9x hI n2 hu
      obtain ⟨k, rfl⟩ : ∃ k : Nat, i = k := ⟨i.toNat, by omega⟩
      have hk : k ≤ l.length := by omega
      rw [hvals]; refine (hc v u l.length r'.length k xs ys te te2 w a1 b1 (fun g hg hg2 => ?_) a5 b5 hk h2).mono fun e w' hR => ?_
      · have := hI.cc _ _ _ _ _ _ g (z16 n1.1) (z16 n2.1) a4 b4 hg hg2
        cases this
      · rw [Int.toNat_natCast]
        refine zfe hI hF hS n1.1 a4 hR (by simp; omega) (((a2.take' k n1.2).append b2).append (a2.drop' k n1.2)) (by simp only [List.all_append, z9y k n1.2, z9z k n1.2, n2.2, Bool.and_true])
  · cases h
theorem zm1 {f sz : Nat} (hc : ∀ (g n cap i j : Nat) (te : TypeId) (cur : Array Value) (w : World), w.heap[g]? = some (.cells cur te (0, 0)) → cur.size = cap * sz → n ≤ cap → cap ≤ maxLen → (∀ u ∈ cur.toList.take (n * sz), u.oneCell' = true) → i ≤ j → j ≤ n →
      Calls P f #[.slice (some ⟨g, 0, none⟩) n cap, .int .i64 i, .int .i64 j] w (RowTo w (.slice (some ⟨g, 0, none⟩) n cap) sz (n - (j - i)) (cur.toList.take (i * sz) ++ (cur.toList.drop (j * sz)).take ((n - j) * sz))))
    (hc0 : ∀ w, Calls P f #[.slice none 0 0, .int .i64 0, .int .i64 0] w (RowTo w (.slice none 0 0) sz 0 []))
    {args : List AV} {ins : List (Nat × List AV)} {r : List AV} {o : List (Nat × List AV)} (h : delX sz args ins = some (r, o)) : Sem P f args ins (fun r' o' => r' = r ∧ o' = o) := by
  unfold delX at h
  split at h
  · rename_i a l i j
    cases hb : Nat.beq a sz && (decide (0 ≤ i) && (decide (i ≤ j) && decide (j ≤ (l.length : Int)))) with
    | false => rw [hb] at h; cases h
    | true =>
      rw [hb] at h; simp only [Bool.and_eq_true, Nat.beq_eq, decide_eq_true_eq] at hb; obtain ⟨ha, h0, h1, h2⟩ := hb; obtain rfl : sz = a := ha.symm
      cases h
      intro F E cl w vals hF hS hM hA hI hO hN
      change RepT E [.sq (.Y 3 0 0 0) _, .int .i64 i, .int .i64 j] vals.toList at hA
      simp only [RepT] at hA; obtain ⟨v, r1, e1, hv, i', r2, e2, hi, j', r3, e3, hj, e4⟩ := hA; simp only [Rep] at hi hj
      subst hi; subst hj
      have hvals : vals = #[v, .int .i64 i, .int .i64 j] := by apply Array.ext'; rw [e1, e2, e3, e4]
      have n1 := hN 0 _ rfl; obtain ⟨te, xs, a1, a2, a3, a4, a5⟩ := z9x hI n1 hv
      obtain ⟨k, rfl⟩ : ∃ k : Nat, i = k := ⟨i.toNat, by omega⟩
      obtain ⟨m, rfl⟩ : ∃ m : Nat, j = m := ⟨j.toNat, by omega⟩
      rw [hvals]
      have fin : ∀ e w', RowTo w v sz (l.length - (m - k)) (xs.take (k * sz) ++ xs.drop (m * sz)) e w' → _ := fun e w' hR =>
        zfe hI hF hS n1.1 a4 hR (l' := l.take k ++ l.drop m) (by simp; omega) ((a2.take' k n1.2).append (a2.drop' m n1.2)) (by simp only [List.all_append, z9y k n1.2, z9z m n1.2, Bool.and_true])
      rw [Int.toNat_natCast, Int.toNat_natCast]
      rcases a1.2 with ⟨rfl, hl0⟩ | ⟨g, cap, cur, rfl, _, hg, hnc, hcm, hcs, ht⟩
      · obtain rfl : k = 0 := by omega
        obtain rfl : m = 0 := by omega
        have hx0 : xs = [] := List.eq_nil_of_length_eq_zero (by rw [a1.1, hl0]; simp)
        have := hc0 w; refine this.mono fun e w' hR => fin e w' ?_; rw [hl0, hx0]
        simpa using hR
      · have e5 : xs.take (k * sz) = cur.toList.take (k * sz) := by rw [← ht, List.take_take, Nat.min_eq_left (Nat.mul_le_mul_right _ (by omega))]
        have e6 : xs.drop (m * sz) = (cur.toList.drop (m * sz)).take ((l.length - m) * sz) := by rw [← ht, List.drop_take, Nat.mul_sub_right_distrib]
        refine (hc g l.length cap k m te cur w hg hcs hnc hcm (by rw [ht]; exact a5) (by omega) (by omega)).mono fun e w' hR => fin e w' ?_
        rw [e5, e6]; exact hR
  · cases h
theorem zvd {f sz bytes : Nat} (hc : ∀ (v u : Value) (n m i j : Nat) (xs ys : List Value) (te te2 : TypeId) (w : World), w.ownsRow 0 te sz v n xs → w.ownsRow 0 te2 sz u m ys → (∀ g, v.ownBlock = some g → u.ownBlock ≠ some g) → (∀ x ∈ xs, x.oneCell' = true) → (∀ y ∈ ys, y.oneCell' = true) → i ≤ j → j ≤ n → (n + m) * bytes ≤ 211106232532992 →
      Calls P f #[v, .int .i64 i, .int .i64 j, u] w (RowTo w v sz (i + m + (n - j)) (xs.take (i * sz) ++ ys ++ xs.drop (j * sz))))
    {args : List AV} {ins : List (Nat × List AV)} {r : List AV} {o : List (Nat × List AV)} (h : repX sz bytes args ins = some (r, o)) : Sem P f args ins (fun r' o' => r' = r ∧ o' = o) := by
  unfold repX at h
  split at h
  · rename_i a l i j b r'
    cases hb : Nat.beq a sz && (Nat.beq b sz && (decide (0 ≤ i) && (decide (i ≤ j) && (decide (j ≤ (l.length : Int)) && decide ((l.length + r'.length) * bytes ≤ 211106232532992))))) with
    | false => rw [hb] at h; cases h
    | true =>
      rw [hb] at h; simp only [Bool.and_eq_true, Nat.beq_eq, decide_eq_true_eq] at hb; obtain ⟨rfl, rfl, h0, h1, h2, h3⟩ := hb
      cases h
      intro F E cl w vals hF hS hM hA hI hO hN
      change RepT E [.sq (.Y 3 0 0 0) _, .int .i64 i, .int .i64 j, .sq (.Y 3 3 0 0) _] vals.toList at hA
      simp only [RepT] at hA; obtain ⟨v, r1, e1, hv, i', r2, e2, hi, j', r3, e3, hj, u, r4, e4, hu, e5⟩ := hA; simp only [Rep] at hi hj
      subst hi; subst hj
      have hvals : vals = #[v, .int .i64 i, .int .i64 j, u] := by apply Array.ext'; rw [e1, e2, e3, e4, e5]
      have n1 := hN 0 _ rfl; have n2 := hN 3 _ rfl; obtain ⟨te, xs, a1, a2, a3, a4, a5⟩ := z9x hI n1 hv; obtain ⟨te2, ys, b1, b2, b3, b4, b5⟩ := z9x hI n2 hu
      obtain ⟨k, rfl⟩ : ∃ k : Nat, i = k := ⟨i.toNat, by omega⟩
      obtain ⟨m, rfl⟩ : ∃ m : Nat, j = m := ⟨j.toNat, by omega⟩
      rw [hvals]
      refine (hc v u l.length r'.length k m xs ys te te2 w a1 b1 (fun g hg hg2 => ?_) a5 b5 (by omega) (by omega) h3).mono fun e w' hR => ?_
      · have := hI.cc _ _ _ _ _ _ g (z16 n1.1) (z16 n2.1) a4 b4 hg hg2
        cases this
      · rw [Int.toNat_natCast, Int.toNat_natCast]
        refine zfe hI hF hS n1.1 a4 hR (by simp; omega) (((a2.take' k n1.2).append b2).append (a2.drop' m n1.2)) (by simp only [List.all_append, z9y k n1.2, z9z m n1.2, n2.2, Bool.and_true])
  · cases h
end V
end Go.Proofs.YtgkiakemfcbgiaaGreat
