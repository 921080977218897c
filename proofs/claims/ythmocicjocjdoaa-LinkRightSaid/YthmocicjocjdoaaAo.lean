/- Regions whose order is drawn. -/
import Derived.Test.YthmocicjocjdoaaAn
import Derived.OrdersHeld
set_option linter.unusedVariables false
set_option linter.unusedSimpArgs false
namespace Go.Proofs.Ythmocicjocjdoaa.V
open Go
variable {P : Program} {L : LoopM} {T : Tab} {F : Fr} {E : E3} {objs : Os} {cl : Cl} {w : World}

def frzO (objs : Os) : Os := fun o => match objs o with | some (.frz c) => some (.frz c) | _ => none
theorem frz_objK (hI : WI F E objs cl w) : ObjK E (frzO objs) (Known E) := by
  intro o cs h
  have h2 : objs o = some (.frz cs) := by
    rcases h with h | h
    · unfold frzO at h; split at h <;> cases h
    · unfold frzO at h; split at h
      · rename_i c hc; cases h; exact hc
      · cases h
  obtain ⟨b, vs, g1, g2, g3, g4⟩ := hI.frz o cs h2
  refine ⟨b, vs, g1, g3, fun w' hw j v hj => hw.agree b j v ?_⟩
  have hlt : j < vs.length := by
    rcases Nat.lt_or_ge j vs.length with h | h
    · exact h
    · rw [List.getElem?_eq_none h] at hj; cases hj
  rw [g4 j hlt, hj]
theorem isP_load {M : Meaning} {t : Nat} {a : Operand} {x : AV} {k : AV → Prop} (hp : isP T (.load t a) [x] objs = true) (h : pureV (PA M) T (.load t a) [x] objs k) : pureV (PA M) T (.load t a) [x] (frzO objs) k := by
  cases x with
  | ref oo ii =>
    have hp2 : (match objs oo with | some (.frz _) => true | _ => false) = true := hp
    unfold pureV at h ⊢
    dsimp only at h ⊢
    cases ho : objs oo with
    | none => rw [ho] at hp2; cases hp2
    | some y =>
      cases y with
      | live c => rw [ho] at hp2; cases hp2
      | dead => rw [ho] at hp2; cases hp2
      | frz c =>
        have e : frzO objs oo = some (.frz c) := by simp [frzO, ho]
        rw [e]
        rw [ho] at h
        exact h
  | _ => exact h
theorem isP_pure {M : Meaning} {ρ : Operand → Value} (hT : TabOK P T) {d : Nat} {o : Oper} {vs : List AV} {k : AV → Os → Cl → Prop} (hO : ObjK E (frzO objs) (Known E)) (hp : isP T o.op vs objs = true) (hv : RepT E vs (o.op.operands.toList.map ρ))
    (h : opV (PA M) T d o.op vs objs cl k) : ∃ x v, k x objs cl ∧ Rep E x v ∧ ∀ w, Known E w → (execOp ρ o).run P w = .ok (.value v) w := by
  obtain ⟨dst, op, ty, pos, after, guard⟩ := o
  dsimp only at hp hv h
  have fin : pureV (PA M) T op vs (frzO objs) (fun v => k v objs cl) → ∃ x v, k x objs cl ∧ Rep E x v ∧ ∀ w, Known E w → (execOp ρ ⟨dst, op, ty, pos, after, guard⟩).run P w = .ok (.value v) w := fun h =>
    pureV_sound (W := Known E) (o := ⟨dst, op, ty, pos, after, guard⟩) hT (fun _ h => h) hO hv h
  unfold opV at h
  split at h
  all_goals first
    | (exfalso; simp [isP] at hp; done)
    | skip
  · rename_i s t xa x
    split at h
    · rename_i e b ht
      simp [isP, ht] at hp
    · simp only [Op.operands, List.map_cons, List.map_nil] at hv
      obtain ⟨u, e', hx⟩ := repT_one hv
      injection e' with e' _
      subst e'
      obtain ⟨x', v', g1, g2, g3⟩ := conv_sound (P := P) (W := Known E) hT (fun _ h => h) hx h
      exact ⟨x', v', g1, g2, fun w hw => by simp [execOp, g3 w hw]⟩
  · refine fin ?_
    unfold pureV at h ⊢
    split at h
    all_goals first
      | exact h
      | skip
    exact isP_load (M := M) hp h

theorem P_step (hT : TabOK P T) {ops : Array Oper} {o : Oper} {env : Ev} {a : Act} (hO : ObjK E (frzO objs) (Known E)) (hp : (match opvs env o.op.operands.toList with | some vs => !T.fz (o.dst.getD noDst) && isP T o.op vs objs | none => false) = true) (hE : EnvOK E env a) (hd : ∀ t, o.dst = some t → t < a.tmps.size) {M : Meaning}
    {k : Ev → Os → Cl → Prop} (h : stepV (PA M) T ops o env objs cl k) : ∃ v env', YieldsIf P ops (Known E) o v a ∧ EnvOK E env' (a.put o.dst v) ∧ k env' objs cl := by
  have run : orFail (PA M) (opvs env o.op.operands.toList) (fun vs => opV (PA M) T (o.dst.getD noDst) o.op vs objs cl fun v objs cl => bif T.fz (o.dst.getD noDst) then stillR (PA M) (rowsOf v) v cl fun v cl => k (setE env o.dst v) objs cl else k (setE env o.dst v) objs cl) → Region.wanted o (yielded ops a.tmps) = true → ∃ v env', YieldsIf P ops (Known E) o v a ∧ EnvOK E env' (a.put o.dst v) ∧ k env' objs cl := by
    intro h hw
    simp only [PA_orFail] at h
    obtain ⟨vs, hv, h⟩ := h
    rw [hv] at hp
    simp only [Bool.and_eq_true, Bool.not_eq_true'] at hp
    simp only [hp.1, cond_false] at h
    obtain ⟨x, v, g1, g2, g3⟩ := isP_pure hT hO hp.2 (opvs_rep hE hv) h
    exact ⟨v, _, .inl ⟨hw, g3⟩, hE.put hd g2, g1⟩
  unfold stepV at h
  cases hg : o.guard with
  | none =>
    simp only [hg] at h
    exact run h (by simp [Region.wanted, hg])
  | some gw =>
    obtain ⟨j, want⟩ := gw
    simp only [hg, PA_orFail] at h
    obtain ⟨t, ht, y, hy, h⟩ := h
    have skip : ∀ env, EnvOK E env a → Region.wanted o (yielded ops a.tmps) = false → k (setE env o.dst (.tup [])) objs cl → ∃ v env', YieldsIf P ops (Known E) o v a ∧ EnvOK E env' (a.put o.dst v) ∧ k env' objs cl :=
      fun env hE hw h => ⟨undef, _, .inr ⟨hw, rfl⟩, hE.put hd (x := .tup []) (by simp [Rep, RepT, undef]), h⟩
    cases hsk : isSkip y with
    | true =>
      have hy2 := isSkip_eq hsk
      subst hy2
      obtain ⟨h1, h2⟩ := hE t _ hy
      have h3 : a.tmps[t]? = some undef := by
        simp only [Rep, RepT] at h2
        obtain ⟨vs, e1, e2⟩ := h2
        subst e2
        rw [show (Value.tuple [].toArray : Value) = undef from rfl] at e1
        rw [← e1]
        simp [h1]
      have hyield : yielded ops a.tmps j = none := by
        unfold yielded
        have : (ops[j]?).bind (·.dst) = some t := by
          cases ho : ops[j]? with
          | none => rw [ho] at ht; cases ht
          | some g => rw [ho] at ht; exact ht
        rw [this]
        simp only [Option.bind_some, h3]
        rfl
      rw [hsk] at h
      exact skip _ hE (by simp [Region.wanted, hg, hyield]) h
    | false =>
    rw [hsk] at h
    simp only [cond_false, PA_asB] at h
    obtain ⟨b, rfl, h⟩ := h
    obtain ⟨h1, h2⟩ := hE t _ hy
    simp only [Rep] at h2
    have hyield : yielded ops a.tmps j = some b := by
      unfold yielded
      have : (ops[j]?).bind (·.dst) = some t := by
        cases ho : ops[j]? with
        | none => rw [ho] at ht; cases ht
        | some g => rw [ho] at ht; exact ht
      rw [this]
      have h3 : a.tmps[t]? = some (.bool b) := by
        rw [← h2]
        simp [h1]
      simp only [Option.bind_some, h3]
    have e : upd env t (.bool b) = env := guard_env hy
    cases b <;> cases want <;> simp only [cond_true, cond_false, e] at h
    · exact run (by simpa only [PA_orFail] using h) (by simp [Region.wanted, hg, hyield])
    · exact skip _ hE (by simp [Region.wanted, hg, hyield]) h
    · exact skip _ hE (by simp [Region.wanted, hg, hyield]) h
    · exact run (by simpa only [PA_orFail] using h) (by simp [Region.wanted, hg, hyield])

theorem wpAnyH_imp {md : Region.Mode} {ops : Array Oper} {Q : Exit → Act → World → Prop} {S S' : World → Prop} (hs : ∀ w, S w → S' w) : ∀ (fuel : Nat) (listed : Array Bool) (a : Act) (w : World), wpAnyH P md ops Q S fuel listed a w → wpAnyH P md ops Q S' fuel listed a w
  | 0, _, _, _, h => h
  | fuel + 1, _, _, _, h => ⟨h.1, fun i hi => wpOp_mono (fun a' w' h' => ⟨hs _ h'.1, wpAnyH_imp hs fuel _ a' w' h'.2⟩) (h.2 i hi)⟩

theorem allOf_mem {M : Meaning} {f : Nat → Prop} : ∀ {l : List Nat}, allOf (PA M) f l → ∀ i, i ∈ l → f i
  | [], _, i, hi => by cases hi
  | [j], h, i, hi => by simp at hi; subst hi; exact h
  | j :: j' :: l, h, i, hi => by
    simp only [allOf, PA_both] at h
    rcases List.mem_cons.1 hi with rfl | hi
    · exact h.1
    · exact allOf_mem h.2 i hi

theorem drawV_sound (hT : TabOK P T) (hF : FnOK P T) {ops : Array Oper} {Q : Exit → Act → World → Prop} {n : Nat} (hd : dstIn n ops = true) (hs : Region.noSelect ops = true) (hQ : ∀ c a w, ¬ Q (.panic c) a w) {k : Ev → Os → Cl → Prop}
    (hk : ∀ E' env' objs' cl' a' w', k env' objs' cl' → WI F E' objs' cl' w' → EnvOK E' env' a' → a'.defers = [] → a'.tmps.size = n → Q .normal a' w') :
    ∀ (fuel : Nat) (listed : Array Bool) {E : E3} {objs : Os} {cl : Cl} {w : World} {env : Ev} {a : Act}, WI F E objs cl w → EnvOK E env a → a.defers = [] → a.tmps.size = n → drawV (PA (SM P L)) T ops fuel listed env objs cl k → wpAnyH P .any ops Q (Known E) fuel listed a w
  | 0, listed, E, objs, cl, w, env, a, hI, hE, hdf, hn, h => by
    simp only [drawV, PA_lit, List.isEmpty_iff] at h
    exact ⟨h.1, hk E env objs cl a w h.2 hI hE hdf hn⟩
  | fuel + 1, listed, E, objs, cl, w, env, a, hI, hE, hdf, hn, h => by
    simp only [drawV] at h
    split at h
    · rename_i hr
      exact wpAnyH_done hr (hk E env objs cl a w h hI hE hdf hn) _
    · rename_i r rs hr
      split at h
      · rename_i i hfi
        simp only [PA_lit, PA_orFail] at h
        obtain ⟨hfree, o, ho, h⟩ := h
        have hp := List.find?_some hfi
        have hmem := List.mem_of_find?_eq_some hfi
        unfold isPnow at hp
        simp only [ho] at hp
        obtain ⟨v, env', g1, g2, g3⟩ := P_step (P := P) hT (frz_objK hI) hp hE (fun t ht => hn ▸ dstIn_spec hd ho ht) h
        refine wpAnyH_take ho hs hfree (by rw [hr]; simpa using hmem) (fun c a w h => absurd h (hQ _ _ _)) g1 hI.known ?_
        exact drawV_sound hT hF hd hs hQ hk fuel _ hI g2 (by rw [put_defs]; exact hdf) (by rw [put_size]; exact hn) g3
      · refine wpAnyH_all hr (by simp) fun i hi => ?_
        have h := allOf_mem h i hi
        simp only [PA_orFail] at h
        obtain ⟨o, ho, h⟩ := h
        refine stepV_sound hT hF ho hI hE hdf (fun t ht => hn ▸ dstIn_spec hd ho ht) h ?_
        intro E' env' objs' cl' a' w' g1 g2 g3 g4 g5 g6 _
        have : ∀ w, Known E' w → Known E w := fun w hw => ⟨fun b i v hv => hw.agree b i v (g6.S b i v hv)⟩
        exact ⟨this _ g2.known, wpAnyH_imp this _ _ _ _ (drawV_sound hT hF hd hs hQ hk fuel _ g2 g3 g4 (g5.trans hn) g1)⟩

theorem region_draw_sound (hT : TabOK P T) (hF : FnOK P T) (hm : P.follows .mixedOrders = true) {id : Nat} {ops : Array Oper} {Q : Exit → Act → World → Prop} {a : Act} {env : Ev} {k : Ev → Os → Cl → Prop} {n : Nat} (hd : dstIn n ops = true) (hs : Region.noSelect ops = true) (hQ : ∀ c a w, ¬ Q (.panic c) a w)
    (hI : WI F E objs cl w) (hE : EnvOK E env a) (hdf : a.defers = []) (hn : a.tmps.size = n) (h : drawV (PA (SM P L)) T ops ops.size (Array.replicate ops.size false) env objs cl k)
    (hk : ∀ E' env' objs' cl' a' w', k env' objs' cl' → WI F E' objs' cl' w' → EnvOK E' env' a' → a'.defers = [] → a'.tmps.size = n → Q .normal a' w') : (Code.region id ops true).wp P Q a w :=
  wp_region_held hm (drawV_sound hT hF hd hs hQ hk _ _ hI.drew hE hdf hn h)
end Go.Proofs.Ythmocicjocjdoaa.V
