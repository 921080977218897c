/- Every operation is sound. -/
import Derived.Test.YthmocicjocjdoaaAk
set_option linter.unusedVariables false
set_option linter.unusedSimpArgs false
namespace Go.Proofs.Ythmocicjocjdoaa.V
open Go
variable {P : Program} {L : LoopM} {T : Tab} {F : Fr} {E : E3} {objs : Os} {cl : Cl} {w : World}

def FnOK (P : Program) (T : Tab) : Prop := ∀ f, T.fn f = true → ∃ fn body, P.funcs[f]? = some fn ∧ fn.body = some body ∧ (fn.name == "runtime.NumGoroutine") = false

theorem demArgs_rep : ∀ {vs : List AV} {ts : List Nat} {us : List Value}, RepT E vs us → vs.length = ts.length → RepT E (demArgs T vs ts) us
  | [], [], us, h, _ => by simpa [demArgs] using h
  | [], t :: ts, us, h, hl => by simp at hl
  | v :: vs, [], us, h, hl => by simp at hl
  | v :: vs, t :: ts, us, h, hl => by
    simp only [RepT, demArgs] at h ⊢
    obtain ⟨u, r, rfl, h1, h2⟩ := h
    exact ⟨u, r, rfl, rep_demS h1, demArgs_rep h2 (by simpa using hl)⟩
theorem repT_flat {E E' : E3} (hS : ∀ b i v, E.S b i = some v → E'.S b i = some v) : ∀ {vs : List AV} {us : List Value}, vs.all AV.flat = true → RepT E vs us → RepT E' vs us
  | [], us, _, h => by simpa [RepT] using h
  | v :: vs, us, hf, h => by
    simp only [List.all_cons, Bool.and_eq_true] at hf
    simp only [RepT] at h ⊢
    obtain ⟨u, r, rfl, h1, h2⟩ := h
    exact ⟨u, r, rfl, h1.flat_mono hS hf.1, repT_flat hS hf.2 h2⟩
theorem resX_same {M : Meaning} : ∀ {shs : List Sh} {res : List AV} {k : List AV → Prop}, resX (PA M) shs res k → k res ∧ res.all AV.flat = true
  | [], res, k, h => by simp only [resX, PA_asN] at h; obtain ⟨rfl, h⟩ := h; exact ⟨h, rfl⟩
  | sh :: shs, res, k, h => by
    simp only [resX, PA_asC] at h
    obtain ⟨v, r, e, h⟩ := h
    have h := shape_same (k := fun v => lit (PA M) v.flat (resX (PA M) shs r fun vs => k (v :: vs))) h
    simp only [PA_lit] at h
    obtain ⟨h1, h2⟩ := resX_same (k := fun vs => k (v :: vs)) h.2
    rw [e]
    exact ⟨h1, by simp only [List.all_cons, Bool.and_eq_true]; exact ⟨h.1, h2⟩⟩

theorem frR_flat : ∀ {l : List AV} {j : Nat}, l.all AV.flat = true → frR j l = l
  | [], j, _ => rfl
  | v :: l, j, h => by
    simp only [List.all_cons, Bool.and_eq_true] at h
    simp only [frR, fr1_flat h.1, frR_flat h.2]
theorem callx_sound (h : WI F E objs cl w) {f : Nat} {vs : List AV} {us : List Value} {caps : List AV} {cs : List Value} {ts : List Nat} {k : AV → Os → Cl → Prop} (hv : RepT E vs us) (hcap : RepL E caps cs) (hcf : caps.all AV.flat1 = true)
    (hf : (demArgs T vs ts).all AV.flat = true) (hl : vs.length = ts.length) (hx : (PA (SM P L)).callx f (demArgs T vs ts ++ caps) fun res => resX (PA (SM P L)) (T.res f) res fun vs => k (one1 vs) objs cl) :
    CallDoes P F E f (us ++ cs).toArray w k := by
  obtain ⟨res, hsem, hk⟩ := hx
  obtain ⟨hk, hrf⟩ := resX_same (k := fun vs => k (one1 vs) objs cl) hk
  let Fc : Fr := ⟨w, fun _ => False, E.S, fun _ => none, fun _ _ h => by cases h⟩
  let Ec : E3 := ⟨E.S, fun _ => none, fun _ => none⟩
  have h2 : WI Fc Ec (objsOf []) (fun _ => none) w :=
    ⟨h.agree, (by intro o cs ho; cases ho), (by intro o cs ho; cases ho), (by intro q hq; cases hq), (by intro q l hq; cases hq), (by intro o o' cs cs' b ho; cases ho), (by intro q q' v v' s s' g hq; cases hq),
      (by intro o cs b q v s ho; cases ho), (by intro o b ho; cases ho), (by intro q x hq; cases hq), ⟨rfl, rfl, rfl, Nat.le_refl _, fun _ _ _ => rfl⟩, fun _ _ _ h => h, fun _ _ _ h => .inl h, (by intro j b c hj; cases hj)⟩
  have hargs : RepT Ec (demArgs T vs ts ++ caps) (us ++ cs) :=
    repT_append (repT_flat (E := E) (E' := Ec) (fun _ _ _ h => h) hf (demArgs_rep hv hl)) (repT_of_repL (RepL.flat_mono (E := E) (F := Ec) (fun _ _ _ h => h) hcf hcap))
  have hcall : Sem P f (demArgs T vs ts ++ caps) [] (fun r o => r = res ∧ o = []) := hsem
  have haf : (demArgs T vs ts ++ caps).all AV.flat = true := by
    rw [List.all_append, hf, Bool.true_and]
    rw [List.all_eq_true] at hcf ⊢
    exact fun x hx => flat_of_flat1 (hcf x hx)
  refine (hcall Fc Ec (fun _ => none) w (us ++ cs).toArray rfl rfl rfl (by rw [frA_flat haf]; simpa using hargs) h2 (by intro j cs hp; cases hp) (fun j x e => named1_flat (List.all_eq_true.1 haf _ (List.mem_of_getElem? e)))).mono ?_
  rintro e w' ⟨v, res', outs, E', cl', rfl, ⟨rfl, rfl⟩, hr, hW, _, _, _⟩
  obtain ⟨hA, hAle⟩ := h.after (Fc := Fc) rfl rfl (fun g hg => hg.elim) hW
  rw [frR_flat hrf] at hr
  obtain ⟨rs, hrs, hvr⟩ := rep_res hr
  refine ⟨v, _, one1 res', objs, cl, rfl, hk, hAle, ?_, hA⟩
  rw [hvr]
  exact rep_back (repT_flat (E := E') (E' := { E with S := E'.S }) (fun _ _ _ h => h) hrf hrs)

theorem enter_sound (hF : FnOK P T) {f : Nat} (hf : T.fn f = true) {a : Act} {o : Oper} {fo : Operand} {args : Array Operand} {ats : Array TypeId} (ho : o.op = .call { callee := .value fo, args := args, argTypes := ats }) {cs : List Value}
    (hv : a.eval fo = .func (.func f) #[] cs.toArray) {k : AV → Os → Cl → Prop} (h : CallDoes P F E f ((args.toList.map a.eval) ++ cs).toArray w k) {next : Act → World → Prop} {Q : Exit → Act → World → Prop}
    (hn : ∀ E' x v objs' cl' w', k x objs' cl' → E.le E' → Rep E' x v → WI F E' objs' cl' w' → next (a.put o.dst v) w') : o.wp P a w next Q := by
  obtain ⟨fn, body, h1, h2, h3⟩ := hF f hf
  have hrun : (execOp a.eval o).run P w = .ok (.enter f ((args.toList.map a.eval) ++ cs).toArray) w := by
    have e : (args.map a.eval ++ cs.toArray) = ((args.toList.map a.eval) ++ cs).toArray := by apply Array.ext'; simp
    have h2' : fn.body.isNone = false := by rw [h2]; rfl
    have h3' : ¬ fn.name = "runtime.NumGoroutine" := by simpa using h3
    unfold execOp
    simp only [ho]
    simp [resolve, hv, Deferred.ofValue, invoke, callFunc, h1, h3', h2, e]
  unfold Oper.wp
  rw [hrun, Oper.upon_enter]
  refine h.mono ?_
  rintro e w' ⟨v, E', x, objs', cl', rfl, g1, g2, g3, g4⟩
  exact hn E' x v objs' cl' w' g1 g2 g3 g4

theorem does_sound {a : Act} {o : Oper} {k : AV → Os → Cl → Prop} (h : Does P F E a.eval o w k) {next : Act → World → Prop} {Q : Exit → Act → World → Prop}
    (hn : ∀ E' x v objs' cl' w', k x objs' cl' → E.le E' → Rep E' x v → WI F E' objs' cl' w' → next (a.put o.dst v) w') : o.wp P a w next Q := by
  obtain ⟨E', x, v, objs', cl', w', h1, h2, h3, h4, h5⟩ := h
  unfold Oper.wp
  rcases h5 with h5 | ⟨h5, rfl⟩
  · rw [h5, Oper.upon_value]; exact hn E' x v objs' cl' w' h1 h2 h3 h4
  · rw [h5, Oper.upon_skip]; exact hn E' x undef objs' cl' w' h1 h2 h3 h4

/-- What is asked of what is appended holds whatever it is. -/
theorem srcV_and {M : Meaning} {sz : Nat} {y : AV} {cl : Cl} {p : Prop} {k : List AV → Prop} (h : srcV (PA M) sz y cl fun r => p ∧ k r) : p ∧ srcV (PA M) sz y cl k := by
  unfold srcV at h ⊢
  split at h
  · simp only [PA_lit] at h ⊢
    exact ⟨h.2.1, h.1, h.2.2⟩
  · simp only [PA_lit, PA_asRow] at h ⊢
    obtain ⟨h1, r, h2, h3, h4, h5⟩ := h
    exact ⟨h4, h1, r, h2, h3, h5⟩
  · exact h.elim
theorem srcV_all (hI : WI F E objs cl w) {M : Meaning} {sz : Nat} {y : AV} {k : List AV → Prop} (hsz : 0 < sz) (h : srcV (PA M) sz y cl k) :
    ∃ r, (∀ v, Rep E y v → ∃ news, Src P w sz r.length v news ∧ SrcE E sz r news) ∧ k r := by
  have h' := h
  unfold srcV at h
  split at h
  · rename_i m' w' r
    simp only [PA_lit] at h
    refine ⟨r, fun v hv => ?_, h.2⟩
    obtain ⟨r', news, e, h1, h2⟩ := srcV_sound (P := P) (M := M) (k := fun r' => r' = r) hI hv hsz (by unfold srcV; simp only [PA_lit]; exact ⟨h.1, trivial⟩)
    subst e
    exact ⟨news, h1, h2⟩
  · rename_i q w'
    simp only [PA_lit, PA_asRow] at h
    obtain ⟨g1, r, g2, g3, g4⟩ := h
    refine ⟨r, fun v hv => ?_, g4⟩
    obtain ⟨r', news, e, h1, h2⟩ := srcV_sound (P := P) (M := M) (k := fun r' => r' = r) hI hv hsz (by unfold srcV; simp only [PA_lit, PA_asRow]; exact ⟨g1, r, g2, g3, rfl⟩)
    subst e
    exact ⟨news, h1, h2⟩
  · exact h.elim
theorem stillR_sound {M : Meaning} : ∀ {qs : List Nm} {E : E3} {x : AV} {v : Value} {cl : Cl} {k : AV → Cl → Prop}, WI F E objs cl w → Rep E x v → stillR (PA M) qs x cl k →
    ∃ E' x' cl', k x' cl' ∧ E.le E' ∧ Rep E' x' v ∧ WI F E' objs cl' w
  | [], E, x, v, cl, k, hI, hx, h => ⟨E, x, cl, h, E3.le.refl E, hx, hI⟩
  | q :: qs, E, x, v, cl, k, hI, hx, h => by
    simp only [stillR, PA_asRow, PA_lit] at h
    obtain ⟨l, hq, hf, h⟩ := h
    obtain ⟨E', h1, h2, h3, h4, h5⟩ := hI.row_still hq hf
    obtain ⟨E'', x', cl', g1, g2, g3, g4⟩ := stillR_sound h4 (rep_fzW h1 h5 hx) h
    exact ⟨E'', x', cl', g1, h1.trans g2, g3, g4⟩
theorem lit_iff {M : Meaning} {b : Bool} {x : Prop} : lit (PA M) b x ↔ (b = true ∧ x) := by simp
set_option maxHeartbeats 2000000 in
theorem opV_sound (hT : TabOK P T) (hF : FnOK P T) (hI : WI F E objs cl w) {a : Act} {o : Oper} {d : Nat} {vs : List AV} {k : AV → Os → Cl → Prop} (hv : RepT E vs (o.op.operands.toList.map a.eval))
    (h : opV (PA (SM P L)) T d o.op vs objs cl k) {next : Act → World → Prop} {Q : Exit → Act → World → Prop}
    (hn : ∀ E' x v objs' cl' w', k x objs' cl' → E.le E' → Rep E' x v → WI F E' objs' cl' w' → next (a.put o.dst v) w') : o.wp P a w next Q := by
  obtain ⟨dst, op, ty, pos, after, guard⟩ := o
  dsimp only at hv h hn
  have pure : pureV (PA (SM P L)) T op vs objs (fun v => k v objs cl) → Does P F E a.eval ⟨dst, op, ty, pos, after, guard⟩ w k := by
    intro h
    obtain ⟨x, v, h1, h2, h3⟩ := pureV_sound (W := (· = w)) (o := ⟨dst, op, ty, pos, after, guard⟩) hT (by rintro w' rfl; exact hI.known) hI.objK hv h
    exact ⟨E, x, v, objs, cl, w, h1, E3.le.refl E, h2, hI, .inl (h3 w rfl)⟩
  unfold opV at h
  split at h
  · rename_i t
    simp only [PA_lit, Bool.and_eq_true, Bool.not_eq_true'] at h
    obtain ⟨⟨hk, hz⟩, h⟩ := h
    obtain ⟨hd, h⟩ := fresh_iff.1 h
    exact does_sound (alloc_sound hT hI hk hz hd h) hn
  · rename_i t x xa
    simp only [Op.operands, List.map_cons, List.map_nil] at hv
    obtain ⟨u, e, hx⟩ := repT_one hv
    injection e with e _; subst e
    exact does_sound (box_sound hI hx h) hn
  · rename_i t aa xx av xv
    simp only [Op.operands, List.map_cons, List.map_nil] at hv
    obtain ⟨u1, u2, e, h1, h2⟩ := repT_two hv
    injection e with e1 e; injection e with e2 _
    subst e1; subst e2
    split at h
    · split at h
      · rename_i l hl
        exact does_sound (store_sound hT hI h1 h2 hl h) hn
      · cases h
    · rename_i q wd i j
      simp only [PA_asRow, PA_nthE] at h
      obtain ⟨l, hq, e, he, h⟩ := h
      exact does_sound (storeRow_sound hT hI h1 h2 hq he h) hn
    · cases h
  · rename_i t xa q wd i j
    simp only [Op.operands, List.map_cons, List.map_nil] at hv
    obtain ⟨u, e, hx⟩ := repT_one hv
    injection e with e _; subst e
    simp only [PA_asRow, PA_nthE] at h
    obtain ⟨l, hq, e, he, h⟩ := h
    exact does_sound (loadRow_sound hT hI hx hq he h) hn
  · rename_i t xa xb q wd ik n
    simp only [Op.operands, List.map_cons, List.map_nil] at hv
    obtain ⟨u1, u2, e, h1, h2⟩ := repT_two hv
    injection e with e1 e; injection e with e2 _
    subst e1; subst e2
    split at h
    · rename_i el ht
      simp only [PA_lit, PA_asRow, PA_idxN, Bool.and_eq_true, Nat.beq_eq] at h
      obtain ⟨⟨hw, hk⟩, l, hq, ⟨h0, hlt⟩, h⟩ := h
      exact does_sound (indexRow_sound hT hI h1 h2 ht hw hk hq h0 hlt h) hn
    · cases h
  · rename_i t xa xb n c
    simp only [Op.operands, List.map_cons, List.map_nil] at hv
    obtain ⟨u1, u2, e, h1, h2⟩ := repT_two hv
    injection e with e1 e; injection e with e2 _
    subst e1; subst e2
    split at h
    · rename_i el ht
      simp only [PA_lit, PA_chk, Bool.and_eq_true, Nat.blt_eq, Bool.not_eq_true', decide_eq_true_eq] at h
      obtain ⟨⟨⟨⟨⟨q1, q2⟩, q3⟩, q4⟩, q5⟩, ⟨⟨h0, hnc⟩, hc⟩, h⟩ := h
      obtain ⟨hd, h⟩ := freshN_iff.1 h
      exact does_sound (makeSlice_sound hT hI h1 h2 ht q1 q2 q3 q4 q5 h0 hnc hc hd h) hn
    · cases h
  · rename_i vs' t len parts
    split at h
    · rename_i e ht
      cases hl0 : Nat.beq len 0 with
      | true =>
        have := Nat.eq_of_beq_eq_true hl0
        subst this
        rw [hl0] at h
        simp only [cond_true, PA_lit, Bool.and_eq_true, Nat.blt_eq] at h
        obtain ⟨⟨⟨q1, q2⟩, q3⟩, h⟩ := h
        have hp : parts = #[] := by simpa using q1
        subst hp
        exact does_sound (buildSlice0_sound (d := d) hT hI ht q2 q3 h) hn
      | false =>
      rw [hl0] at h
      simp only [cond_false, PA_lit, Bool.and_eq_true, Nat.blt_eq, Nat.ble_eq, Bool.not_eq_true'] at h
      obtain ⟨⟨⟨⟨⟨⟨q1, q2⟩, q3⟩, q4⟩, q5⟩, q6⟩, h⟩ := h
      refine does_sound (buildSlice_sound hT hI ht ?_ q1 q2 q3 q4 q5 q6 h) hn
      simpa [Op.operands, Function.comp_def] using hv
    · cases h
  · rename_i f first caps
    simp only [PA_lit] at h
    obtain ⟨hfe, h⟩ := h
    have hfirst : first = #[] := by simpa using hfe
    subst hfirst
    simp only [Op.operands, Array.empty_append] at hv
    obtain ⟨E', cs, objs', g1, g2, g3, g4, g5⟩ := capsV_sound _ _ _ _ hI hv h
    refine does_sound ⟨E', _, .func (.func f) #[] (caps.toList.map a.eval).toArray, objs', cl, w, g1, g2, ?_, g3, .inl ?_⟩ hn
    · simp only [Rep]
      exact ⟨_, rfl, g5, g4⟩
    · have e : Array.map a.eval caps = (caps.toList.map a.eval).toArray := by apply Array.ext'; simp
      simp [execOp, Instr.makeFunc, e]
  · rename_i args ats x y
    split at h
    · rename_i t u ts hts
      split at h
      · rename_i e ht
        have hv' : RepT E [x, y] (args.toList.map a.eval) := by simpa [Op.operands, Call.operands] using hv
        dsimp only at h
        simp only [PA_lit, Bool.and_eq_true, Bool.not_eq_true'] at h
        obtain ⟨⟨hk, hz⟩, h⟩ := h
        split at h
        · rename_i s
          simp only [PA_lit, Bool.and_eq_true, Nat.beq_eq] at h
          obtain ⟨⟨⟨⟨hu8, hstr⟩, hsz⟩, hby⟩, h⟩ := h
          have hus : (T.ty u).k = .str := by unfold isStr at hstr; split at hstr <;> simp_all
          refine does_sound (appV_sound (n := s.length) (r := encB s) (uq := T.uq d) (d := d) hT hI hv' hts ht (by simp [encB]) ⟨_, hT.str hus, .inr rfl⟩ hk hz (by omega) (by omega) ?_ (by rw [hsz, hby]; simpa using h)) hn
          intro v hv
          rw [hsz]
          exact ⟨_, src_of_str hv⟩
        · have hv2 := hv'
          simp only [RepT] at hv2
          obtain ⟨sv, r0, e0, _, yv, r1, e1, hyr, _⟩ := hv2
          obtain ⟨hq2, h9⟩ := srcV_and (by simpa only [PA_lit] using h)
          clear h
          simp only [Bool.and_eq_true, Nat.beq_eq, Nat.blt_eq] at hq2
          obtain ⟨⟨htu, hsz⟩, hby⟩ := hq2
          subst htu
          obtain ⟨r, hr, h8⟩ := srcV_all (P := P) hI hsz h9
          exact does_sound (appV_sound (n := r.length) (r := r) (uq := T.uq d) (d := d) hT hI hv' hts ht rfl ⟨_, hT.slice ht, .inl ⟨_, rfl⟩⟩ hk hz hsz hby hr h8) hn
      · cases h
    · cases h
  · rename_i args ats q wd y
    split at h
    · rename_i t u ts hts
      split at h
      · rename_i e ht
        have hv' : RepT E [.sq q wd, y] (args.toList.map a.eval) := by simpa [Op.operands, Call.operands] using hv
        simp only [PA_lit, PA_asRow, Bool.and_eq_true, Nat.beq_eq, Nat.blt_eq] at h
        obtain ⟨⟨⟨⟨htu, hw⟩, hsz⟩, hk⟩, l, hq, h⟩ := h
        exact does_sound (copyRow_sound hT hI hv' hts ht hw hsz hk hq h) hn
      · cases h
    · cases h
  · rename_i args ats q wd
    split at h
    · rename_i t hts
      split at h
      · rename_i e ht
        simp only [PA_asRow, PA_asm] at h
        obtain ⟨l, hq, h⟩ := h
        exact does_sound (lenRow_sound hT hI (by simpa [Op.operands, Call.operands] using hv) hts ht hq h) hn
      · cases h
    · cases h
  · rename_i s t xa q wd
    simp only [Op.operands, List.map_cons, List.map_nil] at hv
    obtain ⟨u, e', hx⟩ := repT_one hv
    injection e' with e' _
    subst e'
    split at h
    · rename_i ht
      simp only [PA_lit, PA_asRow, PA_orFail, Bool.and_eq_true, Nat.beq_eq] at h
      obtain ⟨⟨hu, hw⟩, l, hq, b, hb, h⟩ := h
      subst hw
      exact does_sound (strRow_sound hT hI hx ht hu hq hb h) hn
    · cases h
  · rename_i s t xa x
    split at h
    · rename_i e b ht
      simp only [PA_lit, Bool.and_eq_true] at h
      obtain ⟨⟨hu, hk⟩, h⟩ := h
      simp only [Op.operands, List.map_cons, List.map_nil] at hv
      obtain ⟨u, e', hx⟩ := repT_one hv
      injection e' with e' _
      subst e'
      exact does_sound (bytes_sound hT hI hx hu hk h) hn
    · simp only [Op.operands, List.map_cons, List.map_nil] at hv
      obtain ⟨u, e', hx⟩ := repT_one hv
      injection e' with e' _
      subst e'
      obtain ⟨x', v', g1, g2, g3⟩ := conv_sound (P := P) (W := (· = w)) hT (by rintro w' rfl; exact hI.known) hx h
      exact does_sound ⟨E, x', v', objs, cl, w, g1, E3.le.refl E, g2, hI, .inl (by simp [execOp, g3 w rfl])⟩ hn
  · rename_i fo args ats fv vs'
    split at h
    · rename_i f caps
      simp only [PA_lit, Bool.and_eq_true] at h
      obtain ⟨⟨hfn, hcf⟩, h⟩ := h
      simp only [Op.operands, Call.operands, Array.toList_append, List.map_append, List.map_cons, List.map_nil, List.cons_append, List.nil_append] at hv
      simp only [RepT] at hv
      obtain ⟨u, r, e, hx, hr⟩ := hv
      injection e with e1 e2
      subst e2
      simp only [Rep] at hx
      obtain ⟨cs, hx, _, hcap⟩ := hx
      rw [hx] at e1
      refine enter_sound hF hfn (o := ⟨dst, .call { callee := .value fo, args := args, argTypes := ats }, ty, pos, after, guard⟩) rfl e1 ?_ hn
      cases hb : (vs'.any holdsRef || (T.res f).any Sh.owned || (T.ash f).any Sh.owned) with
      | true =>
        rw [hb] at h
        exact call_sound hI hr hcap hcf h
      | false =>
        rw [hb] at h
        simp only [cond_false, PA_lit, Bool.and_eq_true, Nat.beq_eq] at h
        exact callx_sound hI hr hcap hcf h.1.1 h.1.2 h.2
    · cases h
  · exact does_sound (pure h) hn
end Go.Proofs.Ythmocicjocjdoaa.V
