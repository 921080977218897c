/- A law's row, generic over the program: what is to be shown is what the evaluator's limit says of the law's function. -/
import Derived.Test.YthmocicjocjdoaaBd
import Derived.JoinedCond
import Derived.OpenShut
set_option linter.unusedVariables false
set_option linter.unusedSimpArgs false
namespace Go.Proofs.Ythmocicjocjdoaa.V
open Go Go.ChangeShapes Go.WideShapes Go.ChangeAt Go.RowKit
variable {H : Type} {enc : TypeId × Value → H} {P : Program} {T : Tab}
/-- The interpreter's values for what a row reads. -/
abbrev FitAll (T : Tab) (m : Nat) (ts : List Nat) (ds : List (DataW H)) (xs : List AV) : Prop := Each3 (fun t d x => ∃ ys, Fit T m t d ys ∧ ElemOf (T.ty t) x ys) ts ds xs
theorem okWide_agg (hT : TabOK P T) {m t base : Nat} {W : World} {v : Value} (hk : fitTy T m t = true) (h : Value.okWide P W .any base t v) : ((T.ty t).isAgg = true → ∃ cs, v = .agg cs) ∧ ((T.ty t).isAgg = false → v.oneCell' = true ∧ v.cells.toList = [v]) := by
  cases m with
  | zero => cases hk
  | succ m =>
    simp only [fitTy, Bool.and_eq_true] at hk
    have hd := (hT t).desc
    unfold TD.isAgg
    have hk := hk.2
    cases hh : (T.ty t).k <;> rw [hh] at hd hk <;> simp at hk ⊢
    · unfold Value.okWide Cell.okWide at h; simp only [hd] at h; unfold Cell.ok at h; simp only [hd] at h; cases v <;> first | exact h.elim | exact ⟨rfl, rfl⟩
    · unfold Value.okWide Cell.okWide at h; simp only [hd] at h; unfold Cell.ok at h; simp only [hd] at h; cases v <;> first | exact h.elim | exact ⟨rfl, rfl⟩
    · unfold Value.okWide Cell.okWide at h; simp only [hd] at h; unfold Cell.ok at h; simp only [hd] at h; cases v <;> first | exact h.elim | exact ⟨rfl, rfl⟩
    · unfold Value.okWide Cell.okWide at h; simp only [hd] at h; unfold Cell.ok at h; simp only [hd] at h; cases v <;> first | exact h.elim | exact ⟨rfl, rfl⟩
    · obtain ⟨fields, hu, _⟩ := hd
      unfold Value.okWide at h
      simp only [hu] at h
      obtain ⟨cs, e, _⟩ := h
      exact ⟨cs, e⟩
theorem args_fit (hT : TabOK P T) {W : World} {m base : Nat} : ∀ (ts : List Nat) (vs : List Value) (ds : List (DataW H)) (ps : List MemPlace), (ts.all fun t => fitTy T m t) = true → (∀ (j : Nat) t v, ts[j]? = some t → vs[j]? = some v → Value.okWide P W .any base t v) →
    DataW.TrodAll enc P W 0 (fun _ => true) true ts vs ds ps → ∃ xs, RepT (snapE W) xs vs ∧ xs.all AV.flat = true ∧ FitAll T m ts ds xs
  | [], [], [], ps, _, _, h => ⟨[], by simp [RepT], rfl, trivial⟩
  | t :: ts, v :: vs, d :: ds, ps, hk, hv, h => by
    simp only [List.all_cons, Bool.and_eq_true] at hk
    obtain ⟨p, q, ⟨fuel, h1⟩, h2, _⟩ := h
    obtain ⟨xs, g1, g2, g3⟩ := args_fit hT ts vs ds q hk.2 (fun j t v a b => hv (j + 1) t v (by simpa using a) (by simpa using b)) h2
    obtain ⟨ys, q1, q2, q3⟩ := trod_fit hT m fuel t _ d p hk.1 h1
    have ho := okWide_agg hT hk.1 (hv 0 t v rfl rfl)
    cases ha : (T.ty t).isAgg with
    | true =>
      obtain ⟨cs, rfl⟩ := ho.1 ha
      refine ⟨.agg ys :: xs, ?_, by simp [AV.flat, q2, g2], ⟨ys, q3, by simp [ElemOf, ha]⟩, g3⟩
      simp only [RepT]
      refine ⟨_, _, rfl, ?_, g1⟩
      rw [Rep]
      exact ⟨cs.toList, by simp, by simpa [Value.cells] using q1⟩
    | false =>
      obtain ⟨h3, h4⟩ := ho.2 ha
      rw [h4] at q1
      have hl := q1.length
      match ys, hl with
      | [y], _ =>
        simp only [RepL] at q1
        obtain ⟨v', r, e, a1, a2, a3, a4⟩ := q1
        cases e
        refine ⟨y :: xs, ?_, ?_, ⟨[y], q3, by simp [ElemOf, ha]⟩, g3⟩
        · simp only [RepT]
          exact ⟨_, _, rfl, a3, g1⟩
        · simp only [List.all_cons, List.all_nil, Bool.and_true, Bool.and_eq_true] at q2 ⊢
          refine ⟨?_, g2⟩
          cases y <;> first | exact q2 | (simp [AV.flat1] at q2)
  | [], [], _ :: _, _, _, _, h => h.elim
  | [], _ :: _, _, _, _, _, h => by cases ‹List (DataW H)› <;> exact h.elim
  | _ :: _, [], _, _, _, _, h => by cases ‹List (DataW H)› <;> exact h.elim
  | _ :: _, _ :: _, [], _, _, _, h => h.elim
/-- A law, called. -/
theorem law_calls {E : Env} (hE : EnvOK' E) {W : World} {m base f : Nat} {ts : List Nat} {args : Array Value} {ds : List (DataW H)} {ps : List MemPlace} (hk : (ts.all fun t => fitTy E.T m t) = true)
    (hv : ∀ (j : Nat) t v, ts[j]? = some t → args.toList[j]? = some v → Value.okWide E.P W .any base t v) (hA : DataW.TrodAll enc E.P W 0 (fun _ => true) true ts args.toList ds ps)
    (hlaw : ∀ xs, FitAll E.T m ts ds xs → tbl E f xs [] = some ([.bool true], [])) : Calls E.P f args W fun e W' => e = .returned (.bool true) ∧ Below W.heap.size W W' := by
  obtain ⟨xs, h1, h2, h3⟩ := args_fit hE.T ts args.toList ds ps hk hv hA
  have hs := tbl_sound hE (hlaw xs h3)
  have hI : WI ⟨W, fun _ => False, (snapE W).S, fun _ => none, fun _ _ h => by cases h⟩ (snapE W) (objsOf []) (fun _ => none) W := by
    refine ⟨fun _ _ _ h => h, ?_, ?_, ?_, ?_, ?_, ?_, ?_, ?_, ?_, ⟨rfl, rfl, rfl, Nat.le_refl _, fun _ _ _ => rfl⟩, fun _ _ _ h => h, fun _ _ _ h => .inl h, ?_⟩
    · intro o cs h; cases h
    · intro o cs h; cases h
    · intro q h; cases h
    · intro q l h; cases h
    · intro o o' cs cs' b h; cases h
    · intro q q' v v' s s' g h; cases h
    · intro o cs b q v s h; cases h
    · intro o b h; cases h
    · intro q x h; cases h
    · intro j b cs h; cases h
  refine (hs ⟨W, fun _ => False, (snapE W).S, fun _ => none, fun _ _ h => by cases h⟩ (snapE W) (fun _ => none) W args rfl rfl rfl (by rw [frA_flat h2]; exact h1) hI (fun j cs h => by cases h) (fun j x e => named1_flat (List.all_eq_true.1 h2 _ (List.mem_of_getElem? e)))).mono ?_
  rintro e W' ⟨v, res, outs, E', cl', g1, ⟨g2, g3⟩, g4, g5, _⟩
  subst g2
  rw [show one1 (frR 0 [AV.bool true]) = .bool true from rfl, Rep] at g4
  subst g4
  exact ⟨g1, g5.step.os, g5.step.tape, g5.step.output, g5.step.size, fun k hk => g5.step.block k hk id⟩
/-- Below the heap's old size nothing has turned: the arguments read as they did. -/
theorem trodAll_below (hl : laidOutB P = true) {W W' : World} (hb : Below W.heap.size W W') : ∀ {ts : List TypeId} {vs : List Value} {ds : List (DataW H)} {ps : List MemPlace}, (ts.all fun t => P.readableRec t && decide (t < P.types.size)) = true →
    DataW.TrodAll enc P W 0 (fun _ => true) true ts vs ds ps → DataW.TrodAll enc P W' 0 (fun b => decide (b < W.heap.size)) true ts vs ds ps
  | [], [], [], ps, _, h => h
  | t :: ts, v :: vs, d :: ds, ps, hk, h => by
    simp only [List.all_cons, Bool.and_eq_true, decide_eq_true_eq] at hk
    obtain ⟨p, q, h1, h2, e⟩ := h
    refine ⟨p, q, Below.trod hl hk.1.1 hk.1.2 h1 hb ?_, trodAll_below hl hb (by simpa using hk.2) h2, e⟩
    obtain ⟨n, h1⟩ := h1
    exact DataW.trod_lt n _ _ _ h1
  | [], [], _ :: _, _, _, h => h.elim
  | [], _ :: _, _, _, _, h => by cases ‹List (DataW H)› <;> exact h.elim
  | _ :: _, [], _, _, _, h => by cases ‹List (DataW H)› <;> exact h.elim
  | _ :: _, _ :: _, [], _, _, h => h.elim
/-- A law's row behind the call. -/
theorem law_post {f : Func} {s : ChangeSpec} {W W' : World} {args : Array Value} {ds : List (DataW H)} {before p : List MemPlace} {tb : TypeId} (hl : laidOutB P = true) (hr : (f.params.toList.all fun t => P.readableRec t && decide (t < P.types.size)) = true)
    (hres : f.resultTypes = #[tb]) (htb : P.underlying tb = some .bool) (hv : s.vars = []) (hs : s.fn H (ds ++ []) = { results := [.lit (.bool true)], args := ds }) (hW : DataW.Whole enc P f.params.toList s.vars false W args.toList ds [] before) (hA : DataW.TrodAll enc P W 0 (fun _ => true) true f.params.toList args.toList ds p) (hb : Below W.heap.size W W') :
    s.post enc P f false true false false W args (.bool true) W' := by
  refine ⟨ds, [], before, [], p, [], hW, ?_, ?_, ?_, hb.frame _, fun h => by cases h⟩
  · rw [hres, hs]
    exact trodAll_mk1 (shut_bool htb true)
  · rw [hs]
    exact trodAll_below hl hb hr hA
  · rw [hs, hv]
    rfl
end Go.Proofs.Ythmocicjocjdoaa.V
