/- Pure operations are sound: what the interpreter says they yield stands for what the machine yields. -/
import Derived.Test.YthmocicjocjdoaaAd
set_option linter.unusedVariables false
set_option linter.unusedSimpArgs false
namespace Go.Proofs.Ythmocicjocjdoaa.V
open Go
variable {P : Program} {T : Tab} {M : Meaning} {E : E3} {w : World} {W : World → Prop}

theorem add_off (b off n : Nat) : (⟨b, off, none⟩ : Addr).add n = ⟨b, off + n, none⟩ := by unfold Addr.add; split <;> simp_all

theorem rep_int {k : IntKind} {n : Int} : Rep E (.int k n) (.int k n) := by simp [Rep]
theorem rep_bool {b : Bool} : Rep E (.bool b) (.bool b) := by simp [Rep]
theorem rep_str {s : List UInt8} (h : s.length ≤ maxL) : Rep E (.str s) (.string ⟨s.toArray⟩) := by simp only [Rep]; exact ⟨trivial, h⟩
theorem eqB_iff {op : BinOp} {b : Bool} {k : AV → Prop} (h : eqB (PA M) op b k) : (op = .eql ∧ k (.bool b)) ∨ (op = .neq ∧ k (.bool (!b))) := by
  cases op <;> simp [eqB] at h ⊢ <;> exact h

/-- What is known of a pointed-to place. -/
structure Known (E : E3) (w : World) : Prop where
  agree : ∀ b i v, E.S b i = some v → w.cell? ⟨b, i, none⟩ = some v

theorem eqIn_ptr (d : Nat) {t e : Nat} (hu : P.underlying t = some (.pointer e)) (p : Option Addr) : (Op.equalIn (d + 1) t (.pointer p) (.pointer none)).run P w = .ok p.isNone w := by
  cases p <;> simp [Op.equalIn, run_underlying hu]
theorem eqIn_slice (d : Nat) {t e : Nat} (hu : P.underlying t = some (.slice e)) (a : Option Addr) (n c n' c' : Nat) : (Op.equalIn (d + 1) t (.slice a n c) (.slice none n' c')).run P w = .ok a.isNone w := by
  cases a <;> simp [Op.equalIn, run_underlying hu]
set_option maxHeartbeats 1000000 in
theorem bin_sound (hT : TabOK P T) {t : Nat} {op : BinOp} {xo yo : Operand} {x y : AV} {u v : Value} {k : AV → Prop} (hx : Rep E x u) (hy : Rep E y v) (h : bin (PA M) (T.ty t) op x y k) :
    Gives P E W (do eqGuard op t xo yo u v; binOp op t u v) k := by
  unfold bin at h
  split at h
  · -- whole numbers
    rename_i ik a jk b
    simp only [Rep] at hx hy
    subst hx; subst hy
    have hg : ∀ w, (eqGuard op t xo yo (.int ik a) (.int jk b)).run P w = .ok () w := by intro w; unfold eqGuard; cases op <;> simp
    split at h
    · simp only [PA_chk, decide_eq_true_eq] at h
      refine gives _ (.int ik (ik.wrap (a * 2 ^ (min b.toNat ik.bits)))) h.2 (by simp [Rep]) ?_
      intro w hw
      have : ¬ b < 0 := by omega
      simp [hg, binOp, Op.shift, this]
    · simp only [PA_chk, decide_eq_true_eq] at h
      refine gives _ (.int ik (a.fdiv (2 ^ (min b.toNat ik.bits)))) h.2 (by simp [Rep]) ?_
      intro w hw
      have : ¬ b < 0 := by omega
      simp [hg, binOp, Op.shift, this]
    · simp only [PA_lit, decide_eq_true_eq] at h
      obtain ⟨rfl, h⟩ := h
      unfold binI at h
      split at h
      all_goals first
        | (cases h; done)
        | (simp only [PA_chk] at h; obtain ⟨hb, h⟩ := h; refine gives _ _ h rep_int ?_; intro w hw; have hb' : ¬ b = 0 := by simpa using hb
           simp [eqGuard, binOp, Op.intDiv, hb']; done)
        | (refine gives _ _ h rep_int ?_; intro w hw; simp [eqGuard, binOp, Op.intArith, Op.intBits, bits]; done)
        | (refine gives _ _ h rep_bool ?_; intro w hw; simp [eqGuard, binOp, Op.intCmp]; done)
  · rename_i a b
    simp only [Rep] at hx hy
    subst hx; subst hy
    simp only [PA_lit, decide_eq_true_eq] at h
    obtain ⟨hk, h⟩ := h
    have hu := hT.bool hk
    rcases eqB_iff h with ⟨rfl, h⟩ | ⟨rfl, h⟩
    · exact gives _ (.bool (a == b)) h (by simp [Rep]) (fun w hw => by simp [eqGuard, run_eql_bool w t a b hu])
    · exact gives _ (.bool (!(a == b))) h (by simp [Rep]) (fun w hw => by simp [eqGuard, run_neq_bool w t a b hu])
  · rename_i a b
    simp only [Rep] at hx hy
    obtain ⟨rfl, hla⟩ := hx
    obtain ⟨rfl, hlb⟩ := hy
    split at h
    · simp only [PA_chk, decide_eq_true_eq] at h
      refine gives _ (.string ⟨(a ++ b).toArray⟩) h.2 (rep_str (by simpa [maxL] using h.1)) ?_
      intro w hw
      have h1 : ¬ (((ByteArray.mk a.toArray).size + (ByteArray.mk b.toArray).size : Nat) : Int) > IntKind.max .i64 := by
        have e1 : (ByteArray.mk a.toArray).size = a.length := by simp [ByteArray.size]
        have e2 : (ByteArray.mk b.toArray).size = b.length := by simp [ByteArray.size]
        rw [show IntKind.max .i64 = (9223372036854775807 : Int) from rfl]
        omega
      have h2 : (ByteArray.mk a.toArray ++ ByteArray.mk b.toArray) = ByteArray.mk (a ++ b).toArray := by
        apply ByteArray.ext
        simp
      have hb : (binOp .add t (.string ⟨a.toArray⟩) (.string ⟨b.toArray⟩)).run P w = .ok (.string ⟨(a ++ b).toArray⟩) w := by
        show (Op.stringOp .add _ _).run P w = _
        unfold Op.stringOp
        simp only [h1, if_false, h2, Sem.run_pure]
      simp [eqGuard, hb]
    · rcases eqB_iff h with ⟨rfl, h⟩ | ⟨rfl, h⟩
      · exact gives _ (.bool (a == b)) h (by simp [Rep]) (fun w hw => by simp [eqGuard, binOp, Op.stringOp])
      · exact gives _ (.bool (!(a == b))) h (by simp [Rep]) (fun w hw => by simp [eqGuard, binOp, Op.stringOp])
  · -- two nil pointers
    simp only [PA_lit] at h
    obtain ⟨hp, h⟩ := h
    simp only [Rep] at hx hy
    subst hx; subst hy
    unfold TD.isPtr at hp
    split at hp <;> try cases hp
    rename_i e he
    have hu := hT.ptr he
    have hr : ∀ w, (Op.equal t (.pointer none) (.pointer none)).run P w = .ok true w := fun w => eqIn_ptr 9999 hu none
    rcases eqB_iff h with ⟨rfl, h⟩ | ⟨rfl, h⟩
    · exact gives _ _ h rep_bool (fun w hw => by simp [eqGuard, binOp, hr])
    · exact gives _ _ h rep_bool (fun w hw => by simp [eqGuard, binOp, hr])
  · simp only [PA_lit] at h
    obtain ⟨hp, h⟩ := h
    simp only [Rep] at hx hy
    obtain ⟨b, _, rfl⟩ := hx; subst hy
    unfold TD.isPtr at hp
    split at hp <;> try cases hp
    rename_i e he
    have hu := hT.ptr he
    have hr : ∀ a w, (Op.equal t (.pointer (some a)) (.pointer none)).run P w = .ok false w := fun a w => eqIn_ptr 9999 hu (some a)
    rcases eqB_iff h with ⟨rfl, h⟩ | ⟨rfl, h⟩
    · exact gives _ _ h rep_bool (fun w hw => by simp [eqGuard, binOp, hr])
    · exact gives _ _ h rep_bool (fun w hw => by simp [eqGuard, binOp, hr])
  · simp only [PA_lit] at h
    obtain ⟨hp, h⟩ := h
    simp only [Rep] at hx hy
    obtain ⟨b, off, rfl, _⟩ := hx; subst hy
    unfold TD.isPtr at hp
    split at hp <;> try cases hp
    rename_i e he
    have hu := hT.ptr he
    have hr : ∀ a w, (Op.equal t (.pointer (some a)) (.pointer none)).run P w = .ok false w := fun a w => eqIn_ptr 9999 hu (some a)
    rcases eqB_iff h with ⟨rfl, h⟩ | ⟨rfl, h⟩
    · exact gives _ _ h rep_bool (fun w hw => by simp [eqGuard, binOp, hr])
    · exact gives _ _ h rep_bool (fun w hw => by simp [eqGuard, binOp, hr])
  · rename_i m wd l wd' l'
    simp only [PA_lit] at h
    obtain ⟨hp, h⟩ := h
    unfold TD.isSl at hp
    split at hp <;> try cases hp
    rename_i e he
    have hu := hT.slice he
    simp only [Rep] at hx hy
    obtain ⟨a', len', cap', rfl, hl', _, _, _, hn', _⟩ := hy
    obtain ⟨rfl, rfl, rfl⟩ := hn' trivial
    obtain ⟨a, len, cap, rfl, hl, hlc, hcm, he1, hn, _⟩ := hx
    have hr : ∀ w, (Op.equal t (.slice a len cap) (.slice none len' 0)).run P w = .ok a.isNone w := fun w => eqIn_slice 9999 hu a len cap len' 0
    have fin : ∀ b, a.isNone = b → eqB (PA M) op b k → Gives P E W (do eqGuard op t xo yo (.slice a len cap) (.slice none len' 0); binOp op t (.slice a len cap) (.slice none len' 0)) k := by
      intro b hb h
      simp only [hb] at hr
      rcases eqB_iff h with ⟨rfl, h⟩ | ⟨rfl, h⟩
      · exact gives _ _ h rep_bool (fun w hw => by simp [eqGuard, binOp, hr])
      · exact gives _ _ h rep_bool (fun w hw => by simp [eqGuard, binOp, hr])
    unfold nilEq at h
    split at h
    · exact fin true (by rw [(hn rfl).1]; rfl) h
    · split at h
      · simp only [PA_amb] at h
        cases hh : a.isNone
        · exact fin false hh h.2
        · exact fin true hh h.1
      · obtain ⟨b, off, rfl, _⟩ := he1 (by simp)
        exact fin false rfl h
  · simp only [PA_lit] at h
    obtain ⟨hp, h⟩ := h
    simp only [Rep] at hx hy
    obtain ⟨b, n, cap, _, _, rfl⟩ := hx; subst hy
    unfold TD.isPtr at hp
    split at hp <;> try cases hp
    rename_i e he
    have hu := hT.ptr he
    have hr : ∀ a w, (Op.equal t (.pointer (some a)) (.pointer none)).run P w = .ok false w := fun a w => eqIn_ptr 9999 hu (some a)
    rcases eqB_iff h with ⟨rfl, h⟩ | ⟨rfl, h⟩
    · exact gives _ _ h rep_bool (fun w hw => by simp [eqGuard, binOp, hr])
    · exact gives _ _ h rep_bool (fun w hw => by simp [eqGuard, binOp, hr])
  · rename_i l r
    simp only [PA_lit, PA_orFail] at h
    obtain ⟨he, b, hb, h⟩ := h
    simp only [Rep] at hx hy
    obtain ⟨xs, rfl, hxs⟩ := hx
    obtain ⟨ys, rfl, hys⟩ := hy
    have both : ∀ w, (do eqGuard .eql t xo yo (.agg xs.toArray) (.agg ys.toArray); binOp .eql t (.agg xs.toArray) (.agg ys.toArray)).run P w = .ok (.bool b) w ∧ (do eqGuard .neq t xo yo (.agg xs.toArray) (.agg ys.toArray); binOp .neq t (.agg xs.toArray) (.agg ys.toArray)).run P w = .ok (.bool (!b)) w := by
      intro w
      obtain ⟨hg, hr⟩ := (hT t).eq E l r xs ys b w he hxs hys hb
      have hgr := fun op' => run_eqGuard_agg (P := P) (w := w) op' t xo yo xs.toArray ys.toArray hg
      have h1 := run_eql_struct (P := P) (w := w) t xs.toArray ys.toArray
      have h2 := run_neq_struct (P := P) (w := w) t xs.toArray ys.toArray
      rw [hr] at h1 h2
      simp only [Result.andThen_ok] at h1 h2
      exact ⟨by simp only [Sem.run_bind, hgr, Result.andThen_ok, h1], by simp only [Sem.run_bind, hgr, Result.andThen_ok, h2]⟩
    rcases eqB_iff h with ⟨rfl, h⟩ | ⟨rfl, h⟩
    · exact gives _ _ h rep_bool (fun w hw => (both w).1)
    · exact gives _ _ h rep_bool (fun w hw => (both w).2)
  · cases h

theorem un_sound {op : UnOp} {x : AV} {u : Value} {k : AV → Prop} (hx : Rep E x u) (h : un (PA M) op x k) : Gives P E W (Op.unary op u) k := by
  unfold un at h
  split at h
  · simp only [Rep] at hx; subst hx; exact gives _ _ h rep_bool (fun w hw => by simp [Op.unary])
  · simp only [Rep] at hx; subst hx; exact gives _ _ h rep_int (fun w hw => by simp [Op.unary, Op.intArith])
  · simp only [Rep] at hx; subst hx; exact gives _ _ h rep_int (fun w hw => by simp [Op.unary, Op.intBits, bits])
  · cases h

/-- Cells that stand still are in memory. -/
theorem rp_cells (hK : Known E w) {l : List AV} {i : Nat} {u : Value} (h : Rep E (.rp l i) u) :
    ∃ b off vs, u = .pointer (some ⟨b, off + i, none⟩) ∧ RepL E l vs ∧ (∀ j v, vs[j]? = some v → w.cell? ⟨b, off + j, none⟩ = some v) ∧ l.all AV.flat1 = true ∧ ∀ j, j < vs.length → E.S b (off + j) = vs[j]? := by
  simp only [Rep] at h
  obtain ⟨b, off, rfl, hf, vs, h1, h2⟩ := h
  refine ⟨b, off, vs, rfl, h1, fun j v hj => hK.agree _ _ _ ?_, hf, h2⟩
  rw [h2 j (List.getElem?_eq_some_iff.1 hj).1, hj]

theorem repL_drop_take {l : List AV} {vs : List Value} (h : RepL E l vs) (i n : Nat) : RepL E ((l.drop i).take n) ((vs.drop i).take n) := by
  refine RepL.of_get (by simp [h.length]) fun j x v hx hv => ?_
  rw [List.getElem?_take] at hx hv
  split at hx
  · rename_i hj
    simp only [hj, if_true, List.getElem?_drop] at hx hv
    obtain ⟨v', e, r⟩ := h.get _ x hx
    rw [hv] at e
    cases e
    exact r
  · cases hx
/-- A load of a type's cells out of cells that are known. -/
theorem part_sound (hT : TabOK P T) {t : Nat} {l : List AV} {vs : List Value} {i b off : Nat} {k : AV → Prop} (hl : RepL E l vs)
    (hc : ∀ w, W w → ∀ j v, vs[j]? = some v → w.cell? ⟨b, off + j, none⟩ = some v) (h : part (PA M) (T.ty t) l i k) : Gives P E W (loadVar t ⟨b, off + i, none⟩) k := by
  simp only [part, PA_lit] at h
  obtain ⟨hk, h⟩ := h
  unfold loadVar
  cases ha : (T.ty t).isAgg with
  | true =>
    rw [ha] at h
    simp only [cond_true, PA_chk, Nat.ble_eq] at h
    have h1 : ∀ w, W w → (loadCells ⟨b, off + i, none⟩ (T.ty t).size).run P w = .ok ((vs.drop i).take (T.ty t).size).toArray w := by
      intro w hw
      have hlen : ((vs.drop i).take (T.ty t).size).length = (T.ty t).size := by
        have := hl.length
        simp
        omega
      have := run_loadCells_list (P := P) w ⟨b, off + i, none⟩ ((vs.drop i).take (T.ty t).size) (fun j v hj => ?_)
      · rwa [hlen] at this
      · rw [List.getElem?_take] at hj
        split at hj
        · rw [List.getElem?_drop] at hj
          rw [add_off, Nat.add_assoc]
          exact hc w hw _ _ hj
        · cases hj
    refine gives _ (.agg ((vs.drop i).take (T.ty t).size).toArray) h.2 (by simp only [Rep]; exact ⟨_, rfl, repL_drop_take hl _ _⟩) ?_
    intro w hw
    simp [hT.aggOf hk, ha, hT.sizeAt hk, h1 w hw]
  | false =>
    rw [ha] at h
    simp only [cond_false, PA_nthE] at h
    obtain ⟨x, hx, h⟩ := h
    obtain ⟨v, hv, _, _, hr⟩ := hl.get i x hx
    refine gives _ v h hr ?_
    intro w hw
    simp [hT.aggOf hk, ha, hc w hw _ _ hv]

theorem part2_sound (hT : TabOK P T) {t : Nat} {l : List AV} {vs : List Value} {i : Nat} {k : AV → Prop} (hl : RepL E l vs)
    (h : part (PA M) (T.ty t) l i k) : Gives P E W (Go.part t vs.toArray i) k := by
  simp only [part, PA_lit] at h
  obtain ⟨hk, h⟩ := h
  unfold Go.part
  cases ha : (T.ty t).isAgg with
  | true =>
    rw [ha] at h
    simp only [cond_true, PA_chk, Nat.ble_eq] at h
    refine gives _ (.agg ((vs.drop i).take (T.ty t).size).toArray) h.2 (by simp only [Rep]; exact ⟨_, rfl, repL_drop_take hl _ _⟩) ?_
    intro w hw
    have e : vs.toArray.extract i (i + (T.ty t).size) = ((vs.drop i).take (T.ty t).size).toArray := by
      simp [List.take_drop]
    simp only [Sem.run_bind, hT.aggOf hk, ha, Result.andThen_ok, if_true, hT.sizeAt hk, Sem.run_pure, e]
  | false =>
    rw [ha] at h
    simp only [cond_false, PA_nthE] at h
    obtain ⟨x, hx, h⟩ := h
    obtain ⟨v, hv, _, _, hr⟩ := hl.get i x hx
    refine gives _ v h hr ?_
    intro w hw
    simp [hT.aggOf hk, ha, hv]

theorem known_some (hT : TabOK P T) {t : Nat} (hk : (T.ty t).known = true) : ∃ d, P.underlying t = some d := by
  have hd := (hT t).desc
  unfold TD.known at hk
  cases hh : (T.ty t).k <;> rw [hh] at hd hk <;> dsimp only at hd hk
  all_goals first
    | (cases hk; done)
    | (obtain ⟨a, b, c, hd⟩ := hd; exact ⟨_, hd⟩)
    | (obtain ⟨a, hd, _⟩ := hd; exact ⟨_, hd⟩)
    | exact ⟨_, hd⟩

theorem isU8_spec (hT : TabOK P T) {t : Nat} (h : isU8 T t = true) : ∃ e, (T.ty t).k = .slice e ∧ P.underlying t = some (.slice e) ∧ P.underlying e = some (.int .u8) ∧ (T.ty e).k = .int .u8 := by
  unfold isU8 at h
  split at h
  · rename_i e he
    have := of_decide_eq_true h
    exact ⟨e, he, hT.slice he, hT.int this, this⟩
  · cases h

/-- Bytes that are known to be bytes. -/
theorem bytesOf_get (l : List AV) : ∀ {bs : List UInt8}, bytesOf l = some bs → ∃ ns : List Int, l = ns.map (AV.int .u8) ∧ bs = ns.map fun n => UInt8.ofNat n.toNat := by
  induction l with
  | nil => intro bs h; exact ⟨[], by simp [bytesOf] at h; simp [h]⟩
  | cons x l ih =>
    intro bs h
    cases x with
    | int k n =>
      cases k <;> simp only [bytesOf] at h <;> try (cases h; done)
      split at h
      · rename_i r hr
        obtain ⟨ns, h1, h2⟩ := ih hr
        injection h with h
        exact ⟨n :: ns, by rw [h1]; rfl, by rw [← h, h2]; rfl⟩
      · cases h
    | _ => simp [bytesOf] at h

theorem conv_sound (hT : TabOK P T) (hK : ∀ w, W w → Known E w) {s d : Nat} {x : AV} {u : Value} {k : AV → Prop} (hx : Rep E x u) (h : conv (PA M) T s d x k) : Gives P E W (convert s d u) k := by
  unfold conv at h
  split at h
  · rename_i ik jk n hd
    simp only [PA_lit] at h
    obtain ⟨hk, h⟩ := h
    obtain ⟨ds, hs⟩ := known_some hT hk
    have hd := hT.int hd
    simp only [Rep] at hx
    subst hx
    exact gives _ _ h rep_int (fun w hw => by simp [convert, run_underlying hs, run_underlying hd, Conv.intToInt])
  · rename_i b hd
    simp only [PA_lit] at h
    obtain ⟨hk, h⟩ := h
    obtain ⟨ds, hs⟩ := known_some hT hk
    have hd := hT.str hd
    have hx' := hx
    simp only [Rep] at hx
    obtain ⟨rfl, _⟩ := hx
    exact gives _ _ h hx' (fun w hw => by simp [convert, run_underlying hs, run_underlying hd])
  · rename_i m wd l hd
    simp only [PA_lit, PA_orFail, Bool.and_eq_true, Nat.beq_eq] at h
    obtain ⟨⟨hu, hw⟩, bs, hb, h⟩ := h
    obtain ⟨e, _, hs, he, _⟩ := isU8_spec hT hu
    have hd := hT.str hd
    obtain ⟨ns, rfl, rfl⟩ := bytesOf_get _ hb
    simp only [Rep] at hx
    obtain ⟨a, len, cap, rfl, hl, hlc, hcm, he1, _, _⟩ := hx
    have hlen : ns.length = len := by simpa using hl.symm
    have hr : Rep E (.str (ns.map fun n => UInt8.ofNat n.toNat)) (.string (strOfNums ns)) := rep_str (by simp; omega)
    cases hns : ns with
    | nil =>
      subst hns
      have : len = 0 := by simpa using hl
      subst this
      cases a with
      | none => exact gives _ (.string ByteArray.empty) h (show Rep E (.str _) (.string (strOfNums [])) from hr) (fun w hw => run_convert_bytes_nil w s e hs he 0 cap d hd)
      | some ad =>
        obtain ⟨b, off, sp⟩ := ad
        refine gives _ _ h hr ?_
        intro w hw
        have hlz : (loadCells ⟨b, off, sp⟩ 0).run P w = .ok #[] w := by simp [loadCells, loadCellsFrom]
        simp only [convert, Sem.run_bind, run_underlying hs, run_underlying hd, run_underlying he, Result.andThen_ok, Conv.bytesToString, hlz]
        simp [strOfNums]
        rfl
    | cons n0 ns0 =>
      obtain ⟨b, off, rfl, hE⟩ := he1 (by rw [hns]; simp)
      refine gives _ _ h hr ?_
      intro w hww
      have := run_convert_bytes_arg w s e hs he b off len cap ns hlen (fun i hi => ?_) d hd
      · exact this
      · have hi' : i < ns.length := by omega
        obtain ⟨_, u, hu1, hu2, hu3⟩ := hE.get i (.int .u8 (ns.getD i 0)) (by simp [List.getD, List.getElem?_eq_getElem hi'])
        simp only [Rep] at hu1
        subst hu1
        have h0 := hu3 0 (by omega)
        refine (hK w hww).agree _ _ _ ?_
        rw [hw] at h0
        simpa [Value.cells] using h0
  · cases h

/-- The bounds of a slice expression, as the machine finds them. -/
theorem bnds_sound {lo hi mx : Option Operand} {ρ : Operand → Value} {dlo dhi : Int} {vs : List AV} {k : Int → Int → Int → Prop} {isSl : Bool} {len cap : Nat}
    (hv : RepT E vs ((lo.map ρ).toList ++ (hi.map ρ).toList ++ (mx.map ρ).toList)) (h : bnds (PA M) lo hi mx dlo dhi vs k) (hlo : dlo = 0) (hhi : dhi = len) (hc : len ≤ cap) :
    ∃ a b c, k a b c ∧ (0 ≤ a → a ≤ b → b ≤ c → c ≤ len → ∃ m : Nat, b.toNat ≤ m ∧ m ≤ cap ∧ ∀ w, (Instr.sliceBounds isSl len cap (lo.map ρ) (hi.map ρ) (mx.map ρ)).run P w = .ok (a.toNat, b.toNat, m) w) := by
  have hb : ∀ (w : World) (k : IntKind) (i : Int) (y : Nat) (code : BoundsCode), 0 ≤ i → i ≤ y → (Instr.sliceBound (.int k i) y code).run P w = .ok i.toNat w := fun w k i y code h0 h1 => run_sliceBound w k i y code h0 h1
  unfold bnds at h
  subst hlo
  subst hhi
  split at h
  · exact ⟨_, _, _, h, fun _ _ _ _ => ⟨cap, by omega, Nat.le_refl _, by intro w; simp [Instr.sliceBounds]⟩⟩
  · rename_i x1 x2 a
    simp [RepT, Rep] at hv
    refine ⟨_, _, _, h, fun h0 h1 h2 h3 => ⟨cap, by omega, Nat.le_refl _, ?_⟩⟩
    simp only [Option.map_some, Option.map_none, hv]
    intro w
    simp [Instr.sliceBounds, hb w _ a len _ h0 h1]
  · rename_i x1 x2 b
    simp [RepT, Rep] at hv
    refine ⟨_, _, _, h, fun h0 h1 h2 h3 => ⟨cap, by omega, Nat.le_refl _, ?_⟩⟩
    simp only [Option.map_some, Option.map_none, hv]
    intro w
    simp [Instr.sliceBounds, hb w _ b cap _ h1 (by omega)]
  · rename_i x1 x2 x3 a x4 b
    simp [RepT, Rep] at hv
    obtain ⟨hv1, hv2⟩ := hv
    refine ⟨_, _, _, h, fun h0 h1 h2 h3 => ⟨cap, by omega, Nat.le_refl _, ?_⟩⟩
    simp only [Option.map_some, Option.map_none, hv1, hv2]
    intro w
    simp [Instr.sliceBounds, hb w _ b cap _ (by omega) (by omega), hb w _ a b.toNat _ h0 (by omega)]
  · rename_i x1 x2 x3 b x4 c
    simp [RepT, Rep] at hv
    obtain ⟨hv1, hv2⟩ := hv
    refine ⟨_, _, _, h, fun h0 h1 h2 h3 => ⟨c.toNat, by omega, by omega, ?_⟩⟩
    simp only [Option.map_some, Option.map_none, hv1, hv2]
    intro w
    simp [Instr.sliceBounds, hb w _ c cap _ (by omega) (by omega), hb w _ b c.toNat _ h1 (by omega)]
  · rename_i x1 x2 x3 x4 a x5 b x6 c
    simp [RepT, Rep] at hv
    obtain ⟨hv1, hv2, hv3⟩ := hv
    refine ⟨_, _, _, h, fun h0 h1 h2 h3 => ⟨c.toNat, by omega, by omega, ?_⟩⟩
    simp only [Option.map_some, Option.map_none, hv1, hv2, hv3]
    intro w
    simp [Instr.sliceBounds, hb w _ c cap _ (by omega) (by omega), hb w _ b c.toNat _ (by omega) (by omega), hb w _ a b.toNat _ h0 (by omega)]
  · cases h

theorem cut_spec {β : Type} {l : List β} {lo hi mx : Int} {k : List β → Prop} (h : cut (PA M) l lo hi mx k) :
    0 ≤ lo ∧ lo ≤ hi ∧ hi ≤ mx ∧ mx ≤ l.length ∧ k ((l.take hi.toNat).drop lo.toNat) := by
  simp only [cut, PA_chk, Bool.and_eq_true, decide_eq_true_eq] at h
  exact ⟨h.1.1.1.1, h.1.1.1.2, h.1.1.2, h.1.2, h.2⟩

theorem slice_sound (hT : TabOK P T) {t : Nat} {x : AV} {u : Value} {lo hi mx : Option Operand} {ρ : Operand → Value} {vs : List AV} {k : AV → Prop} (hx : Rep E x u)
    (hv : RepT E vs ((lo.map ρ).toList ++ (hi.map ρ).toList ++ (mx.map ρ).toList)) (h : sliceV (PA M) T t x lo hi mx vs k) :
    Gives P E W (Instr.sliceAt t u (lo.map ρ) (hi.map ρ) (mx.map ρ)) k := by
  unfold sliceV at h
  split at h
  · rename_i s ht
    have ht := hT.str ht
    split at h
    · simp only [Rep] at hx
      obtain ⟨rfl, hl⟩ := hx
      have hsz : (ByteArray.mk s.toArray).size = s.length := by simp [ByteArray.size]
      obtain ⟨a, b, c, h, hs⟩ := bnds_sound (P := P) (isSl := false) (len := s.length) (cap := s.length) (mx := none) hv h rfl rfl (Nat.le_refl _)
      obtain ⟨h0, h1, h2, h3, h⟩ := cut_spec h
      obtain ⟨m, _, _, hs⟩ := hs h0 h1 h2 h3
      refine gives _ (.string ⟨((s.take b.toNat).drop a.toNat).toArray⟩) h (rep_str (by simp; omega)) ?_
      intro w hw
      have he : (ByteArray.mk s.toArray).extract a.toNat b.toNat = ⟨((s.take b.toNat).drop a.toNat).toArray⟩ := by
        apply ByteArray.ext
        apply Array.ext'
        rw [ByteArray.data_extract]
        simp [List.drop_take]
      simp only [Option.map_none] at hs ⊢
      simp [Instr.sliceAt, Instr.slice, run_underlying ht, hsz, hs, he]
    · cases h
  · rename_i e m wd l ht
    have hu := hT.slice ht
    split at h
    · have hx' := hx
      simp only [Rep] at hx
      obtain ⟨a, len, cap, rfl, hl, _, _, _, hn, _⟩ := hx
      obtain ⟨rfl, rfl, rfl⟩ := hn trivial
      simp only [List.length_nil] at hl
      subst hl
      simp only [PA_lit] at h
      obtain ⟨hk, h⟩ := h
      obtain ⟨a, b, c, h, hs⟩ := bnds_sound (P := P) (isSl := true) (len := 0) (cap := 0) hv h rfl rfl (Nat.le_refl _)
      simp only [PA_chk, Bool.and_eq_true, beq_iff_eq] at h
      obtain ⟨⟨⟨rfl, rfl⟩, rfl⟩, h⟩ := h
      obtain ⟨m, hm1, hm2, hs⟩ := hs (by omega) (by omega) (by omega) (by omega)
      have hm : m = 0 := by omega
      subst hm
      refine gives _ (.slice none 0 0) h hx' ?_
      intro w hw
      simp only [Instr.sliceAt, Instr.slice, Sem.run_bind, run_underlying hu, Result.andThen_ok, hs, hT.sizeAt hk]
      simp
    · simp only [PA_lit, Bool.and_eq_true, Nat.beq_eq] at h
      obtain ⟨⟨hw, hk⟩, h⟩ := h
      simp only [Rep] at hx
      obtain ⟨ba, len, cap, rfl, hl, hlc, hcm, he1, _, _⟩ := hx
      subst hl
      obtain ⟨a, b, c, h, hs⟩ := bnds_sound (P := P) (isSl := true) (len := l.length) (cap := cap) hv h rfl rfl hlc
      obtain ⟨h0, h1, h2, h3, h⟩ := cut_spec h
      obtain ⟨m, hm1, hm2, hs⟩ := hs h0 h1 h2 h3
      refine gives _ (.slice (if m = a.toNat then ba else ba.map (·.add (a.toNat * (T.ty e).size))) (b.toNat - a.toNat) (m - a.toNat)) h ?_ ?_
      · simp only [Rep]
        refine ⟨_, _, _, rfl, by simp; omega, by omega, by omega, ?_, by simp, by simp⟩
        intro hne
        have hab : a.toNat < b.toNat := by
          rcases Nat.lt_or_ge a.toNat b.toNat with h' | h'
          · exact h'
          · exact absurd (List.eq_nil_of_length_eq_zero (by simp; omega)) hne
        obtain ⟨B, off, rfl, hE⟩ := he1 (by intro h0; subst h0; simp at hne)
        rw [if_neg (by omega)]
        refine ⟨B, off + a.toNat * (T.ty e).size, by simp [add_off], RepE.of_get fun i x hx => ?_⟩
        rw [List.getElem?_drop, List.getElem?_take] at hx
        split at hx
        · obtain ⟨g1, u, g2, g3, g4⟩ := hE.get _ x hx
          refine ⟨g1, u, g2, g3, fun j hj => ?_⟩
          have := g4 j hj
          rw [← hw]
          rw [show off + a.toNat * wd + i * wd + j = off + (a.toNat + i) * wd + j from by rw [Nat.add_mul]; omega]
          exact this
        · cases hx
      · intro w hww
        simp only [Instr.sliceAt, Instr.slice, Sem.run_bind, run_underlying hu, Result.andThen_ok, hs, hT.sizeAt hk, Sem.run_pure]
  · cases h
end Go.Proofs.Ythmocicjocjdoaa.V
