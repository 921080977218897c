/- What is printed of schemas, and what is read: the law, in plain words. -/
import Derived.Test.YthmocicjocjdoaaC6
import Derived.Test.YthmocicjocjdoaaC11
set_option linter.unusedVariables false
set_option linter.unusedSimpArgs false
namespace Go.Proofs.Ythmocicjocjdoaa.V
open Go
def fldB (f : Fld) : List UInt8 := cnt f.id.toNat ++ cnt f.kind.toNat ++ (if f.kind = 1 then cnt (zz f.lo) ++ cnt (zz f.hi) else if f.kind = 3 ∨ f.kind = 4 then cnt f.most.toNat else [])
def fldsB (l : List Fld) : List UInt8 := (l.map fldB).flatten
def frmB (f : Frm) : List UInt8 := cnt f.id.toNat ++ cnt f.fields.length ++ fldsB f.fields
def frmsB (l : List Frm) : List UInt8 := (l.map frmB).flatten
def schB (s : Sch) : List UInt8 := cnt s.ver.toNat ++ cnt s.forms.length ++ frmsB s.forms
abbrev St := List UInt8 × Int
def tkFld (q : St) : Fld × St :=
  if (countS (countS q.1 q.2 255).2.1 (countS q.1 q.2 255).2.2 4).1 = 1 then
    (⟨(countS q.1 q.2 255).1, (countS (countS q.1 q.2 255).2.1 (countS q.1 q.2 255).2.2 4).1,
      (numS (countS (countS q.1 q.2 255).2.1 (countS q.1 q.2 255).2.2 4).2.1 (countS (countS q.1 q.2 255).2.1 (countS q.1 q.2 255).2.2 4).2.2).1,
      (numS (numS (countS (countS q.1 q.2 255).2.1 (countS q.1 q.2 255).2.2 4).2.1 (countS (countS q.1 q.2 255).2.1 (countS q.1 q.2 255).2.2 4).2.2).2.1 (numS (countS (countS q.1 q.2 255).2.1 (countS q.1 q.2 255).2.2 4).2.1 (countS (countS q.1 q.2 255).2.1 (countS q.1 q.2 255).2.2 4).2.2).2.2).1, 0⟩,
     (numS (numS (countS (countS q.1 q.2 255).2.1 (countS q.1 q.2 255).2.2 4).2.1 (countS (countS q.1 q.2 255).2.1 (countS q.1 q.2 255).2.2 4).2.2).2.1 (numS (countS (countS q.1 q.2 255).2.1 (countS q.1 q.2 255).2.2 4).2.1 (countS (countS q.1 q.2 255).2.1 (countS q.1 q.2 255).2.2 4).2.2).2.2).2)
  else if (countS (countS q.1 q.2 255).2.1 (countS q.1 q.2 255).2.2 4).1 = 3 ∨ (countS (countS q.1 q.2 255).2.1 (countS q.1 q.2 255).2.2 4).1 = 4 then
    (⟨(countS q.1 q.2 255).1, (countS (countS q.1 q.2 255).2.1 (countS q.1 q.2 255).2.2 4).1, 0, 0,
      (countS (countS (countS q.1 q.2 255).2.1 (countS q.1 q.2 255).2.2 4).2.1 (countS (countS q.1 q.2 255).2.1 (countS q.1 q.2 255).2.2 4).2.2 1000).1⟩,
     (countS (countS (countS q.1 q.2 255).2.1 (countS q.1 q.2 255).2.2 4).2.1 (countS (countS q.1 q.2 255).2.1 (countS q.1 q.2 255).2.2 4).2.2 1000).2)
  else (⟨(countS q.1 q.2 255).1, (countS (countS q.1 q.2 255).2.1 (countS q.1 q.2 255).2.2 4).1, 0, 0, 0⟩, (countS (countS q.1 q.2 255).2.1 (countS q.1 q.2 255).2.2 4).2)
def tkFlds : Nat → St → List Fld × St
  | 0, q => ([], q)
  | n + 1, q => ((tkFld q).1 :: (tkFlds n (tkFld q).2).1, (tkFlds n (tkFld q).2).2)
def tkFrm (q : St) : Frm × St :=
  (⟨(countS q.1 q.2 200).1, (tkFlds (countS (countS q.1 q.2 200).2.1 (countS q.1 q.2 200).2.2 8).1.toNat (countS (countS q.1 q.2 200).2.1 (countS q.1 q.2 200).2.2 8).2).1⟩,
   (tkFlds (countS (countS q.1 q.2 200).2.1 (countS q.1 q.2 200).2.2 8).1.toNat (countS (countS q.1 q.2 200).2.1 (countS q.1 q.2 200).2.2 8).2).2)
def tkFrms : Nat → St → List Frm × St
  | 0, q => ([], q)
  | n + 1, q => ((tkFrm q).1 :: (tkFrms n (tkFrm q).2).1, (tkFrms n (tkFrm q).2).2)
def tkSch (b : List UInt8) : Sch × St :=
  (⟨(countS b 0 65535).1, (tkFrms (countS (countS b 0 65535).2.1 (countS b 0 65535).2.2 8).1.toNat (countS (countS b 0 65535).2.1 (countS b 0 65535).2.2 8).2).1⟩,
   (tkFrms (countS (countS b 0 65535).2.1 (countS b 0 65535).2.2 8).1.toNat (countS (countS b 0 65535).2.1 (countS b 0 65535).2.2 8).2).2)
/-- The schema of some bytes, or why there is none. -/
def parS (b : List UInt8) : Sch × Int :=
  if endS (tkSch b).2.1 (tkSch b).2.2 ≠ 0 then (⟨0, []⟩, endS (tkSch b).2.1 (tkSch b).2.2)
  else if schS (tkSch b).1 then ((tkSch b).1, 0) else (⟨0, []⟩, 2)
theorem tkFld_len (q : St) : (tkFld q).2.1.length ≤ q.1.length := by
  unfold tkFld
  have h1 := countS_len q.1 q.2 255
  have h2 := countS_len (countS q.1 q.2 255).2.1 (countS q.1 q.2 255).2.2 4
  split
  · exact Nat.le_trans (grpS_len _ _) (Nat.le_trans (grpS_len _ _) (Nat.le_trans h2 h1))
  · split
    · exact Nat.le_trans (countS_len _ _ _) (Nat.le_trans h2 h1)
    · exact Nat.le_trans h2 h1
theorem tkFlds_len : ∀ (n : Nat) (q : St), (tkFlds n q).2.1.length ≤ q.1.length
  | 0, q => Nat.le_refl _
  | n + 1, q => Nat.le_trans (tkFlds_len n _) (tkFld_len q)
theorem tkFrm_len (q : St) : (tkFrm q).2.1.length ≤ q.1.length :=
  Nat.le_trans (tkFlds_len _ _) (Nat.le_trans (countS_len _ _ _) (countS_len _ _ _))
theorem tkFlds_n : ∀ (n : Nat) (q : St), (tkFlds n q).1.length = n
  | 0, q => rfl
  | n + 1, q => by simp [tkFlds, tkFlds_n n]
theorem tkFrms_n : ∀ (n : Nat) (q : St), (tkFrms n q).1.length = n
  | 0, q => rfl
  | n + 1, q => by simp [tkFrms, tkFrms_n n]

/-! What was printed is read. -/
theorem tkFld_fldB (f : Fld) (hf : f.ok) (hr : rgtS f = true) (rest : List UInt8) : tkFld (fldB f ++ rest, 0) = (f, (rest, 0)) := by
  have r := rgt_rng hr
  obtain ⟨_, ⟨_, _⟩, ⟨_, _⟩, ⟨_, _⟩, ⟨_, _⟩⟩ := hf
  have e1 : ∀ t, countS (cnt f.id.toNat ++ t) 0 255 = (f.id, t, 0) := fun t => by rw [countS_cnt (by omega) (by omega), Int.toNat_of_nonneg (by omega)]
  have e2 : ∀ t, countS (cnt f.kind.toNat ++ t) 0 4 = (f.kind, t, 0) := fun t => by rw [countS_cnt (by omega) (by omega), Int.toNat_of_nonneg (by omega)]
  have e3 : ∀ t, countS (cnt f.most.toNat ++ t) 0 1000 = (f.most, t, 0) := fun t => by rw [countS_cnt (by omega) (by omega), Int.toNat_of_nonneg (by omega)]
  have e4 : ∀ t, numS (cnt (zz f.lo) ++ t) 0 = (f.lo, t, 0) := fun t => numS_cnt (by omega) (by omega) t
  have e5 : ∀ t, numS (cnt (zz f.hi) ++ t) 0 = (f.hi, t, 0) := fun t => numS_cnt (by omega) (by omega) t
  obtain ⟨id, kind, lo, hi, most⟩ := f
  simp only at *
  unfold tkFld fldB
  simp only [List.append_assoc, e1, e2]
  by_cases k1 : kind = 1
  · subst k1
    have := (r.2.2.2.2.2.2.1 rfl).2.2.2
    subst this
    simp [e4, e5]
  · obtain ⟨z1, z2⟩ := r.2.2.2.2.2.1 k1
    subst z1; subst z2
    by_cases k3 : kind = 3 ∨ kind = 4
    · simp [k1, k3, e3]
    · have k2 : kind = 2 := by omega
      subst k2
      have := r.2.2.2.2.2.2.2.2.2.2.2 rfl
      subst this
      simp
theorem tkFlds_fldsB : ∀ (l : List Fld), (∀ f ∈ l, f.ok ∧ rgtS f = true) → ∀ rest, tkFlds l.length (fldsB l ++ rest, 0) = (l, (rest, 0))
  | [], _, rest => rfl
  | f :: l, h, rest => by
    have h1 := tkFld_fldB f (h f (by simp)).1 (h f (by simp)).2 (fldsB l ++ rest)
    have h2 := tkFlds_fldsB l (fun g hg => h g (by simp [hg])) rest
    have e : fldsB (f :: l) ++ rest = fldB f ++ (fldsB l ++ rest) := by simp [fldsB]
    rw [e, List.length_cons, tkFlds, h1, h2]
theorem fineS_iff (f : Frm) : fineS f = true ↔ (0 ≤ f.id ∧ f.id ≤ 200) ∧ (1 ≤ f.fields.length ∧ f.fields.length ≤ 8) ∧ longS f.fields ≤ 64 ∧ (∀ x ∈ f.fields, rgtS x = true) ∧ nodupI (f.fields.map Fld.id) = true := by
  unfold fineS
  simp only [Bool.and_eq_true, decide_eq_true_eq, List.all_eq_true, and_assoc]
theorem tkFrm_frmB (f : Frm) (hf : f.ok) (hr : fineS f = true) (rest : List UInt8) : tkFrm (frmB f ++ rest, 0) = (f, (rest, 0)) := by
  obtain ⟨h1, h2, _, h4, _⟩ := (fineS_iff f).1 hr
  unfold tkFrm frmB
  simp only [List.append_assoc]
  rw [countS_cnt (by omega) (by omega)]
  simp only
  rw [countS_cnt (by omega) (by omega)]
  simp only [Int.toNat_natCast]
  rw [tkFlds_fldsB f.fields (fun x hx => ⟨hf.2 x hx, h4 x hx⟩) rest, Int.toNat_of_nonneg h1.1]
theorem risingS_all : ∀ (l : List Frm) (n : Int), risingS n l = true → ∀ f ∈ l, fineS f = true
  | [], n, _, f, hf => by cases hf
  | g :: l, n, h, f, hf => by
    simp only [risingS, Bool.and_eq_true] at h
    rcases List.mem_cons.1 hf with rfl | hf
    · exact h.1.1
    · exact risingS_all l _ h.2 f hf
theorem tkFrms_frmsB : ∀ (l : List Frm), (∀ f ∈ l, f.ok ∧ fineS f = true) → ∀ rest, tkFrms l.length (frmsB l ++ rest, 0) = (l, (rest, 0))
  | [], _, rest => rfl
  | f :: l, h, rest => by
    have h1 := tkFrm_frmB f (h f (by simp)).1 (h f (by simp)).2 (frmsB l ++ rest)
    have h2 := tkFrms_frmsB l (fun g hg => h g (by simp [hg])) rest
    have e : frmsB (f :: l) ++ rest = frmB f ++ (frmsB l ++ rest) := by simp [frmsB]
    rw [e, List.length_cons, tkFrms, h1, h2]
theorem schS_iff (s : Sch) : schS s = true ↔ (1 ≤ s.ver ∧ s.ver ≤ 65535) ∧ s.forms.length ≤ 8 ∧ risingS (-1) s.forms = true := by
  unfold schS
  simp only [Bool.and_eq_true, decide_eq_true_eq, and_assoc]
theorem tkSch_schB (s : Sch) (hs : s.ok) (hr : schS s = true) : tkSch (schB s) = (s, ([], 0)) := by
  obtain ⟨h1, h2, h3⟩ := (schS_iff s).1 hr
  unfold tkSch schB
  rw [List.append_assoc, countS_cnt (by omega) (by omega)]
  simp only
  rw [countS_cnt (by omega) (by omega)]
  simp only [Int.toNat_natCast]
  have h := tkFrms_frmsB s.forms (fun f hf => ⟨hs.2 f hf, risingS_all _ _ h3 f hf⟩) []
  rw [List.append_nil] at h
  rw [h, Int.toNat_of_nonneg (by omega)]
theorem parS_schB (s : Sch) (hs : s.ok) (hr : schS s = true) : parS (schB s) = (s, 0) := by
  unfold parS
  rw [tkSch_schB s hs hr]
  simp [endS, hr]
def FldsOK (l : List Fld) : Prop := ∀ f ∈ l, f.ok ∧ rgtS f = true
end Go.Proofs.Ythmocicjocjdoaa.V
namespace Go.Proofs.Ythmocicjocjdoaa.V
open Go
theorem pow_le_i {i : Nat} (h : i ≤ 8) : 128 ≤ 2 ^ (64 - 7 * i) :=
  Nat.le_trans (by decide : 128 ≤ 2 ^ (64 - 7 * 8)) (Nat.pow_le_pow_right (by omega) (by omega))
theorem grp_inv : ∀ (l : List UInt8) (i a x j : Nat), i ≤ 9 → grp i a l = (x, j, 0) → ∃ u, u < 2 ^ (64 - 7 * i) ∧ (0 < i → 0 < u) ∧ x = a + u * 128 ^ i ∧ j = i + (cnt u).length ∧ l = cnt u ++ l.drop (cnt u).length
  | [], i, a, x, j, hi, h => by simp [grp] at h
  | c :: l, i, a, x, j, hi, h => by
    rw [grp] at h
    by_cases hb : (i = 9 ∧ 1 < c.toNat) ∨ (0 < i ∧ c.toNat = 0)
    · rw [if_pos hb] at h; simp at h
    · rw [if_neg hb] at h
      by_cases hc : c.toNat < 128
      · rw [if_pos hc] at h
        simp only [Prod.mk.injEq] at h
        obtain ⟨rfl, rfl, _⟩ := h
        have e : cnt c.toNat = [c] := by rw [cnt, if_pos hc, byt_self]
        refine ⟨c.toNat, ?_, fun h0 => by omega, rfl, by rw [e]; rfl, by rw [e]; rfl⟩
        by_cases h9 : i = 9
        · subst h9
          have : (2 : Nat) ^ (64 - 7 * 9) = 2 := by decide
          omega
        · have := pow_le_i (i := i) (by omega)
          omega
      · rw [if_neg hc] at h
        have h9 : i ≠ 9 := by intro h9; exact hb (Or.inl ⟨h9, by omega⟩)
        obtain ⟨u, h1, h2, h3, h4, h5⟩ := grp_inv l (i + 1) _ x j (by omega) h
        have hu := h2 (by omega)
        have hcl : c.toNat < 256 := c.toNat_lt
        have e : cnt (c.toNat % 128 + 128 * u) = c :: cnt u := by
          rw [cnt, if_neg (by omega)]
          have e1 : (c.toNat % 128 + 128 * u) / 128 = u := by omega
          have e2 : (c.toNat % 128 + 128 * u) % 128 + 128 = c.toNat := by omega
          rw [e1, e2, byt_self]
        refine ⟨c.toNat % 128 + 128 * u, ?_, fun _ => by omega, ?_, ?_, ?_⟩
        · have e3 : 64 - 7 * i = (64 - 7 * (i + 1)) + 7 := by omega
          rw [e3, Nat.pow_add]
          generalize 2 ^ (64 - 7 * (i + 1)) = p at h1
          have : (2 : Nat) ^ 7 = 128 := by decide
          rw [this]
          omega
        · rw [h3, Nat.pow_succ]
          generalize 128 ^ i = p
          rw [Nat.add_mul]
          have : u * (p * 128) = 128 * u * p := by rw [Nat.mul_comm p 128, ← Nat.mul_assoc, Nat.mul_comm u 128]
          omega
        · rw [e, List.length_cons]; omega
        · rw [e, List.length_cons, List.drop_succ_cons, List.cons_append, ← h5]
theorem zz_unz {u : Nat} : zz (unz u) = u := by unfold unz zz; split <;> split <;> omega
theorem grpS_inv {b : List UInt8} {e : Int} (h : (grpS b e).2.2 = 0) : e = 0 ∧ (grpS b e).1 < 18446744073709551616 ∧ b = cnt (grpS b e).1 ++ (grpS b e).2.1 := by
  unfold grpS at h ⊢
  by_cases he : e = 0
  · subst he
    simp only [ne_eq, not_true_eq_false, if_false] at h ⊢
    by_cases hg : (grp 0 0 b).2.2 = 0
    · obtain ⟨u, h1, _, h3, h4, h5⟩ := grp_inv b 0 0 (grp 0 0 b).1 (grp 0 0 b).2.1 (by omega) (by rw [← hg])
      simp only [hg, not_true_eq_false, if_false]
      simp only [Nat.pow_zero, Nat.mul_one, Nat.zero_add] at h3 h4
      rw [h3, h4]
      exact ⟨trivial, h1, h5⟩
    · simp [hg] at h
  · simp [he] at h
theorem numS_inv {b : List UInt8} {e : Int} (h : (numS b e).2.2 = 0) : e = 0 ∧ (-9223372036854775808 ≤ (numS b e).1 ∧ (numS b e).1 ≤ 9223372036854775807) ∧ b = cnt (zz (numS b e).1) ++ (numS b e).2.1 := by
  obtain ⟨h1, h2, h3⟩ := grpS_inv (b := b) (e := e) h
  exact ⟨h1, unz_range h2, by unfold numS; rw [zz_unz]; exact h3⟩
theorem countS_inv {b : List UInt8} {e m : Int} (h : (countS b e m).2.2 = 0) : e = 0 ∧ b = cnt (countS b e m).1.toNat ++ (countS b e m).2.1 := by
  unfold countS at h ⊢
  by_cases he : e = 0
  · subst he
    simp only [ne_eq, not_true_eq_false, if_false] at h ⊢
    by_cases hg : (grp 0 0 b).2.2 = 0
    · obtain ⟨u, h1, _, h3, h4, h5⟩ := grp_inv b 0 0 (grp 0 0 b).1 (grp 0 0 b).2.1 (by omega) (by rw [← hg])
      simp only [hg, not_true_eq_false, if_false] at h ⊢
      simp only [Nat.pow_zero, Nat.mul_one, Nat.zero_add] at h3 h4
      split at h
      · simp at h
      · rename_i ha
        rw [if_neg ha]
        split at h
        · simp at h
        · rename_i hb
          rw [if_neg hb]
          simp only [Int.toNat_natCast]
          rw [h3, h4]
          exact ⟨trivial, h5⟩
    · simp [hg] at h
  · simp [he] at h
theorem tkFld_inv {q : St} (h : (tkFld q).2.2 = 0) : q.2 = 0 ∧ q.1 = fldB (tkFld q).1 ++ (tkFld q).2.1 := by
  unfold tkFld at h ⊢
  unfold fldB
  by_cases k1 : (countS (countS q.1 q.2 255).2.1 (countS q.1 q.2 255).2.2 4).1 = 1
  · simp only [k1, if_true] at h ⊢
    obtain ⟨a1, _, a2⟩ := numS_inv h
    obtain ⟨b1, _, b2⟩ := numS_inv a1
    obtain ⟨c1, c2⟩ := countS_inv b1
    obtain ⟨d1, d2⟩ := countS_inv c1
    refine ⟨d1, ?_⟩
    rw [k1] at c2
    simp only [List.append_assoc]
    rw [← a2, ← b2, ← c2]
    exact d2
  · by_cases k3 : (countS (countS q.1 q.2 255).2.1 (countS q.1 q.2 255).2.2 4).1 = 3 ∨ (countS (countS q.1 q.2 255).2.1 (countS q.1 q.2 255).2.2 4).1 = 4
    · simp only [k1, k3, if_true, if_false] at h ⊢
      obtain ⟨a1, a2⟩ := countS_inv h
      obtain ⟨c1, c2⟩ := countS_inv a1
      obtain ⟨d1, d2⟩ := countS_inv c1
      refine ⟨d1, ?_⟩
      simp only [List.append_assoc]
      rw [← a2, ← c2]
      exact d2
    · simp only [k1, k3, if_false] at h ⊢
      obtain ⟨c1, c2⟩ := countS_inv h
      obtain ⟨d1, d2⟩ := countS_inv c1
      refine ⟨d1, ?_⟩
      simp only [List.append_assoc, List.nil_append]
      rw [← c2]
      exact d2
theorem tkFlds_inv : ∀ (n : Nat) (q : St), (tkFlds n q).2.2 = 0 → q.2 = 0 ∧ q.1 = fldsB (tkFlds n q).1 ++ (tkFlds n q).2.1
  | 0, q, h => ⟨h, rfl⟩
  | n + 1, q, h => by
    obtain ⟨h1, h2⟩ := tkFlds_inv n _ h
    obtain ⟨h3, h4⟩ := tkFld_inv h1
    refine ⟨h3, ?_⟩
    simp only [tkFlds, fldsB, List.map_cons, List.flatten_cons, List.append_assoc] at h2 ⊢
    rw [← h2]
    exact h4
theorem tkFrm_inv {q : St} (h : (tkFrm q).2.2 = 0) : q.2 = 0 ∧ q.1 = frmB (tkFrm q).1 ++ (tkFrm q).2.1 := by
  obtain ⟨a1, a2⟩ := tkFlds_inv _ _ h
  obtain ⟨b1, b2⟩ := countS_inv a1
  obtain ⟨c1, c2⟩ := countS_inv b1
  refine ⟨c1, ?_⟩
  simp only [tkFrm, frmB, tkFlds_n, List.append_assoc]
  rw [← a2, ← b2]
  exact c2
theorem tkFrms_inv : ∀ (n : Nat) (q : St), (tkFrms n q).2.2 = 0 → q.2 = 0 ∧ q.1 = frmsB (tkFrms n q).1 ++ (tkFrms n q).2.1
  | 0, q, h => ⟨h, rfl⟩
  | n + 1, q, h => by
    obtain ⟨h1, h2⟩ := tkFrms_inv n _ h
    obtain ⟨h3, h4⟩ := tkFrm_inv h1
    refine ⟨h3, ?_⟩
    simp only [tkFrms, frmsB, List.map_cons, List.flatten_cons, List.append_assoc] at h2 ⊢
    rw [← h2]
    exact h4
theorem parS_inv {b : List UInt8} (h : (parS b).2 = 0) : schS (parS b).1 = true ∧ schB (parS b).1 = b := by
  unfold parS at h ⊢
  by_cases he : endS (tkSch b).2.1 (tkSch b).2.2 = 0
  · rw [if_neg (by simpa using he)] at h ⊢
    by_cases hs : schS (tkSch b).1 = true
    · rw [if_pos hs]
      refine ⟨hs, ?_⟩
      have h0 : (tkSch b).2.2 = 0 := by
        unfold endS at he
        split at he
        · exact he
        · rename_i h; simpa using h
      have h1 : (tkSch b).2.1 = [] := by
        unfold endS at he
        rw [if_neg (by simpa using h0)] at he
        split at he
        · assumption
        · cases he
      obtain ⟨a1, a2⟩ := tkFrms_inv _ _ h0
      obtain ⟨b1, b2⟩ := countS_inv a1
      obtain ⟨c1, c2⟩ := countS_inv b1
      have e : (tkFrms (countS (countS b 0 65535).2.1 (countS b 0 65535).2.2 8).1.toNat (countS (countS b 0 65535).2.1 (countS b 0 65535).2.2 8).2).2.1 = [] := h1
      rw [e, List.append_nil] at a2
      simp only [tkSch, schB, tkFrms_n, List.append_assoc]
      rw [← a2, ← b2]
      exact c2.symm
    · rw [if_neg hs] at h
      cases h
  · rw [if_pos he] at h
    exact absurd h he
end Go.Proofs.Ythmocicjocjdoaa.V
