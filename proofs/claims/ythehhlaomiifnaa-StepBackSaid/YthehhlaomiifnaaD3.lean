/- What is read was printed so. -/
import Derived.Test.YthehhlaomiifnaaD2
set_option linter.unusedVariables false
set_option linter.unusedSimpArgs false
namespace Go.Proofs.Ythehhlaomiifnaa.V
open Go
theorem pow_le_i {i : Nat} (h : i ≤ 8) : 128 ≤ 2 ^ (64 - 7 * i) :=
  Nat.le_trans (by decide : 128 ≤ 2 ^ (64 - 7 * 8)) (Nat.pow_le_pow_right (by omega) (by omega))
theorem grp_inv : ∀ (l : List UInt8) (i a x j : Nat), i ≤ 9 → grp i a l = (x, j, 0) → ∃ u, u < 2 ^ (64 - 7 * i) ∧ (0 < i → 0 < u) ∧ x = a + u * 128 ^ i ∧ j = i + (cnt u).length ∧ l = cnt u ++ l.drop (cnt u).length
  | [], i, a, x, j, hi, h => by simp [grp] at h
  | c :: l, i, a, x, j, hi, h => by
    rw [grp] at h
    by_cases hb : (i = 9 ∧ 1 < c.toNat) ∨ (0 < i ∧ c.toNat = 0)
    · rw [if_pos hb] at h; simp at h
    · rw [if_neg hb] at h
      by_cases hc : c.toNat < 128
      · rw [if_pos hc] at h
        simp only [Prod.mk.injEq] at h
        obtain ⟨rfl, rfl, _⟩ := h
        have e : cnt c.toNat = [c] := by rw [cnt, if_pos hc, byt_self]
        refine ⟨c.toNat, ?_, fun h0 => by omega, rfl, by rw [e]; rfl, by rw [e]; rfl⟩
        by_cases h9 : i = 9
        · subst h9
          have : (2 : Nat) ^ (64 - 7 * 9) = 2 := by decide
          omega
        · have := pow_le_i (i := i) (by omega)
          omega
      · rw [if_neg hc] at h
        have h9 : i ≠ 9 := by intro h9; exact hb (Or.inl ⟨h9, by omega⟩)
        obtain ⟨u, h1, h2, h3, h4, h5⟩ := grp_inv l (i + 1) _ x j (by omega) h
        have hu := h2 (by omega)
        have hcl : c.toNat < 256 := c.toNat_lt
        have e : cnt (c.toNat % 128 + 128 * u) = c :: cnt u := by
          rw [cnt, if_neg (by omega)]
          have e1 : (c.toNat % 128 + 128 * u) / 128 = u := by omega
          have e2 : (c.toNat % 128 + 128 * u) % 128 + 128 = c.toNat := by omega
          rw [e1, e2, byt_self]
        refine ⟨c.toNat % 128 + 128 * u, ?_, fun _ => by omega, ?_, ?_, ?_⟩
        · have e3 : 64 - 7 * i = (64 - 7 * (i + 1)) + 7 := by omega
          rw [e3, Nat.pow_add]
          generalize 2 ^ (64 - 7 * (i + 1)) = p at h1
          have : (2 : Nat) ^ 7 = 128 := by decide
          rw [this]
          omega
        · rw [h3, Nat.pow_succ]
          generalize 128 ^ i = p
          rw [Nat.add_mul]
          have : u * (p * 128) = 128 * u * p := by rw [Nat.mul_comm p 128, ← Nat.mul_assoc, Nat.mul_comm u 128]
          omega
        · rw [e, List.length_cons]; omega
        · rw [e, List.length_cons, List.drop_succ_cons, List.cons_append, ← h5]
theorem zz_unz {u : Nat} : zz (unz u) = u := by unfold unz zz; split <;> split <;> omega
theorem grpS_inv {b : List UInt8} {e : Int} (h : (grpS b e).2.2 = 0) : e = 0 ∧ (grpS b e).1 < 18446744073709551616 ∧ b = cnt (grpS b e).1 ++ (grpS b e).2.1 := by
  unfold grpS at h ⊢
  by_cases he : e = 0
  · subst he
    simp only [ne_eq, not_true_eq_false, if_false] at h ⊢
    by_cases hg : (grp 0 0 b).2.2 = 0
    · obtain ⟨u, h1, _, h3, h4, h5⟩ := grp_inv b 0 0 (grp 0 0 b).1 (grp 0 0 b).2.1 (by omega) (by rw [← hg])
      simp only [hg, not_true_eq_false, if_false]
      simp only [Nat.pow_zero, Nat.mul_one, Nat.zero_add] at h3 h4
      rw [h3, h4]
      exact ⟨trivial, h1, h5⟩
    · simp [hg] at h
  · simp [he] at h
theorem numS_inv {b : List UInt8} {e : Int} (h : (numS b e).2.2 = 0) : e = 0 ∧ (-9223372036854775808 ≤ (numS b e).1 ∧ (numS b e).1 ≤ 9223372036854775807) ∧ b = cnt (zz (numS b e).1) ++ (numS b e).2.1 := by
  obtain ⟨h1, h2, h3⟩ := grpS_inv (b := b) (e := e) h
  exact ⟨h1, unz_range h2, by unfold numS; rw [zz_unz]; exact h3⟩
theorem countS_inv {b : List UInt8} {e m : Int} (h : (countS b e m).2.2 = 0) : e = 0 ∧ b = cnt (countS b e m).1.toNat ++ (countS b e m).2.1 := by
  unfold countS at h ⊢
  by_cases he : e = 0
  · subst he
    simp only [ne_eq, not_true_eq_false, if_false] at h ⊢
    by_cases hg : (grp 0 0 b).2.2 = 0
    · obtain ⟨u, h1, _, h3, h4, h5⟩ := grp_inv b 0 0 (grp 0 0 b).1 (grp 0 0 b).2.1 (by omega) (by rw [← hg])
      simp only [hg, not_true_eq_false, if_false] at h ⊢
      simp only [Nat.pow_zero, Nat.mul_one, Nat.zero_add] at h3 h4
      split at h
      · simp at h
      · rename_i ha
        rw [if_neg ha]
        split at h
        · simp at h
        · rename_i hb
          rw [if_neg hb]
          simp only [Int.toNat_natCast]
          rw [h3, h4]
          exact ⟨trivial, h5⟩
    · simp [hg] at h
  · simp [he] at h
theorem tkFld_inv {q : St} (h : (tkFld q).2.2 = 0) : q.2 = 0 ∧ q.1 = fldB (tkFld q).1 ++ (tkFld q).2.1 := by
  unfold tkFld at h ⊢
  unfold fldB
  by_cases k1 : (countS (countS q.1 q.2 255).2.1 (countS q.1 q.2 255).2.2 4).1 = 1
  · simp only [k1, if_true] at h ⊢
    obtain ⟨a1, _, a2⟩ := numS_inv h
    obtain ⟨b1, _, b2⟩ := numS_inv a1
    obtain ⟨c1, c2⟩ := countS_inv b1
    obtain ⟨d1, d2⟩ := countS_inv c1
    refine ⟨d1, ?_⟩
    rw [k1] at c2
    simp only [List.append_assoc]
    rw [← a2, ← b2, ← c2]
    exact d2
  · by_cases k3 : (countS (countS q.1 q.2 255).2.1 (countS q.1 q.2 255).2.2 4).1 = 3 ∨ (countS (countS q.1 q.2 255).2.1 (countS q.1 q.2 255).2.2 4).1 = 4
    · simp only [k1, k3, if_true, if_false] at h ⊢
      obtain ⟨a1, a2⟩ := countS_inv h
      obtain ⟨c1, c2⟩ := countS_inv a1
      obtain ⟨d1, d2⟩ := countS_inv c1
      refine ⟨d1, ?_⟩
      simp only [List.append_assoc]
      rw [← a2, ← c2]
      exact d2
    · simp only [k1, k3, if_false] at h ⊢
      obtain ⟨c1, c2⟩ := countS_inv h
      obtain ⟨d1, d2⟩ := countS_inv c1
      refine ⟨d1, ?_⟩
      simp only [List.append_assoc, List.nil_append]
      rw [← c2]
      exact d2
theorem tkFlds_inv : ∀ (n : Nat) (q : St), (tkFlds n q).2.2 = 0 → q.2 = 0 ∧ q.1 = fldsB (tkFlds n q).1 ++ (tkFlds n q).2.1
  | 0, q, h => ⟨h, rfl⟩
  | n + 1, q, h => by
    obtain ⟨h1, h2⟩ := tkFlds_inv n _ h
    obtain ⟨h3, h4⟩ := tkFld_inv h1
    refine ⟨h3, ?_⟩
    simp only [tkFlds, fldsB, List.map_cons, List.flatten_cons, List.append_assoc] at h2 ⊢
    rw [← h2]
    exact h4
theorem tkFrm_inv {q : St} (h : (tkFrm q).2.2 = 0) : q.2 = 0 ∧ q.1 = frmB (tkFrm q).1 ++ (tkFrm q).2.1 := by
  obtain ⟨a1, a2⟩ := tkFlds_inv _ _ h
  obtain ⟨b1, b2⟩ := countS_inv a1
  obtain ⟨c1, c2⟩ := countS_inv b1
  refine ⟨c1, ?_⟩
  simp only [tkFrm, frmB, tkFlds_n, List.append_assoc]
  rw [← a2, ← b2]
  exact c2
theorem tkFrms_inv : ∀ (n : Nat) (q : St), (tkFrms n q).2.2 = 0 → q.2 = 0 ∧ q.1 = frmsB (tkFrms n q).1 ++ (tkFrms n q).2.1
  | 0, q, h => ⟨h, rfl⟩
  | n + 1, q, h => by
    obtain ⟨h1, h2⟩ := tkFrms_inv n _ h
    obtain ⟨h3, h4⟩ := tkFrm_inv h1
    refine ⟨h3, ?_⟩
    simp only [tkFrms, frmsB, List.map_cons, List.flatten_cons, List.append_assoc] at h2 ⊢
    rw [← h2]
    exact h4
theorem parS_inv {b : List UInt8} (h : (parS b).2 = 0) : schS (parS b).1 = true ∧ schB (parS b).1 = b := by
  unfold parS at h ⊢
  by_cases he : endS (tkSch b).2.1 (tkSch b).2.2 = 0
  · rw [if_neg (by simpa using he)] at h ⊢
    by_cases hs : schS (tkSch b).1 = true
    · rw [if_pos hs]
      refine ⟨hs, ?_⟩
      have h0 : (tkSch b).2.2 = 0 := by
        unfold endS at he
        split at he
        · exact he
        · rename_i h; simpa using h
      have h1 : (tkSch b).2.1 = [] := by
        unfold endS at he
        rw [if_neg (by simpa using h0)] at he
        split at he
        · assumption
        · cases he
      obtain ⟨a1, a2⟩ := tkFrms_inv _ _ h0
      obtain ⟨b1, b2⟩ := countS_inv a1
      obtain ⟨c1, c2⟩ := countS_inv b1
      have e : (tkFrms (countS (countS b 0 65535).2.1 (countS b 0 65535).2.2 8).1.toNat (countS (countS b 0 65535).2.1 (countS b 0 65535).2.2 8).2).2.1 = [] := h1
      rw [e, List.append_nil] at a2
      simp only [tkSch, schB, tkFrms_n, List.append_assoc]
      rw [← a2, ← b2]
      exact c2.symm
    · rw [if_neg hs] at h
      cases h
  · rw [if_pos he] at h
    exact absurd h he
end Go.Proofs.Ythehhlaomiifnaa.V
