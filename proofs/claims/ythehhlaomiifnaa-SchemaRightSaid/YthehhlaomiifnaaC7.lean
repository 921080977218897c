/- Contracts of fields and schemas. -/
import Derived.Test.YthehhlaomiifnaaP3
import Derived.Test.YthehhlaomiifnaaWg
set_option linter.unusedVariables false
set_option linter.unusedSimpArgs false
namespace Go.Proofs.Ythehhlaomiifnaa.V
open Go
theorem rgtS_1 {f : Fld} (k : f.kind = 1) : rgtS f = (decide (0 ≤ f.id) && (decide (f.id ≤ 255) && (decide (-1099511627776 ≤ f.lo) && (decide (f.lo ≤ f.hi) && (decide (f.hi ≤ 1099511627776) && decide (f.most = 0)))))) := by
  simp [rgtS, k, Bool.and_assoc, Bool.decide_and]
theorem rgtS_2 {f : Fld} (k : f.kind = 2) : rgtS f = (decide (0 ≤ f.id) && (decide (f.id ≤ 255) && (decide (f.lo = 0) && (decide (f.hi = 0) && decide (f.most = 0))))) := by
  simp [rgtS, k, Bool.and_assoc, Bool.decide_and]
theorem rgtS_3 {f : Fld} (k : f.kind = 3) : rgtS f = (decide (0 ≤ f.id) && (decide (f.id ≤ 255) && (decide (f.lo = 0) && (decide (f.hi = 0) && (decide (1 ≤ f.most) && decide (f.most ≤ 1000)))))) := by
  simp [rgtS, k, Bool.and_assoc, Bool.decide_and]
theorem rgtS_4 {f : Fld} (k : f.kind = 4) : rgtS f = (decide (0 ≤ f.id) && (decide (f.id ≤ 255) && (decide (f.lo = 0) && (decide (f.hi = 0) && (decide (0 ≤ f.most) && decide (f.most ≤ 32)))))) := by
  simp [rgtS, k, Bool.and_assoc, Bool.decide_and]
theorem rgtS_0 {f : Fld} (k1 : f.kind ≠ 1) (k2 : f.kind ≠ 2) (k3 : f.kind ≠ 3) (k4 : f.kind ≠ 4) : rgtS f = false := by
  simp [rgtS, k1, k2, k3, k4]
theorem c_fRight (f : Fld) : tbl E0 100 [fldV f] [] = some ([.bool (rgtS f)], []) :=
  t_fRight f (by
    unfold s_fRight
    by_cases i0 : f.id < 0
    · have : rgtS f = false := by have : ¬ (0 ≤ f.id) := by omega
                                  simp [rgtS, this]
      simp [i0, this]
    · by_cases i1 : 255 < f.id
      · have : rgtS f = false := by have : ¬ (f.id ≤ 255) := by omega
                                    simp [rgtS, this]
        simp [i0, i1, this]
      · have j0 : 0 ≤ f.id := by omega
        have j1 : f.id ≤ 255 := by omega
        simp only [OA_chk, cond_true, OA_join, i0, decide_false, cond_false, show ¬ (f.id > 255) from i1, Option.bind_some, Tok.untok_tok, tok_cond]
        by_cases k1 : f.kind = 1
        · rw [rgtS_1 k1]
          by_cases a : -1099511627776 ≤ f.lo <;> by_cases b : f.lo ≤ f.hi <;> by_cases c : f.hi ≤ 1099511627776 <;> by_cases d : f.lo = 0 <;> by_cases e : f.most = 0 <;> simp [*]
        · by_cases k2 : f.kind = 2
          · rw [rgtS_2 k2]
            by_cases a : f.lo = 0 <;> by_cases b : f.hi = 0 <;> by_cases e : f.most = 0 <;> simp [*]
          · by_cases k3 : f.kind = 3
            · rw [rgtS_3 k3]
              by_cases a : f.lo = 0 <;> by_cases b : f.hi = 0 <;> by_cases c : 1 ≤ f.most <;> simp [*]
            · by_cases k4 : f.kind = 4
              · rw [rgtS_4 k4]
                by_cases a : f.lo = 0 <;> by_cases b : f.hi = 0 <;> by_cases c : 0 ≤ f.most <;> simp [*]
              · rw [rgtS_0 k1 k2 k3 k4]
                by_cases a : f.lo = 0 <;> simp [*])
theorem c_fbounds (f : Fld) (h : f.kind = 3 → rgtS f = true) : tbl E0 170 [fldV f] [] = some ([.int .i64 (loS f), .int .i64 (hiS f)], []) :=
  t_fbounds f (by
    unfold s_fbounds
    by_cases k1 : f.kind = 1
    · simp [k1, loS, hiS]
    · by_cases k2 : f.kind = 2
      · simp [k2, loS, hiS]
      · by_cases k3 : f.kind = 3
        · have h' := h k3
          rw [rgtS_3 k3] at h'
          simp only [Bool.and_eq_true, decide_eq_true_eq] at h'
          rw [wrap_i64 _ (by omega) (by omega)]
          simp [k3, loS, hiS]
        · simp [k1, k2, k3, loS, hiS])
theorem c_fwidthL (n : Nat) : ∀ (w : Nat), n < 9223372036854775808 → w + n < 9223372036854775808 → ltbl E0 171 0 2 [.int .i64 (n : Int), .int .i64 (w : Int)] [] = some (1, [.int .i64 ((w + wdS n : Nat) : Int)], []) := by
  induction n using wdS.induct with
  | case1 =>
    intro w hn hw
    exact t_fwidthL _ _ (by rw [wdS]; simp [s_fwidthL])
  | case2 n h ih =>
    intro w hn hw
    refine t_fwidthL _ _ ?_
    have h0 : (n : Int) > 0 := by omega
    have e : (n : Int).fdiv ((2 : Int) ^ (8 : Nat)) = ((n / 256 : Nat) : Int) := by rw [Int.fdiv_eq_ediv_of_nonneg _ (by decide)]; omega
    have e2 : IntKind.i64.wrap ((w : Int) + 1) = ((w + 1 : Nat) : Int) := by rw [wrap_i64 _ (by omega) (by omega)]; omega
    have e3 : wdS n = wdS (n / 256) + 1 := by rw [wdS]; simp [h]
    have := ih (w + 1) (by omega) (by omega)
    rw [e3, show w + (wdS (n / 256) + 1) = w + 1 + wdS (n / 256) by omega, ← this]
    simp only [s_fwidthL, h0, decide_true, cond_true, OA_chk, e, e2]
theorem c_fwidth (n : Int) (h : n < 9223372036854775808) : tbl E0 171 [.int .i64 n] [] = some ([.int .i64 (wdS n.toNat : Nat)], []) :=
  t_fwidth n (by
    by_cases h0 : 0 ≤ n
    · have := c_fwidthL n.toNat 0 (by omega) (by omega)
      rw [show (n.toNat : Int) = n by omega] at this
      simp only [Int.natCast_zero] at this
      simp [s_fwidth, this]
    · have e : ltbl E0 171 0 2 [.int .i64 n, .int .i64 0] [] = some (1, [.int .i64 0], []) := t_fwidthL _ _ (by
        have : ¬ (0 < n) := by omega
        simp [s_fwidthL, this])
      have e0 : n.toNat = 0 := by omega
      rw [e0, wdS]
      simp [s_fwidth, e])
theorem c_ywideL (n : Nat) : ∀ (w : Nat), n < 9223372036854775808 → w + n < 9223372036854775808 → ltbl E0 149 0 2 [.int .i64 (n : Int), .int .i64 (w : Int)] [] = some (1, [.int .i64 ((w + wdS n : Nat) : Int)], []) := by
  induction n using wdS.induct with
  | case1 =>
    intro w hn hw
    exact t_ywideL _ _ (by rw [wdS]; simp [s_ywideL])
  | case2 n h ih =>
    intro w hn hw
    refine t_ywideL _ _ ?_
    have h0 : (n : Int) > 0 := by omega
    have e : IntKind.i64.wrap ((n : Int).tdiv 256) = ((n / 256 : Nat) : Int) := by
      have e1 : (n : Int).tdiv 256 = ((n / 256 : Nat) : Int) := by rw [Int.tdiv_eq_ediv_of_nonneg (by omega)]; omega
      rw [e1, wrap_i64 _ (by omega) (by omega)]
    have e2 : IntKind.i64.wrap ((w : Int) + 1) = ((w + 1 : Nat) : Int) := by rw [wrap_i64 _ (by omega) (by omega)]; omega
    have e3 : wdS n = wdS (n / 256) + 1 := by rw [wdS]; simp [h]
    have := ih (w + 1) (by omega) (by omega)
    rw [e3, show w + (wdS (n / 256) + 1) = w + 1 + wdS (n / 256) by omega, ← this]
    simp only [s_ywideL, h0, decide_true, cond_true, OA_chk, e, e2]
theorem c_ywide (n : Int) (h : n < 9223372036854775808) : tbl E0 149 [.int .i64 n] [] = some ([.int .i64 (wdS n.toNat : Nat)], []) :=
  t_ywide n (by
    by_cases h0 : 0 ≤ n
    · have := c_ywideL n.toNat 0 (by omega) (by omega)
      rw [show (n.toNat : Int) = n by omega] at this
      simp only [Int.natCast_zero] at this
      simp [s_ywide, this]
    · have e : ltbl E0 149 0 2 [.int .i64 n, .int .i64 0] [] = some (1, [.int .i64 0], []) := t_ywideL _ _ (by
        have : ¬ (0 < n) := by omega
        simp [s_ywideL, this])
      have e0 : n.toNat = 0 := by omega
      rw [e0, wdS]
      simp [s_ywide, e])
/-- The range of a right field. -/
theorem rgt_rng {f : Fld} (h : rgtS f = true) : 0 ≤ f.id ∧ f.id ≤ 255 ∧ (f.kind = 1 ∨ f.kind = 2 ∨ f.kind = 3 ∨ f.kind = 4) ∧ 0 ≤ hiS f - loS f ∧ hiS f - loS f ≤ 2199023255552 ∧ (f.kind ≠ 1 → f.lo = 0 ∧ f.hi = 0) ∧ (f.kind = 1 → -1099511627776 ≤ f.lo ∧ f.lo ≤ f.hi ∧ f.hi ≤ 1099511627776 ∧ f.most = 0) ∧ 0 ≤ f.most ∧ f.most ≤ 1000 ∧ (f.kind = 4 → f.most ≤ 32) ∧ (f.kind = 3 → 1 ≤ f.most) ∧ (f.kind = 2 → f.most = 0) := by
  by_cases k1 : f.kind = 1
  · rw [rgtS_1 k1] at h; simp [k1, loS, hiS] at h ⊢; omega
  · by_cases k2 : f.kind = 2
    · rw [rgtS_2 k2] at h; simp [k2, loS, hiS] at h ⊢; omega
    · by_cases k3 : f.kind = 3
      · rw [rgtS_3 k3] at h; simp [k3, loS, hiS] at h ⊢; omega
      · by_cases k4 : f.kind = 4
        · rw [rgtS_4 k4] at h; simp [k4, loS, hiS] at h ⊢; omega
        · rw [rgtS_0 k1 k2 k3 k4] at h; cases h
theorem c_fwide (f : Fld) (h : rgtS f = true) : tbl E0 148 [fldV f] [] = some ([.int .i64 (wdS (hiS f - loS f).toNat : Nat)], []) :=
  t_fwide f (by
    have r := rgt_rng h
    have e := c_fbounds f (fun _ => h)
    have e2 := c_fwidth (hiS f - loS f) (by omega)
    simp only [s_fwide, OA_chk, cond_true, OA_callx, e, Option.bind_some, u_asC, u_asI, u_asN, wrap_i64 (hiS f - loS f) (by omega) (by omega), e2])
theorem c_fSize (f : Fld) : tbl E0 102 [fldV f] [] = some ([.int .i64 (sizeS f)], []) :=
  t_fSize f (by
    have e := c_fRight f
    simp only [s_fSize, OA_chk, cond_true, OA_callx, e, Option.bind_some, u_asC, u_asB, u_asI, u_asN]
    cases h : rgtS f with
    | false => simp [sizeS, h]
    | true =>
      have r := rgt_rng h
      have e2 := c_fwide f h
      by_cases k4 : f.kind = 4
      · rw [wrap_i64 (f.most + 1) (by omega) (by omega)]
        simp [sizeS, h, k4]
      · by_cases k2 : f.kind = 2
        · simp [sizeS, h, k2, hiS, loS, wdS]
        · simp only [sizeS, h, k4, k2, beq_f k4, beq_f k2, if_true, if_false, Bool.not_true, cond_false, e2, Option.bind_some, u_asC, u_asI, u_asN])
theorem c_ySpan (f : Fld) : ∃ lo hi most, tbl E0 147 [fldV f] [] = some ([.int .i64 lo, .int .i64 hi, .int .i64 most, .bool (rgtS f)], []) ∧ (rgtS f = true → lo = loS f ∧ hi = hiS f ∧ most = if f.kind = 4 then f.most else 0) := by
  by_cases k1 : f.kind = 1
  · refine ⟨f.lo, f.hi, 0, t_ySpan f ?_, fun _ => by simp [k1, loS, hiS]⟩
    rw [rgtS_1 k1]
    simp only [s_ySpan]
    by_cases a : 0 ≤ f.id <;> by_cases b : f.id ≤ 255 <;> by_cases c : -1099511627776 ≤ f.lo <;> by_cases d : f.lo ≤ f.hi <;> by_cases e : f.hi ≤ 1099511627776 <;> by_cases e2 : f.most = 0 <;> simp [*]
  · by_cases k2 : f.kind = 2
    · refine ⟨0, 1, 0, t_ySpan f ?_, fun _ => by simp [k2, loS, hiS]⟩
      rw [rgtS_2 k2]
      simp only [s_ySpan]
      by_cases a : 0 ≤ f.id <;> by_cases b : f.id ≤ 255 <;> by_cases c : f.lo = 0 <;> by_cases d : f.hi = 0 <;> by_cases e2 : f.most = 0 <;> simp [*]
    · by_cases k3 : f.kind = 3
      · refine ⟨0, IntKind.i64.wrap (f.most - 1), 0, t_ySpan f ?_, fun h => ?_⟩
        · rw [rgtS_3 k3]
          simp only [s_ySpan]
          by_cases a : 0 ≤ f.id <;> by_cases b : f.id ≤ 255 <;> by_cases c : f.lo = 0 <;> by_cases d : f.hi = 0 <;> by_cases e : 1 ≤ f.most <;> simp [*]
        · have r := rgt_rng h
          rw [wrap_i64 _ (by omega) (by omega)]
          simp [k3, loS, hiS]
      · by_cases k4 : f.kind = 4
        · refine ⟨0, 0, f.most, t_ySpan f ?_, fun _ => by simp [k4, loS, hiS]⟩
          rw [rgtS_4 k4]
          simp only [s_ySpan]
          by_cases a : 0 ≤ f.id <;> by_cases b : f.id ≤ 255 <;> by_cases c : f.lo = 0 <;> by_cases d : f.hi = 0 <;> by_cases e : 0 ≤ f.most <;> simp [*]
        · refine ⟨0, 0, 0, t_ySpan f ?_, fun h => by rw [rgtS_0 k1 k2 k3 k4] at h; cases h⟩
          rw [rgtS_0 k1 k2 k3 k4]
          simp only [s_ySpan]
          by_cases a : 0 ≤ f.id <;> simp [*]
theorem c_yRight (f : Fld) : tbl E0 101 [fldV f] [] = some ([.bool (rgtS f)], []) := by
  obtain ⟨lo, hi, most, e, _⟩ := c_ySpan f
  exact t_yRight f (by simp only [s_yRight, OA_chk, cond_true, OA_callx, e, Option.bind_some, u_asC, u_asI, u_asB, u_asN])
theorem c_ySize (f : Fld) : tbl E0 103 [fldV f] [] = some ([.int .i64 (sizeS f)], []) := by
  obtain ⟨lo, hi, most, e, h⟩ := c_ySpan f
  refine t_ySize f ?_
  simp only [s_ySize, OA_chk, cond_true, OA_callx, e, Option.bind_some, u_asC, u_asI, u_asB, u_asN]
  cases hr : rgtS f with
  | false => simp [sizeS, hr]
  | true =>
    obtain ⟨rfl, rfl, rfl⟩ := h hr
    have r := rgt_rng hr
    by_cases k4 : f.kind = 4
    · rw [if_pos k4, wrap_i64 (1 + f.most) (by omega) (by omega)]
      simp [sizeS, hr, k4, Int.add_comm]
    · have e2 := c_ywide (hiS f - loS f) (by omega)
      simp only [sizeS, hr, k4, beq_f k4, if_true, if_false, Bool.not_true, cond_false, wrap_i64 (hiS f - loS f) (by omega) (by omega), e2, Option.bind_some, u_asC, u_asI, u_asN]
end Go.Proofs.Ythehhlaomiifnaa.V
