/- Contracts of fields and schemas. -/
import Derived.Test.YthmocicjocjdoaaP3
import Derived.Test.YthmocicjocjdoaaBg
set_option linter.unusedVariables false
set_option linter.unusedSimpArgs false
namespace Go.Proofs.Ythmocicjocjdoaa.V
open Go
theorem rgtS_1 {f : Fld} (k : f.kind = 1) : rgtS f = (decide (0 ≤ f.id) && (decide (f.id ≤ 255) && (decide (-1099511627776 ≤ f.lo) && (decide (f.lo ≤ f.hi) && (decide (f.hi ≤ 1099511627776) && decide (f.most = 0)))))) := by
  simp [rgtS, k, Bool.and_assoc, Bool.decide_and]
theorem rgtS_2 {f : Fld} (k : f.kind = 2) : rgtS f = (decide (0 ≤ f.id) && (decide (f.id ≤ 255) && (decide (f.lo = 0) && (decide (f.hi = 0) && decide (f.most = 0))))) := by
  simp [rgtS, k, Bool.and_assoc, Bool.decide_and]
theorem rgtS_3 {f : Fld} (k : f.kind = 3) : rgtS f = (decide (0 ≤ f.id) && (decide (f.id ≤ 255) && (decide (f.lo = 0) && (decide (f.hi = 0) && (decide (1 ≤ f.most) && decide (f.most ≤ 1000)))))) := by
  simp [rgtS, k, Bool.and_assoc, Bool.decide_and]
theorem rgtS_4 {f : Fld} (k : f.kind = 4) : rgtS f = (decide (0 ≤ f.id) && (decide (f.id ≤ 255) && (decide (f.lo = 0) && (decide (f.hi = 0) && (decide (0 ≤ f.most) && decide (f.most ≤ 32)))))) := by
  simp [rgtS, k, Bool.and_assoc, Bool.decide_and]
theorem rgtS_0 {f : Fld} (k1 : f.kind ≠ 1) (k2 : f.kind ≠ 2) (k3 : f.kind ≠ 3) (k4 : f.kind ≠ 4) : rgtS f = false := by
  simp [rgtS, k1, k2, k3, k4]
theorem c_fRight (f : Fld) : tbl E0 154 [fldV f] [] = some ([.bool (rgtS f)], []) :=
  t_fRight f (by
    unfold s_fRight
    by_cases i0 : f.id < 0
    · have : rgtS f = false := by have : ¬ (0 ≤ f.id) := by omega
                                  simp [rgtS, this]
      simp [i0, this]
    · by_cases i1 : 255 < f.id
      · have : rgtS f = false := by have : ¬ (f.id ≤ 255) := by omega
                                    simp [rgtS, this]
        simp [i0, i1, this]
      · have j0 : 0 ≤ f.id := by omega
        have j1 : f.id ≤ 255 := by omega
        simp only [OA_chk, cond_true, OA_join, i0, decide_false, cond_false, show ¬ (f.id > 255) from i1, Option.bind_some, Tok.untok_tok, tok_cond]
        by_cases k1 : f.kind = 1
        · rw [rgtS_1 k1]
          by_cases a : -1099511627776 ≤ f.lo <;> by_cases b : f.lo ≤ f.hi <;> by_cases c : f.hi ≤ 1099511627776 <;> by_cases d : f.lo = 0 <;> by_cases e : f.most = 0 <;> simp [*]
        · by_cases k2 : f.kind = 2
          · rw [rgtS_2 k2]
            by_cases a : f.lo = 0 <;> by_cases b : f.hi = 0 <;> by_cases e : f.most = 0 <;> simp [*]
          · by_cases k3 : f.kind = 3
            · rw [rgtS_3 k3]
              by_cases a : f.lo = 0 <;> by_cases b : f.hi = 0 <;> by_cases c : 1 ≤ f.most <;> simp [*]
            · by_cases k4 : f.kind = 4
              · rw [rgtS_4 k4]
                by_cases a : f.lo = 0 <;> by_cases b : f.hi = 0 <;> by_cases c : 0 ≤ f.most <;> simp [*]
              · rw [rgtS_0 k1 k2 k3 k4]
                by_cases a : f.lo = 0 <;> simp [*])
theorem c_fbounds (f : Fld) (h : f.kind = 3 → rgtS f = true) : tbl E0 156 [fldV f] [] = some ([.int .i64 (loS f), .int .i64 (hiS f)], []) :=
  t_fbounds f (by
    unfold s_fbounds
    by_cases k1 : f.kind = 1
    · simp [k1, loS, hiS]
    · by_cases k2 : f.kind = 2
      · simp [k2, loS, hiS]
      · by_cases k3 : f.kind = 3
        · have h' := h k3
          rw [rgtS_3 k3] at h'
          simp only [Bool.and_eq_true, decide_eq_true_eq] at h'
          rw [wrap_i64 _ (by omega) (by omega)]
          simp [k3, loS, hiS]
        · simp [k1, k2, k3, loS, hiS])
theorem c_fwidthL (n : Nat) : ∀ (w : Nat), n < 9223372036854775808 → w + n < 9223372036854775808 → ltbl E0 171 0 2 [.int .i64 (n : Int), .int .i64 (w : Int)] [] = some (1, [.int .i64 ((w + wdS n : Nat) : Int)], []) := by
  induction n using wdS.induct with
  | case1 =>
    intro w hn hw
    exact t_fwidthL _ _ (by rw [wdS]; simp [s_fwidthL])
  | case2 n h ih =>
    intro w hn hw
    refine t_fwidthL _ _ ?_
    have h0 : (n : Int) > 0 := by omega
    have e : (n : Int).fdiv ((2 : Int) ^ (8 : Nat)) = ((n / 256 : Nat) : Int) := by rw [Int.fdiv_eq_ediv_of_nonneg _ (by decide)]; omega
    have e2 : IntKind.i64.wrap ((w : Int) + 1) = ((w + 1 : Nat) : Int) := by rw [wrap_i64 _ (by omega) (by omega)]; omega
    have e3 : wdS n = wdS (n / 256) + 1 := by rw [wdS]; simp [h]
    have := ih (w + 1) (by omega) (by omega)
    rw [e3, show w + (wdS (n / 256) + 1) = w + 1 + wdS (n / 256) by omega, ← this]
    simp only [s_fwidthL, h0, decide_true, cond_true, OA_chk, e, e2]
theorem c_fwidth (n : Int) (h : n < 9223372036854775808) : tbl E0 171 [.int .i64 n] [] = some ([.int .i64 (wdS n.toNat : Nat)], []) :=
  t_fwidth n (by
    by_cases h0 : 0 ≤ n
    · have := c_fwidthL n.toNat 0 (by omega) (by omega)
      rw [show (n.toNat : Int) = n by omega] at this
      simp only [Int.natCast_zero] at this
      simp [s_fwidth, this]
    · have e : ltbl E0 171 0 2 [.int .i64 n, .int .i64 0] [] = some (1, [.int .i64 0], []) := t_fwidthL _ _ (by
        have : ¬ (0 < n) := by omega
        simp [s_fwidthL, this])
      have e0 : n.toNat = 0 := by omega
      rw [e0, wdS]
      simp [s_fwidth, e])
theorem c_ywideL (n : Nat) : ∀ (w : Nat), n < 9223372036854775808 → w + n < 9223372036854775808 → ltbl E0 174 0 2 [.int .i64 (n : Int), .int .i64 (w : Int)] [] = some (1, [.int .i64 ((w + wdS n : Nat) : Int)], []) := by
  induction n using wdS.induct with
  | case1 =>
    intro w hn hw
    exact t_ywideL _ _ (by rw [wdS]; simp [s_ywideL])
  | case2 n h ih =>
    intro w hn hw
    refine t_ywideL _ _ ?_
    have h0 : (n : Int) > 0 := by omega
    have e : IntKind.i64.wrap ((n : Int).tdiv 256) = ((n / 256 : Nat) : Int) := by
      have e1 : (n : Int).tdiv 256 = ((n / 256 : Nat) : Int) := by rw [Int.tdiv_eq_ediv_of_nonneg (by omega)]; omega
      rw [e1, wrap_i64 _ (by omega) (by omega)]
    have e2 : IntKind.i64.wrap ((w : Int) + 1) = ((w + 1 : Nat) : Int) := by rw [wrap_i64 _ (by omega) (by omega)]; omega
    have e3 : wdS n = wdS (n / 256) + 1 := by rw [wdS]; simp [h]
    have := ih (w + 1) (by omega) (by omega)
    rw [e3, show w + (wdS (n / 256) + 1) = w + 1 + wdS (n / 256) by omega, ← this]
    simp only [s_ywideL, h0, decide_true, cond_true, OA_chk, e, e2]
theorem c_ywide (n : Int) (h : n < 9223372036854775808) : tbl E0 174 [.int .i64 n] [] = some ([.int .i64 (wdS n.toNat : Nat)], []) :=
  t_ywide n (by
    by_cases h0 : 0 ≤ n
    · have := c_ywideL n.toNat 0 (by omega) (by omega)
      rw [show (n.toNat : Int) = n by omega] at this
      simp only [Int.natCast_zero] at this
      simp [s_ywide, this]
    · have e : ltbl E0 174 0 2 [.int .i64 n, .int .i64 0] [] = some (1, [.int .i64 0], []) := t_ywideL _ _ (by
        have : ¬ (0 < n) := by omega
        simp [s_ywideL, this])
      have e0 : n.toNat = 0 := by omega
      rw [e0, wdS]
      simp [s_ywide, e])
/-- The range of a right field. -/
theorem rgt_rng {f : Fld} (h : rgtS f = true) : 0 ≤ f.id ∧ f.id ≤ 255 ∧ (f.kind = 1 ∨ f.kind = 2 ∨ f.kind = 3 ∨ f.kind = 4) ∧ 0 ≤ hiS f - loS f ∧ hiS f - loS f ≤ 2199023255552 ∧ (f.kind ≠ 1 → f.lo = 0 ∧ f.hi = 0) ∧ (f.kind = 1 → -1099511627776 ≤ f.lo ∧ f.lo ≤ f.hi ∧ f.hi ≤ 1099511627776 ∧ f.most = 0) ∧ 0 ≤ f.most ∧ f.most ≤ 1000 ∧ (f.kind = 4 → f.most ≤ 32) ∧ (f.kind = 3 → 1 ≤ f.most) ∧ (f.kind = 2 → f.most = 0) := by
  by_cases k1 : f.kind = 1
  · rw [rgtS_1 k1] at h; simp [k1, loS, hiS] at h ⊢; omega
  · by_cases k2 : f.kind = 2
    · rw [rgtS_2 k2] at h; simp [k2, loS, hiS] at h ⊢; omega
    · by_cases k3 : f.kind = 3
      · rw [rgtS_3 k3] at h; simp [k3, loS, hiS] at h ⊢; omega
      · by_cases k4 : f.kind = 4
        · rw [rgtS_4 k4] at h; simp [k4, loS, hiS] at h ⊢; omega
        · rw [rgtS_0 k1 k2 k3 k4] at h; cases h
theorem c_fwide (f : Fld) (h : rgtS f = true) : tbl E0 155 [fldV f] [] = some ([.int .i64 (wdS (hiS f - loS f).toNat : Nat)], []) :=
  t_fwide f (by
    have r := rgt_rng h
    have e := c_fbounds f (fun _ => h)
    have e2 := c_fwidth (hiS f - loS f) (by omega)
    simp only [s_fwide, OA_chk, cond_true, OA_callx, e, Option.bind_some, u_asC, u_asI, u_asN, wrap_i64 (hiS f - loS f) (by omega) (by omega), e2])
theorem c_fSize (f : Fld) : tbl E0 159 [fldV f] [] = some ([.int .i64 (sizeS f)], []) :=
  t_fSize f (by
    have e := c_fRight f
    simp only [s_fSize, OA_chk, cond_true, OA_callx, e, Option.bind_some, u_asC, u_asB, u_asI, u_asN]
    cases h : rgtS f with
    | false => simp [sizeS, h]
    | true =>
      have r := rgt_rng h
      have e2 := c_fwide f h
      by_cases k4 : f.kind = 4
      · rw [wrap_i64 (f.most + 1) (by omega) (by omega)]
        simp [sizeS, h, k4]
      · by_cases k2 : f.kind = 2
        · simp [sizeS, h, k2, hiS, loS, wdS]
        · simp only [sizeS, h, k4, k2, beq_f k4, beq_f k2, if_true, if_false, Bool.not_true, cond_false, e2, Option.bind_some, u_asC, u_asI, u_asN])
theorem c_ySpan (f : Fld) : ∃ lo hi most, tbl E0 123 [fldV f] [] = some ([.int .i64 lo, .int .i64 hi, .int .i64 most, .bool (rgtS f)], []) ∧ (rgtS f = true → lo = loS f ∧ hi = hiS f ∧ most = if f.kind = 4 then f.most else 0) := by
  by_cases k1 : f.kind = 1
  · refine ⟨f.lo, f.hi, 0, t_ySpan f ?_, fun _ => by simp [k1, loS, hiS]⟩
    rw [rgtS_1 k1]
    simp only [s_ySpan]
    by_cases a : 0 ≤ f.id <;> by_cases b : f.id ≤ 255 <;> by_cases c : -1099511627776 ≤ f.lo <;> by_cases d : f.lo ≤ f.hi <;> by_cases e : f.hi ≤ 1099511627776 <;> by_cases e2 : f.most = 0 <;> simp [*]
  · by_cases k2 : f.kind = 2
    · refine ⟨0, 1, 0, t_ySpan f ?_, fun _ => by simp [k2, loS, hiS]⟩
      rw [rgtS_2 k2]
      simp only [s_ySpan]
      by_cases a : 0 ≤ f.id <;> by_cases b : f.id ≤ 255 <;> by_cases c : f.lo = 0 <;> by_cases d : f.hi = 0 <;> by_cases e2 : f.most = 0 <;> simp [*]
    · by_cases k3 : f.kind = 3
      · refine ⟨0, IntKind.i64.wrap (f.most - 1), 0, t_ySpan f ?_, fun h => ?_⟩
        · rw [rgtS_3 k3]
          simp only [s_ySpan]
          by_cases a : 0 ≤ f.id <;> by_cases b : f.id ≤ 255 <;> by_cases c : f.lo = 0 <;> by_cases d : f.hi = 0 <;> by_cases e : 1 ≤ f.most <;> simp [*]
        · have r := rgt_rng h
          rw [wrap_i64 _ (by omega) (by omega)]
          simp [k3, loS, hiS]
      · by_cases k4 : f.kind = 4
        · refine ⟨0, 0, f.most, t_ySpan f ?_, fun _ => by simp [k4, loS, hiS]⟩
          rw [rgtS_4 k4]
          simp only [s_ySpan]
          by_cases a : 0 ≤ f.id <;> by_cases b : f.id ≤ 255 <;> by_cases c : f.lo = 0 <;> by_cases d : f.hi = 0 <;> by_cases e : 0 ≤ f.most <;> simp [*]
        · refine ⟨0, 0, 0, t_ySpan f ?_, fun h => by rw [rgtS_0 k1 k2 k3 k4] at h; cases h⟩
          rw [rgtS_0 k1 k2 k3 k4]
          simp only [s_ySpan]
          by_cases a : 0 ≤ f.id <;> simp [*]
theorem c_yRight (f : Fld) : tbl E0 120 [fldV f] [] = some ([.bool (rgtS f)], []) := by
  obtain ⟨lo, hi, most, e, _⟩ := c_ySpan f
  exact t_yRight f (by simp only [s_yRight, OA_chk, cond_true, OA_callx, e, Option.bind_some, u_asC, u_asI, u_asB, u_asN])
theorem c_ySize (f : Fld) : tbl E0 158 [fldV f] [] = some ([.int .i64 (sizeS f)], []) := by
  obtain ⟨lo, hi, most, e, h⟩ := c_ySpan f
  refine t_ySize f ?_
  simp only [s_ySize, OA_chk, cond_true, OA_callx, e, Option.bind_some, u_asC, u_asI, u_asB, u_asN]
  cases hr : rgtS f with
  | false => simp [sizeS, hr]
  | true =>
    obtain ⟨rfl, rfl, rfl⟩ := h hr
    have r := rgt_rng hr
    by_cases k4 : f.kind = 4
    · rw [if_pos k4, wrap_i64 (1 + f.most) (by omega) (by omega)]
      simp [sizeS, hr, k4, Int.add_comm]
    · have e2 := c_ywide (hiS f - loS f) (by omega)
      simp only [sizeS, hr, k4, beq_f k4, if_true, if_false, Bool.not_true, cond_false, wrap_i64 (hiS f - loS f) (by omega) (by omega), e2, Option.bind_some, u_asC, u_asI, u_asN]
end Go.Proofs.Ythmocicjocjdoaa.V
namespace Go.Proofs.Ythmocicjocjdoaa.V
open Go
theorem drop_c {α : Type} {l r : List α} {i : Nat} {a : α} (h : l.drop i = a :: r) : i < l.length ∧ l[i]? = some a ∧ l.drop (i + 1) = r := by
  have hlt : i < l.length := by
    rcases Nat.lt_or_ge i l.length with h' | h'
    · exact h'
    · rw [List.drop_eq_nil_of_le h'] at h; cases h
  rw [List.drop_eq_getElem_cons hlt] at h
  injection h with h1 h2
  exact ⟨hlt, by rw [List.getElem?_eq_getElem hlt, h1], h2⟩
theorem i64_succ {i : Nat} (h : i < 9223372036854775807) : IntKind.i64.wrap ((i : Int) + 1) = ((i + 1 : Nat) : Int) := by rw [wrap_i64 _ (by omega) (by omega)]; omega
theorem wdS_le (k : Nat) : ∀ n, n < 256 ^ k → wdS n ≤ k := by
  induction k with
  | zero => intro n h; simp at h; subst h; rw [wdS]; simp
  | succ k ih =>
    intro n h
    rw [wdS]
    split
    · omega
    · have := ih (n / 256) (by rw [Nat.div_lt_iff_lt_mul (by omega)]; rw [Nat.pow_succ] at h; exact h)
      omega
theorem sizeS_rng (f : Fld) : 0 ≤ sizeS f ∧ sizeS f ≤ 33 := by
  unfold sizeS
  split
  · rename_i h
    have r := rgt_rng h
    split
    · rename_i k; have := r.2.2.2.2.2.2.2.2.2.1 k; omega
    · have := wdS_le 6 (hiS f - loS f).toNat (by have : (256 : Nat) ^ 6 = 281474976710656 := by decide
                                                 omega)
      omega
  · omega
theorem longS_rng : ∀ (l : List Fld), 0 ≤ longS l ∧ longS l ≤ 33 * l.length
  | [] => by simp [longS]
  | f :: l => by
    have h1 := sizeS_rng f
    have h2 := longS_rng l
    simp only [longS, List.map_cons, List.sum_cons, List.length_cons] at h2 ⊢
    omega
theorem longS_cons (f : Fld) (l : List Fld) : longS (f :: l) = sizeS f + longS l := by simp [longS]
theorem c_sLongL (l : List Fld) (hl : l.length ≤ 140737488355328) : ∀ (r : List Fld) (i : Nat) (n : Int), l.drop i = r → 0 ≤ n → n ≤ 33 * i →
    ltbl E0 125 0 3 [.int .i64 n, fldsV l, .int .i64 l.length, .int .i64 i] [] = some (1, [.int .i64 (n + longS r)], []) := by
  intro r
  induction r with
  | nil =>
    intro i n hr h0 h1
    have h : l.length ≤ i := by simpa using hr
    refine t_sLongL _ _ _ _ ?_
    have : ¬ ((i : Int) < l.length) := by omega
    simp [s_sLongL, this, longS]
  | cons f r ih =>
    intro i n hr h0 h1
    obtain ⟨hlt, hget, hr2⟩ := drop_c hr
    have hs := sizeS_rng f
    have h2 : (i : Int) < l.length := by omega
    have e1 := i64_succ (i := i) (by omega)
    have e2 : IntKind.i64.wrap (n + sizeS f) = n + sizeS f := wrap_i64 _ (by omega) (by omega)
    have h := ih (i + 1) (n + sizeS f) hr2 (by omega) (by omega)
    have c := c_fSize f
    refine t_sLongL _ _ _ _ ?_
    rw [longS_cons, ← Int.add_assoc, ← h]
    simp only [s_sLongL, h2, decide_true, cond_true, OA_chk, Int.natCast_nonneg, nthE, Int.toNat_natCast, List.getElem?_map, hget, Option.map_some, u_asA, u_asC, u_asI, u_asN, OA_callx, c, Option.bind_some, e1, e2]
theorem c_sLong (f : Frm) (h : f.fields.length ≤ 140737488355328) : tbl E0 125 [frmV f] [] = some ([.int .i64 (longS f.fields)], []) :=
  t_sLong f (by
    have e := c_sLongL f.fields h f.fields 0 0 rfl (by omega) (by omega)
    simp only [Int.natCast_zero, Int.zero_add] at e
    simp [s_sLong, e])
theorem c_yLongL (f : Frm) (hl : f.fields.length ≤ 140737488355328) : ∀ (r : List Fld) (i : Nat) (n : Int), f.fields.drop i = r → 0 ≤ n → n ≤ 33 * i →
    ltbl E0 122 0 3 [.int .i64 n, .int .i64 i] [[.int .i64 f.id, fldsV f.fields]] = some (1, [.int .i64 (n + longS r)], []) := by
  intro r
  induction r with
  | nil =>
    intro i n hr h0 h1
    have h : f.fields.length ≤ i := by simpa using hr
    refine t_yLongL _ _ _ ?_
    have : ¬ ((i : Int) < f.fields.length) := by omega
    simp [s_yLongL, this, longS]
  | cons x r ih =>
    intro i n hr h0 h1
    obtain ⟨hlt, hget, hr2⟩ := drop_c hr
    have hs := sizeS_rng x
    have h2 : (i : Int) < f.fields.length := by omega
    have e1 := i64_succ (i := i) (by omega)
    have e2 : IntKind.i64.wrap (n + sizeS x) = n + sizeS x := wrap_i64 _ (by omega) (by omega)
    have h := ih (i + 1) (n + sizeS x) hr2 (by omega) (by omega)
    have c := c_ySize x
    refine t_yLongL _ _ _ ?_
    rw [longS_cons, ← Int.add_assoc, ← h]
    simp only [s_yLongL, OA_asm, List.length_map, h2, decide_true, cond_true, OA_chk, Int.natCast_nonneg, nthE, Int.toNat_natCast, List.getElem?_map, hget, Option.map_some, u_asA, u_asC, u_asI, u_asN, OA_callx, c, Option.bind_some, e1, e2]
theorem c_yLong (f : Frm) (h : f.fields.length ≤ 140737488355328) : tbl E0 122 [frmV f] [] = some ([.int .i64 (longS f.fields)], []) :=
  t_yLong f (by
    have e := c_yLongL f h f.fields 0 0 rfl (by omega) (by omega)
    simp only [Int.natCast_zero, Int.zero_add] at e
    simp [s_yLong, e])
/-! Where a field is. -/
def atS (l : List Fld) (id : Int) : Int := firstS (fun f : Fld => f.id == id) l
def fromS {α : Type} (p : α → Bool) (i : Nat) (l : List α) : LR := match l.findIdx? p with | some j => (0, [.int .i64 ((i + j : Nat) : Int)], []) | none => (1, [], [])
theorem fromS_nil {α : Type} (p : α → Bool) (i : Nat) : fromS p i [] = (1, [], []) := rfl
theorem fromS_cons {α : Type} (p : α → Bool) (i : Nat) (a : α) (l : List α) : fromS p i (a :: l) = if p a then (0, [.int .i64 (i : Int)], []) else fromS p (i + 1) l := by
  unfold fromS
  rw [List.findIdx?_cons]
  cases p a with
  | true => simp
  | false =>
    simp only [Bool.false_eq_true, if_false]
    cases l.findIdx? p with
    | none => rfl
    | some j => simp [Nat.add_assoc, Nat.add_comm 1 j]
theorem c_sAt1 (f : Fld) (id : Int) : tbl E0 152 [fldV f, .rp [.int .i64 id] 0] [] = some ([.bool (f.id == id)], []) := t_sAt1 f id (by simp [s_sAt1])
theorem c_IndexFuncL (l : List Fld) (id : Int) (hl : l.length ≤ 140737488355328) : ∀ (r : List Fld) (i : Nat), l.drop i = r →
    ltbl E0 151 0 2 [fldsV l, .clo 152 [.rp [.int .i64 id] 0], .int .i64 l.length, .int .i64 i] [] = some (fromS (fun f : Fld => f.id == id) i r) := by
  intro r
  induction r with
  | nil =>
    intro i hr
    have h : l.length ≤ i := by simpa using hr
    refine t_IndexFuncL _ _ _ _ ?_
    have : ¬ ((i : Int) < l.length) := by omega
    simp [s_IndexFuncL, this, fromS_nil]
  | cons f r ih =>
    intro i hr
    obtain ⟨hlt, hget, hr2⟩ := drop_c hr
    have h2 : (i : Int) < l.length := by omega
    have e1 := i64_succ (i := i) (by omega)
    have h := ih (i + 1) hr2
    have c := c_sAt1 f id
    refine t_IndexFuncL _ _ _ _ ?_
    rw [fromS_cons]
    simp only [s_IndexFuncL, h2, decide_true, cond_true, OA_chk, Int.natCast_nonneg, nthE, Int.toNat_natCast, List.getElem?_map, hget, Option.map_some, u_asA, u_asC, u_asI, u_asB, u_asN, OA_callx, c, Option.bind_some, e1, h]
    cases f.id == id <;> rfl
theorem c_sAt (f : Frm) (id : Int) (h : f.fields.length ≤ 140737488355328) : tbl E0 111 [frmV f, .int .i64 id] [] = some ([.int .i64 (atS f.fields id)], []) :=
  t_sAt f id (by
    have e : tbl E0 151 [fldsV f.fields, .clo 152 [.rp [.int .i64 id] 0]] [] = some ([.int .i64 (atS f.fields id)], []) := t_IndexFunc f.fields id (by
      have e := c_IndexFuncL f.fields id h f.fields 0 rfl
      simp only [Int.natCast_zero] at e
      simp only [s_IndexFunc, OA_asm, OA_loop, List.length_map, e, Option.bind_some, fromS, atS, firstS]
      cases f.fields.findIdx? (fun f : Fld => f.id == id) <;> simp)
    simp [s_sAt, e])
theorem c_yAtL (f : Frm) (id : Int) (hl : f.fields.length ≤ 140737488355328) : ∀ (r : List Fld) (i : Nat), f.fields.drop i = r →
    ltbl E0 121 0 2 [.int .i64 id, .int .i64 i] [[.int .i64 f.id, fldsV f.fields]] = some (fromS (fun f : Fld => f.id == id) i r) := by
  intro r
  induction r with
  | nil =>
    intro i hr
    have h : f.fields.length ≤ i := by simpa using hr
    refine t_yAtL _ _ _ ?_
    have : ¬ ((i : Int) < f.fields.length) := by omega
    simp [s_yAtL, this, fromS_nil]
  | cons x r ih =>
    intro i hr
    obtain ⟨hlt, hget, hr2⟩ := drop_c hr
    have h2 : (i : Int) < f.fields.length := by omega
    have e1 := i64_succ (i := i) (by omega)
    have h := ih (i + 1) hr2
    refine t_yAtL _ _ _ ?_
    rw [fromS_cons]
    simp only [s_yAtL, OA_asm, List.length_map, h2, decide_true, cond_true, OA_chk, Int.natCast_nonneg, nthE, Int.toNat_natCast, List.getElem?_map, hget, Option.map_some, u_asA, u_asC, u_asI, u_asB, u_asN, e1, h]
    cases x.id == id <;> rfl
theorem c_yAt (f : Frm) (id : Int) (h : f.fields.length ≤ 140737488355328) : tbl E0 121 [frmV f, .int .i64 id] [] = some ([.int .i64 (atS f.fields id)], []) :=
  t_yAt f id (by
    have e := c_yAtL f id h f.fields 0 rfl
    simp only [Int.natCast_zero] at e
    simp only [s_yAt, OA_chk, cond_true, OA_loop, e, Option.bind_some, fromS, atS, firstS]
    cases f.fields.findIdx? (fun f : Fld => f.id == id) <;> simp)
/-! May a form be? -/
theorem setAt_bool (s : List Bool) (k : Nat) (b : Bool) : setAt (s.map AV.bool) k [AV.bool b] = (s.set k b).map AV.bool := by
  simp [setAt, List.map_set]
theorem all_flat_bool (s : List Bool) : (s.map AV.bool).all AV.flat1 = true := by
  simp [List.all_map, Function.comp_def, AV.flat1]
def freshS : List Bool → List Fld → Bool
  | _, [] => true
  | s, f :: l => rgtS f && !((s[f.id.toNat]?).getD false) && freshS (s.set f.id.toNat true) l
theorem c_sFineL (l : List Fld) (hl : l.length ≤ 140737488355328) : ∀ (r : List Fld) (i : Nat) (s : List Bool), l.drop i = r → s.length = 256 →
    ltbl E0 124 0 5 [fldsV l, .int .i64 l.length, .int .i64 i] [s.map AV.bool] = some (if freshS s r then (1, [], []) else (0, [.bool false], [])) := by
  intro r
  induction r with
  | nil =>
    intro i s hr hs
    have h : l.length ≤ i := by simpa using hr
    refine t_sFineL _ _ _ _ ?_
    have : ¬ ((i : Int) < l.length) := by omega
    simp [s_sFineL, this, freshS]
  | cons f r ih =>
    intro i s hr hs
    obtain ⟨hlt, hget, hr2⟩ := drop_c hr
    have h2 : (i : Int) < l.length := by omega
    have e1 := i64_succ (i := i) (by omega)
    have h := ih (i + 1) (s.set f.id.toNat true) hr2 (by simpa using hs)
    have c := c_fRight f
    refine t_sFineL _ _ _ _ ?_
    simp only [s_sFineL, h2, decide_true, cond_true, OA_chk, Int.natCast_nonneg, nthE, Int.toNat_natCast, List.getElem?_map, hget, Option.map_some, u_asA, u_asC, u_asI, u_asB, u_asN, OA_callx, OA_join, c, Option.bind_some, e1, freshS]
    by_cases hg : rgtS f = true
    · have rr := rgt_rng hg
      have hk : f.id.toNat < s.length := by omega
      have g : s[f.id.toNat]? = some s[f.id.toNat] := List.getElem?_eq_getElem hk
      have a1 : 0 ≤ f.id := rr.1
      have a2 : f.id < ((256 : Nat) : Int) := by omega
      have a3 : 0 + f.id.toNat * 1 = f.id.toNat := by omega
      have a4 : (f.id.toNat + 1).ble (List.map AV.bool s).length = true := by rw [Nat.ble_eq, List.length_map]; omega
      simp only [hg, a1, a2, a3, a4, decide_true, Bool.and_self, cond_true, g, Option.map_some, u_asB, Bool.not_true, cond_false, Option.bind_some, Tok.untok_tok, setAt_bool, all_flat_bool, h, Option.getD_some, Bool.true_and]
      by_cases hb : s[f.id.toNat] = true
      · simp [hb]
      · have hb : s[f.id.toNat] = false := by simpa using hb
        simp [hb]
    · have hg : rgtS f = false := by simpa using hg
      simp [hg]
/-- What is fresh under marks: no number of it is marked, and none comes twice. -/
theorem freshS_iff : ∀ (l : List Fld) (s : List Bool), s.length = 256 → (freshS s l = true ↔ (∀ f ∈ l, rgtS f = true ∧ s[f.id.toNat]? = some false) ∧ nodupI (l.map Fld.id) = true)
  | [], s, _ => by simp [freshS, nodupI]
  | f :: l, s, hs => by
    have ih := freshS_iff l (s.set f.id.toNat true) (by simpa using hs)
    simp only [freshS, Bool.and_eq_true, ih, List.map_cons, nodupI, Bool.not_eq_true', List.mem_cons, forall_eq_or_imp]
    have key : rgtS f = true → ((s[f.id.toNat]?).getD false = false ↔ s[f.id.toNat]? = some false) := by
      intro hg
      have rr := rgt_rng hg
      have hk : f.id.toNat < s.length := by omega
      rw [List.getElem?_eq_getElem hk]
      simp
    have key2 : rgtS f = true → ∀ g, rgtS g = true → ((s.set f.id.toNat true)[g.id.toNat]? = some false ↔ (s[g.id.toNat]? = some false ∧ g.id ≠ f.id)) := by
      intro hg g hgg
      have r1 := rgt_rng hg
      have r2 := rgt_rng hgg
      rw [List.getElem?_set]
      by_cases e : f.id.toNat = g.id.toNat
      · have e' : g.id = f.id := by omega
        rw [if_pos e, if_pos (by omega)]
        simp [e']
      · have e' : g.id ≠ f.id := by omega
        rw [if_neg e]
        simp [e']
    constructor
    · rintro ⟨⟨h1, h2⟩, h3, h4⟩
      refine ⟨⟨⟨h1, (key h1).1 h2⟩, fun g hg => ⟨(h3 g hg).1, ((key2 h1 g (h3 g hg).1).1 (h3 g hg).2).1⟩⟩, ?_, h4⟩
      simp only [List.any_map, List.any_eq_false, Function.comp_apply, beq_iff_eq]
      intro g hg
      exact ((key2 h1 g (h3 g hg).1).1 (h3 g hg).2).2
    · rintro ⟨⟨⟨h1, h2⟩, h3⟩, h4, h5⟩
      refine ⟨⟨h1, (key h1).2 h2⟩, fun g hg => ⟨(h3 g hg).1, (key2 h1 g (h3 g hg).1).2 ⟨(h3 g hg).2, ?_⟩⟩, h5⟩
      simp only [List.any_map, List.any_eq_false, Function.comp_apply, beq_iff_eq] at h4
      exact h4 g hg
theorem freshS_0 (l : List Fld) : freshS (List.replicate 256 false) l = (l.all rgtS && nodupI (l.map Fld.id)) := by
  rw [Bool.eq_iff_iff, freshS_iff _ _ List.length_replicate]
  simp only [Bool.and_eq_true, List.all_eq_true]
  constructor
  · rintro ⟨h1, h2⟩; exact ⟨fun f hf => (h1 f hf).1, h2⟩
  · rintro ⟨h1, h2⟩
    refine ⟨fun f hf => ⟨h1 f hf, ?_⟩, h2⟩
    have r := rgt_rng (h1 f hf)
    rw [List.getElem?_replicate, if_pos (by omega)]
set_option maxRecDepth 20000 in
theorem bools256 : (List.replicate 256 false).map AV.bool = [.bool false, .bool false, .bool false, .bool false, .bool false, .bool false, .bool false, .bool false, .bool false, .bool false, .bool false, .bool false, .bool false, .bool false, .bool false, .bool false, .bool false, .bool false, .bool false, .bool false, .bool false, .bool false, .bool false, .bool false, .bool false, .bool false, .bool false, .bool false, .bool false, .bool false, .bool false, .bool false, .bool false, .bool false, .bool false, .bool false, .bool false, .bool false, .bool false, .bool false, .bool false, .bool false, .bool false, .bool false, .bool false, .bool false, .bool false, .bool false, .bool false, .bool false, .bool false, .bool false, .bool false, .bool false, .bool false, .bool false, .bool false, .bool false, .bool false, .bool false, .bool false, .bool false, .bool false, .bool false, .bool false, .bool false, .bool false, .bool false, .bool false, .bool false, .bool false, .bool false, .bool false, .bool false, .bool false, .bool false, .bool false, .bool false, .bool false, .bool false, .bool false, .bool false, .bool false, .bool false, .bool false, .bool false, .bool false, .bool false, .bool false, .bool false, .bool false, .bool false, .bool false, .bool false, .bool false, .bool false, .bool false, .bool false, .bool false, .bool false, .bool false, .bool false, .bool false, .bool false, .bool false, .bool false, .bool false, .bool false, .bool false, .bool false, .bool false, .bool false, .bool false, .bool false, .bool false, .bool false, .bool false, .bool false, .bool false, .bool false, .bool false, .bool false, .bool false, .bool false, .bool false, .bool false, .bool false, .bool false, .bool false, .bool false, .bool false, .bool false, .bool false, .bool false, .bool false, .bool false, .bool false, .bool false, .bool false, .bool false, .bool false, .bool false, .bool false, .bool false, .bool false, .bool false, .bool false, .bool false, .bool false, .bool false, .bool false, .bool false, .bool false, .bool false, .bool false, .bool false, .bool false, .bool false, .bool false, .bool false, .bool false, .bool false, .bool false, .bool false, .bool false, .bool false, .bool false, .bool false, .bool false, .bool false, .bool false, .bool false, .bool false, .bool false, .bool false, .bool false, .bool false, .bool false, .bool false, .bool false, .bool false, .bool false, .bool false, .bool false, .bool false, .bool false, .bool false, .bool false, .bool false, .bool false, .bool false, .bool false, .bool false, .bool false, .bool false, .bool false, .bool false, .bool false, .bool false, .bool false, .bool false, .bool false, .bool false, .bool false, .bool false, .bool false, .bool false, .bool false, .bool false, .bool false, .bool false, .bool false, .bool false, .bool false, .bool false, .bool false, .bool false, .bool false, .bool false, .bool false, .bool false, .bool false, .bool false, .bool false, .bool false, .bool false, .bool false, .bool false, .bool false, .bool false, .bool false, .bool false, .bool false, .bool false, .bool false, .bool false, .bool false, .bool false, .bool false, .bool false, .bool false, .bool false, .bool false, .bool false, .bool false, .bool false, .bool false, .bool false, .bool false, .bool false, .bool false, .bool false, .bool false, .bool false, .bool false, .bool false] := rfl
set_option maxRecDepth 20000 in
theorem c_sFine (f : Frm) (h : f.fields.length ≤ 140737488355328) : tbl E0 124 [frmV f] [] = some ([.bool (fineS f)], []) :=
  t_sFine f (by
    have e := c_sFineL f.fields h f.fields 0 (List.replicate 256 false) rfl List.length_replicate
    simp only [Int.natCast_zero, freshS_0] at e
    rw [bools256] at e
    have c := c_sLong f h
    simp only [s_sFine, OA_chk, cond_true, OA_join, OA_asm, List.length_map, OA_callx, c, Option.bind_some, u_asC, u_asI, u_asB, u_asN, OA_loop, e]
    unfold fineS
    by_cases a1 : f.id < 0
    · have : ¬ (0 ≤ f.id) := by omega
      simp [a1, this]
    · by_cases a2 : f.id > 200
      · have : ¬ (f.id ≤ 200) := by omega
        simp [a1, a2, this]
      · by_cases a3 : (f.fields.length : Int) < 1
        · have : ¬ (1 ≤ f.fields.length) := by omega
          simp [a1, a2, a3, this]
        · by_cases a4 : (f.fields.length : Int) > 8
          · have : ¬ (f.fields.length ≤ 8) := by omega
            simp [a1, a2, a3, a4, this]
          · by_cases a5 : longS f.fields > 64
            · have : ¬ (longS f.fields ≤ 64) := by omega
              simp [a1, a2, a3, a4, a5, this]
            · have b1 : 0 ≤ f.id ∧ f.id ≤ 200 := by omega
              have b2 : 1 ≤ f.fields.length ∧ f.fields.length ≤ 8 := by omega
              have b3 : longS f.fields ≤ 64 := by omega
              simp only [a1, a2, a3, a4, a5, b1, b2, b3, decide_true, decide_false, cond_false, Option.bind_some, Tok.untok_tok, Bool.true_and, and_self]
              cases (f.fields.all rgtS && nodupI (f.fields.map Fld.id)) <;> simp)
/-- Each stands where its number is first found. -/
def idxS (l : List Fld) : Nat → List Fld → Bool
  | _, [] => true
  | i, x :: r => rgtS x && decide (atS l x.id = i) && idxS l (i + 1) r
theorem atS_app (p r : List Fld) (x : Fld) : atS (p ++ x :: r) x.id = p.length ↔ ∀ f ∈ p, f.id ≠ x.id := by
  unfold atS firstS
  constructor
  · intro h f hf e
    have h1 : (p ++ x :: r).findIdx? (fun f : Fld => f.id == x.id) = (p.findIdx? (fun f : Fld => f.id == x.id)).or _ := List.findIdx?_append
    cases h2 : p.findIdx? (fun f : Fld => f.id == x.id) with
    | none =>
      rw [List.findIdx?_eq_none_iff] at h2
      have := h2 f hf
      simp [e] at this
    | some j =>
      rw [h1, h2] at h
      obtain ⟨hj, _⟩ := List.findIdx?_eq_some_iff_getElem.1 h2
      simp only [Option.some_or] at h
      omega
  · intro h
    have h2 : p.findIdx? (fun f : Fld => f.id == x.id) = none := by
      rw [List.findIdx?_eq_none_iff]
      intro f hf
      simpa using h f hf
    rw [List.findIdx?_append, h2, List.findIdx?_cons]
    simp
theorem idxS_iff : ∀ (r p : List Fld), idxS (p ++ r) p.length r = true ↔ (∀ x ∈ r, rgtS x = true ∧ ∀ f ∈ p, f.id ≠ x.id) ∧ nodupI (r.map Fld.id) = true
  | [], p => by simp [idxS, nodupI]
  | x :: r, p => by
    have ih := idxS_iff r (p ++ [x])
    simp only [List.append_assoc, List.singleton_append, List.length_append, List.length_singleton] at ih
    simp only [idxS, Bool.and_eq_true, ih, decide_eq_true_eq, atS_app, List.map_cons, nodupI, List.mem_cons, forall_eq_or_imp, Bool.not_eq_true', List.any_map, List.any_eq_false, Function.comp_apply, beq_iff_eq, List.mem_append, List.not_mem_nil, or_false]
    constructor
    · rintro ⟨⟨h1, h2⟩, h3, h4⟩
      refine ⟨⟨⟨h1, h2⟩, fun y hy => ⟨(h3 y hy).1, fun f hf => (h3 y hy).2 f (Or.inl hf)⟩⟩, fun y hy e => (h3 y hy).2 x (Or.inr rfl) e.symm, h4⟩
    · rintro ⟨⟨⟨h1, h2⟩, h3⟩, h4, h5⟩
      refine ⟨⟨h1, h2⟩, fun y hy => ⟨(h3 y hy).1, ?_⟩, h5⟩
      rintro f (hf | rfl)
      · exact (h3 y hy).2 f hf
      · exact fun e => h4 y hy e.symm
theorem idxS_0 (l : List Fld) : idxS l 0 l = (l.all rgtS && nodupI (l.map Fld.id)) := by
  rw [Bool.eq_iff_iff]
  have := idxS_iff l []
  simp only [List.nil_append, List.length_nil] at this
  rw [this]
  simp
theorem c_yFineL (f : Frm) (hl : f.fields.length ≤ 140737488355328) : ∀ (r : List Fld) (i : Nat), f.fields.drop i = r →
    ltbl E0 70 0 4 [.int .i64 i] [[.int .i64 f.id, fldsV f.fields]] = some (if idxS f.fields i r then (1, [], [[.int .i64 f.id, fldsV f.fields]]) else (0, [.bool false], [])) := by
  intro r
  induction r with
  | nil =>
    intro i hr
    have h : f.fields.length ≤ i := by simpa using hr
    refine t_yFineL _ _ ?_
    have : ¬ ((i : Int) < f.fields.length) := by omega
    simp [s_yFineL, this, idxS]
  | cons x r ih =>
    intro i hr
    obtain ⟨hlt, hget, hr2⟩ := drop_c hr
    have h2 : (i : Int) < f.fields.length := by omega
    have e1 := i64_succ (i := i) (by omega)
    have h := ih (i + 1) hr2
    have c := c_yRight x
    have c2 := c_yAt f x.id hl
    refine t_yFineL _ _ ?_
    simp only [s_yFineL, OA_asm, List.length_map, h2, decide_true, cond_true, OA_chk, Int.natCast_nonneg, nthE, Int.toNat_natCast, List.getElem?_map, hget, Option.map_some, u_asA, u_asC, u_asI, u_asB, u_asN, OA_callx, c, c2, Option.bind_some, e1, h, idxS]
    by_cases hg : rgtS x = true
    · by_cases ha : atS f.fields x.id = i
      · simp [hg, ha]
      · simp [hg, ha]
    · have hg : rgtS x = false := by simpa using hg
      simp [hg]
theorem c_yFine (f : Frm) (h : f.fields.length ≤ 140737488355328) : tbl E0 70 [frmV f] [] = some ([.bool (fineS f)], []) :=
  t_yFine f (by
    have e := c_yFineL f h f.fields 0 rfl
    simp only [Int.natCast_zero, idxS_0] at e
    have c := c_yLong f h
    simp only [s_yFine, OA_chk, cond_true, OA_join, OA_asm, List.length_map, OA_callx, c, Option.bind_some, u_asC, u_asI, u_asB, u_asL, u_asN, OA_loop, e]
    unfold fineS
    by_cases a1 : f.id < 0
    · have : ¬ (0 ≤ f.id) := by omega
      simp [a1, this]
    · by_cases a2 : f.id > 200
      · have : ¬ (f.id ≤ 200) := by omega
        simp [a1, a2, this]
      · by_cases a3 : (f.fields.length : Int) < 1
        · have : ¬ (1 ≤ f.fields.length) := by omega
          simp [a1, a2, a3, this]
        · by_cases a4 : (f.fields.length : Int) > 8
          · have : ¬ (f.fields.length ≤ 8) := by omega
            simp [a1, a2, a3, a4, this]
          · have b1 : 0 ≤ f.id ∧ f.id ≤ 200 := by omega
            have b2 : 1 ≤ f.fields.length ∧ f.fields.length ≤ 8 := by omega
            simp only [a1, a2, a3, a4, b1, b2, decide_true, decide_false, cond_false, Option.bind_some, Tok.untok_tok, Bool.true_and, and_self]
            cases f.fields.all rgtS <;> cases nodupI (f.fields.map Fld.id) <;> simp [c])
end Go.Proofs.Ythmocicjocjdoaa.V
namespace Go.Proofs.Ythmocicjocjdoaa.V
open Go
theorem bor (b : Bool) : b = true ∨ b = false := by cases b <;> simp
def Sml (s : Sch) : Prop := s.forms.length ≤ 140737488355328 ∧ ∀ f ∈ s.forms, f.fields.length ≤ 140737488355328
theorem mem_drop {α : Type} {l r : List α} {i : Nat} {a : α} (h : l.drop i = a :: r) : a ∈ l := List.mem_of_mem_drop (h ▸ List.mem_cons_self : a ∈ l.drop i)
theorem c_sRightL (l : List Frm) (hl : l.length ≤ 140737488355328) (hf : ∀ f ∈ l, f.fields.length ≤ 140737488355328) : ∀ (r : List Frm) (i : Nat) (last : Int), l.drop i = r →
    ltbl E0 76 0 5 [.int .i64 last, frmsV l, .int .i64 l.length, .int .i64 i] [] = some (if risingS last r then (1, [], []) else (0, [.bool false], [])) := by
  intro r
  induction r with
  | nil =>
    intro i last hr
    have h : l.length ≤ i := by simpa using hr
    refine t_sRightL _ _ _ _ ?_
    have : ¬ ((i : Int) < l.length) := by omega
    simp [s_sRightL, this, risingS]
  | cons f r ih =>
    intro i last hr
    obtain ⟨hlt, hget, hr2⟩ := drop_c hr
    have h2 : (i : Int) < l.length := by omega
    have e1 := i64_succ (i := i) (by omega)
    have h := ih (i + 1) f.id hr2
    have c := c_sFine f (hf f (mem_drop hr))
    refine t_sRightL _ _ _ _ ?_
    simp only [s_sRightL, h2, decide_true, cond_true, OA_chk, Int.natCast_nonneg, nthE, Int.toNat_natCast, List.getElem?_map, hget, Option.map_some, u_asA, u_asC, u_asI, u_asB, u_asL, u_asN, OA_callx, OA_join, c, Option.bind_some, e1, h, risingS]
    by_cases a : f.id ≤ last
    · have : ¬ (last < f.id) := by omega
      rcases bor (fineS f) with hb | hb <;> simp [hb, a, this]
    · have b : last < f.id := by omega
      rcases bor (fineS f) with hb | hb <;> simp [hb, a, b]
theorem c_sRight (s : Sch) (h : Sml s) : tbl E0 76 [schV s] [] = some ([.bool (schS s)], []) :=
  t_sRight s (by
    have e := c_sRightL s.forms h.1 h.2 s.forms 0 (-1) rfl
    simp only [Int.natCast_zero] at e
    simp only [s_sRight, OA_chk, cond_true, OA_join, OA_asm, List.length_map, Option.bind_some, u_asC, u_asI, u_asB, u_asN, OA_loop, e]
    unfold schS
    by_cases a1 : s.ver < 1
    · have : ¬ (1 ≤ s.ver) := by omega
      simp [a1, this]
    · by_cases a2 : s.ver > 65535
      · have : ¬ (s.ver ≤ 65535) := by omega
        simp [a1, a2, this]
      · by_cases a4 : (s.forms.length : Int) > 8
        · have : ¬ (s.forms.length ≤ 8) := by omega
          simp [a1, a2, a4, this]
        · have b1 : 1 ≤ s.ver ∧ s.ver ≤ 65535 := by omega
          have b2 : s.forms.length ≤ 8 := by omega
          simp only [a1, a2, a4, b1, b2, decide_true, decide_false, cond_false, Option.bind_some, Tok.untok_tok, Bool.true_and, and_self]
          rcases bor (risingS (-1) s.forms) with hb | hb <;> simp [hb])
/-- Rising, as it is found by looking back. -/
def riseS (l : List Frm) : Nat → List Frm → Bool
  | _, [] => true
  | i, f :: r => fineS f && (i == 0 || (match l[i - 1]? with | some g => decide (g.id < f.id) | none => false)) && riseS l (i + 1) r
theorem riseS_eq : ∀ (r : List Frm) (p : List Frm) (g : Frm), riseS (p ++ g :: r) (p.length + 1) r = risingS g.id r
  | [], p, g => rfl
  | f :: r, p, g => by
    have ih := riseS_eq r (p ++ [g]) f
    simp only [List.append_assoc, List.singleton_append, List.length_append, List.length_singleton] at ih
    simp [riseS, risingS, ih]
theorem riseS_0 (l : List Frm) : riseS l 0 l = risingS (-1) l := by
  cases l with
  | nil => rfl
  | cons f r =>
    have h := riseS_eq r [] f
    simp only [List.nil_append, List.length_nil, Nat.zero_add] at h
    simp only [riseS, h, risingS, beq_self_eq_true, Bool.true_or, Bool.and_true, Nat.zero_add]
    by_cases hf : fineS f = true
    · have : -1 < f.id := by
        unfold fineS at hf
        simp only [Bool.and_eq_true, decide_eq_true_eq] at hf
        omega
      simp [this]
    · have hf : fineS f = false := by simpa using hf
      simp [hf]
theorem c_ysRightL (s : Sch) (hs : Sml s) : ∀ (r : List Frm) (i : Nat), s.forms.drop i = r →
    ltbl E0 42 0 4 [.int .i64 i] [[.int .i64 s.ver, frmsV s.forms]] = some (if riseS s.forms i r then (1, [], []) else (0, [.bool false], [])) := by
  have hl := hs.1
  intro r
  induction r with
  | nil =>
    intro i hr
    have h : s.forms.length ≤ i := by simpa using hr
    refine t_ysRightL _ _ ?_
    have : ¬ ((i : Int) < s.forms.length) := by omega
    simp [s_ysRightL, this, riseS]
  | cons f r ih =>
    intro i hr
    obtain ⟨hlt, hget, hr2⟩ := drop_c hr
    have h2 : (i : Int) < s.forms.length := by omega
    have e1 := i64_succ (i := i) (by omega)
    have h := ih (i + 1) hr2
    have c := c_yFine f (hs.2 f (mem_drop hr))
    refine t_ysRightL _ _ ?_
    by_cases i0 : i = 0
    · subst i0
      simp only [Int.natCast_zero] at h2
      simp only [s_ysRightL, OA_asm, List.length_map, Int.natCast_zero, h2, decide_true, cond_true, OA_chk, Int.natCast_nonneg, nthE, Int.toNat_natCast, Int.toNat_zero, Int.le_refl, List.getElem?_map, hget, Option.map_some, u_asA, u_asC, u_asI, u_asB, u_asL, u_asN, OA_callx, c, Option.bind_some, riseS]
      simp only [Int.natCast_zero] at e1
      rcases bor (fineS f) with hb | hb
      · simp only [Int.zero_add, Nat.zero_add] at e1 h
        simp [hb]
        rw [e1]
        exact h
      · simp [hb]
    · have g0 : (i : Int) > 0 := by omega
      have g1 : IntKind.i64.wrap ((i : Int) - 1) = ((i - 1 : Nat) : Int) := by rw [wrap_i64 _ (by omega) (by omega)]; omega
      have g2 : s.forms[i - 1]? = some (s.forms[i - 1]'(by omega)) := List.getElem?_eq_getElem _
      simp only [s_ysRightL, OA_asm, List.length_map, h2, decide_true, cond_true, OA_chk, Int.natCast_nonneg, nthE, Int.toNat_natCast, List.getElem?_map, hget, Option.map_some, u_asA, u_asC, u_asI, u_asB, u_asL, u_asN, OA_callx, c, Option.bind_some, riseS, g0, g1, g2, e1, h, beq_f i0, Bool.false_or]
      rcases bor (fineS f) with hb | hb
      rotate_left
      · simp [hb]
      · by_cases a : (s.forms[i - 1]'(by omega)).id ≥ f.id
        · have b : ¬ ((s.forms[i - 1]'(by omega)).id < f.id) := by omega
          simp [hb, a, b]
        · have b : (s.forms[i - 1]'(by omega)).id < f.id := by omega
          simp [hb, a, b]
theorem c_ysRight (s : Sch) (h : Sml s) : tbl E0 42 [schV s] [] = some ([.bool (schS s)], []) :=
  t_ysRight s (by
    have e := c_ysRightL s h s.forms 0 rfl
    simp only [Int.natCast_zero, riseS_0] at e
    simp only [s_ysRight, OA_chk, cond_true, OA_join, OA_asm, List.length_map, Option.bind_some, u_asC, u_asI, u_asB, u_asN, OA_loop, e]
    unfold schS
    by_cases a1 : s.ver < 1
    · have : ¬ (1 ≤ s.ver) := by omega
      simp [a1, this]
    · by_cases a2 : s.ver > 65535
      · have : ¬ (s.ver ≤ 65535) := by omega
        simp [a1, a2, this]
      · by_cases a4 : (s.forms.length : Int) > 8
        · have : ¬ (s.forms.length ≤ 8) := by omega
          simp [a1, a2, a4, this]
        · have b1 : 1 ≤ s.ver ∧ s.ver ≤ 65535 := by omega
          have b2 : s.forms.length ≤ 8 := by omega
          simp only [a1, a2, a4, b1, b2, decide_true, decide_false, cond_false, Option.bind_some, Tok.untok_tok, Bool.true_and, and_self]
          rcases bor (risingS (-1) s.forms) with hb | hb <;> simp [hb])
end Go.Proofs.Ythmocicjocjdoaa.V
namespace Go.Proofs.Ythmocicjocjdoaa.V
open Go
def big (f : Frm) : Bool := decide (40 < f.fields.length)
def greatS (s : Sch) : Bool := (s.forms.take 41).any big || decide (40 < s.forms.length)
theorem sml_of {s : Sch} (h : greatS s = false) : Sml s := by
  unfold greatS at h
  simp only [Bool.or_eq_false_iff, decide_eq_false_iff_not, List.any_eq_false, big, decide_eq_true_eq] at h
  refine ⟨by omega, fun f hf => ?_⟩
  have := h.1 f (by rw [List.take_of_length_le (by omega)]; exact hf)
  omega
theorem c_yFindL (s : Sch) (id : Int) (hs : Sml s) : ∀ (r : List Frm) (i : Nat), s.forms.drop i = r →
    ltbl E0 29 0 2 [.int .i64 id, .int .i64 i] [[.int .i64 s.ver, frmsV s.forms]] = some (fromS (fun f : Frm => f.id == id) i r) := by
  have hl := hs.1
  intro r
  induction r with
  | nil =>
    intro i hr
    have h : s.forms.length ≤ i := by simpa using hr
    refine t_yFindL _ _ _ ?_
    have : ¬ ((i : Int) < s.forms.length) := by omega
    simp [s_yFindL, this, fromS_nil]
  | cons x r ih =>
    intro i hr
    obtain ⟨hlt, hget, hr2⟩ := drop_c hr
    have h2 : (i : Int) < s.forms.length := by omega
    have e1 := i64_succ (i := i) (by omega)
    have h := ih (i + 1) hr2
    refine t_yFindL _ _ _ ?_
    rw [fromS_cons]
    simp only [s_yFindL, OA_asm, List.length_map, h2, decide_true, cond_true, OA_chk, Int.natCast_nonneg, nthE, Int.toNat_natCast, List.getElem?_map, hget, Option.map_some, u_asA, u_asC, u_asI, u_asB, u_asL, u_asN, e1, h]
    cases x.id == id <;> rfl
def findS (l : List Frm) (id : Int) : Int := firstS (fun f : Frm => f.id == id) l
theorem c_yFind (s : Sch) (id : Int) (h : Sml s) : tbl E0 29 [schV s, .int .i64 id] [] = some ([.int .i64 (findS s.forms id)], []) :=
  t_yFind s id (by
    have e := c_yFindL s id h s.forms 0 rfl
    simp only [Int.natCast_zero] at e
    simp only [s_yFind, OA_chk, cond_true, OA_loop, e, Option.bind_some, fromS, findS, firstS]
    cases s.forms.findIdx? (fun f : Frm => f.id == id) <;> simp)
theorem c_sFormL (l : List Frm) (id : Int) (hl : l.length ≤ 140737488355328) : ∀ (r : List Frm) (i : Nat), l.drop i = r →
    ltbl E0 108 0 2 [.int .i64 id, frmsV l, .int .i64 l.length, .int .i64 i] [[.int .i64 0, fldsV []]] = some (match r.find? (fun f : Frm => f.id == id) with | some f => (0, [.bool true], [[.int .i64 f.id, fldsV f.fields]]) | none => (1, [], [[.int .i64 0, fldsV []]])) := by
  intro r
  induction r with
  | nil =>
    intro i hr
    have h : l.length ≤ i := by simpa using hr
    refine t_sFormL l ⟨0, []⟩ id _ _ ?_
    have : ¬ ((i : Int) < l.length) := by omega
    simp [s_sFormL, this]
  | cons x r ih =>
    intro i hr
    obtain ⟨hlt, hget, hr2⟩ := drop_c hr
    have h2 : (i : Int) < l.length := by omega
    have e1 := i64_succ (i := i) (by omega)
    have h := ih (i + 1) hr2
    refine t_sFormL l ⟨0, []⟩ id _ _ ?_
    rw [List.find?_cons]
    simp only [s_sFormL, h2, decide_true, cond_true, OA_chk, Int.natCast_nonneg, nthE, Int.toNat_natCast, List.getElem?_map, hget, Option.map_some, u_asA, u_asC, u_asI, u_asB, u_asL, u_asN, e1, h]
    rcases bor (x.id == id) with hb | hb <;> simp only [hb, cond_true, cond_false]
def formS (l : List Frm) (id : Int) : Option Frm := l.find? (fun f : Frm => f.id == id)
theorem c_sForm (s : Sch) (id : Int) (h : Sml s) : tbl E0 108 [schV s, .int .i64 id] [] = some (match formS s.forms id with | some f => [frmV f, .bool true] | none => [frmV ⟨0, []⟩, .bool false], []) :=
  t_sForm s id (by
    have e := c_sFormL s.forms id h.1 s.forms 0 rfl
    unfold formS
    cases hf : s.forms.find? (fun f : Frm => f.id == id) with
    | none =>
      rw [hf] at e
      simp only [fldsV, frmsV, List.map_nil, Int.natCast_zero] at e
      simp [s_sForm, e]
    | some f =>
      rw [hf] at e
      simp only [fldsV, frmsV, List.map_nil, Int.natCast_zero] at e
      simp [s_sForm, e])
theorem find_form (l : List Frm) (id : Int) : (∃ j f, formS l id = some f ∧ findS l id = (j : Nat) ∧ l[j]? = some f) ∨ (formS l id = none ∧ findS l id = -1) := by
  unfold formS findS firstS
  cases h : l.findIdx? (fun f : Frm => f.id == id) with
  | none =>
    right
    refine ⟨?_, rfl⟩
    rw [List.findIdx?_eq_none_iff] at h
    rw [List.find?_eq_none]
    intro x hx
    simp [h x hx]
  | some j =>
    left
    obtain ⟨hj, h1, h2⟩ := List.findIdx?_eq_some_iff_getElem.1 h
    refine ⟨j, l[j], ?_, rfl, List.getElem?_eq_getElem hj⟩
    rw [List.find?_eq_some_iff_getElem]
    exact ⟨h1, j, hj, rfl, fun k hk => by simpa using h2 k hk⟩
/-! The same? -/
theorem fld_eq (a b : Fld) : (a.id == b.id && (a.kind == b.kind && (a.lo == b.lo && (a.hi == b.hi && (a.most == b.most && true))))) = decide (a = b) := by
  rw [Bool.eq_iff_iff]
  cases a; cases b
  simp
theorem frm_eq (a b : Frm) : decide (a = b) = (decide (a.id = b.id) && decide (a.fields = b.fields)) := by
  rw [Bool.eq_iff_iff]
  cases a; cases b
  simp
theorem sch_eq (a b : Sch) : decide (a = b) = (decide (a.ver = b.ver) && decide (a.forms = b.forms)) := by
  rw [Bool.eq_iff_iff]
  cases a; cases b
  simp
theorem c_ySameFormL (a b : Frm) (hl : a.fields.length ≤ 140737488355328) (hab : a.fields.length = b.fields.length) : ∀ (r r' : List Fld) (i : Nat), a.fields.drop i = r → b.fields.drop i = r' →
    ltbl E0 84 0 4 [.int .i64 i] [[.int .i64 a.id, fldsV a.fields], [.int .i64 b.id, fldsV b.fields]] = some (if r = r' then (1, [], []) else (0, [.bool false], [])) := by
  intro r
  induction r with
  | nil =>
    intro r' i hr hr'
    have h : a.fields.length ≤ i := by simpa using hr
    have : r' = [] := by rw [← hr']; simp; omega
    subst this
    refine t_ySameFormL _ _ _ ?_
    have : ¬ ((i : Int) < a.fields.length) := by omega
    simp [s_ySameFormL, this]
  | cons x r ih =>
    intro r' i hr hr'
    obtain ⟨hlt, hget, hr2⟩ := drop_c hr
    cases r' with
    | nil => simp at hr'; omega
    | cons y r' =>
      obtain ⟨_, hget', hr2'⟩ := drop_c hr'
      have h2 : (i : Int) < a.fields.length := by omega
      have e1 := i64_succ (i := i) (by omega)
      have h := ih r' (i + 1) hr2 hr2'
      refine t_ySameFormL _ _ _ ?_
      simp only [s_ySameFormL, OA_asm, List.length_map, h2, decide_true, cond_true, OA_chk, Int.natCast_nonneg, nthE, Int.toNat_natCast, List.getElem?_map, hget, hget', Option.map_some, u_asA, u_asC, u_asI, u_asB, u_asL, u_asN, e1, h, fld_eq]
      by_cases e : x = y
      · simp [e]
      · simp [e]
theorem c_ySameForm (a b : Frm) (h : a.fields.length ≤ 140737488355328) : tbl E0 84 [frmV a, frmV b] [] = some ([.bool (decide (a = b))], []) :=
  t_ySameForm a b (by
    rw [frm_eq]
    simp only [s_ySameForm, OA_chk, cond_true, OA_join, OA_asm, List.length_map, OA_loop]
    by_cases i0 : a.id = b.id
    · rw [show (a.id != b.id) = false by simp [i0], cond_false]
      by_cases hab : a.fields.length = b.fields.length
      · have e := c_ySameFormL a b h hab a.fields b.fields 0 rfl rfl
        simp only [Int.natCast_zero] at e
        rw [show ((a.fields.length : Int) != (b.fields.length : Int)) = false by rw [hab]; simp]
        simp only [Option.bind_some, Tok.untok_tok, cond_false, e]
        by_cases e2 : a.fields = b.fields <;> simp [i0, e2]
      · have : ¬ (a.fields = b.fields) := fun e => hab (by rw [e])
        rw [show ((a.fields.length : Int) != (b.fields.length : Int)) = true from bne_t (by omega)]
        simp [i0, this]
    · simp [i0])
theorem c_EqualFL (a b : List Fld) (hl : a.length ≤ 140737488355328) (hab : a.length = b.length) : ∀ (r r' : List Fld) (i : Nat), a.drop i = r → b.drop i = r' →
    ltbl E0 81 0 4 [fldsV a, fldsV b, .int .i64 a.length, .int .i64 i] [] = some (if r = r' then (1, [], []) else (0, [.bool false], [])) := by
  intro r
  induction r with
  | nil =>
    intro r' i hr hr'
    have h : a.length ≤ i := by simpa using hr
    have : r' = [] := by rw [← hr']; simp; omega
    subst this
    refine t_EqualFL _ _ _ _ ?_
    have : ¬ ((i : Int) < a.length) := by omega
    simp [s_EqualFL, this]
  | cons x r ih =>
    intro r' i hr hr'
    obtain ⟨hlt, hget, hr2⟩ := drop_c hr
    cases r' with
    | nil => simp at hr'; omega
    | cons y r' =>
      obtain ⟨_, hget', hr2'⟩ := drop_c hr'
      have h2 : (i : Int) < a.length := by omega
      have e1 := i64_succ (i := i) (by omega)
      have h := ih r' (i + 1) hr2 hr2'
      refine t_EqualFL _ _ _ _ ?_
      simp only [s_EqualFL, OA_asm, List.length_map, h2, decide_true, cond_true, OA_chk, Int.natCast_nonneg, nthE, Int.toNat_natCast, List.getElem?_map, hget, hget', Option.map_some, u_asA, u_asC, u_asI, u_asB, u_asL, u_asN, e1, h, fld_eq]
      by_cases e : x = y
      · simp [e]
      · simp [e]
theorem c_EqualF (a b : List Fld) (h : a.length ≤ 140737488355328) : tbl E0 81 [fldsV a, fldsV b] [] = some ([.bool (decide (a = b))], []) :=
  t_EqualF a b (by
    simp only [s_EqualF, OA_asm, List.length_map, OA_loop]
    by_cases hab : a.length = b.length
    · have e := c_EqualFL a b h hab a b 0 rfl rfl
      simp only [Int.natCast_zero] at e
      have h' : ((a.length : Int) != (b.length : Int)) = false := by rw [hab]; simp
      rw [h', cond_false, e]
      by_cases e2 : a = b <;> simp [e2]
    · have : ¬ (a = b) := fun e => hab (by rw [e])
      have h' : ((a.length : Int) != (b.length : Int)) = true := bne_t (by omega)
      rw [h']
      simp [this])
theorem c_sSame1 (a b : Frm) (h : a.fields.length ≤ 140737488355328) : tbl E0 80 [frmV a, frmV b] [] = some ([.bool (decide (a = b))], []) :=
  t_sSame1 a b (by
    have c := c_EqualF a.fields b.fields h
    rw [frm_eq]
    simp only [s_sSame1, OA_chk, cond_true, OA_join, OA_callx, c, Option.bind_some, u_asC, u_asB, u_asN]
    by_cases i0 : a.id = b.id <;> simp [i0])
theorem c_EqualFuncL (a b : List Frm) (hl : a.length ≤ 140737488355328) (hf : ∀ f ∈ a, f.fields.length ≤ 140737488355328) (hab : a.length = b.length) : ∀ (r r' : List Frm) (i : Nat), a.drop i = r → b.drop i = r' →
    ltbl E0 79 0 4 [frmsV b, .clo 80 [], frmsV a, .int .i64 a.length, .int .i64 i] [] = some (if r = r' then (1, [], []) else (0, [.bool false], [])) := by
  intro r
  induction r with
  | nil =>
    intro r' i hr hr'
    have h : a.length ≤ i := by simpa using hr
    have : r' = [] := by rw [← hr']; simp; omega
    subst this
    refine t_EqualFuncL _ _ _ _ ?_
    have : ¬ ((i : Int) < a.length) := by omega
    simp [s_EqualFuncL, this]
  | cons x r ih =>
    intro r' i hr hr'
    obtain ⟨hlt, hget, hr2⟩ := drop_c hr
    cases r' with
    | nil => simp at hr'; omega
    | cons y r' =>
      obtain ⟨_, hget', hr2'⟩ := drop_c hr'
      have h2 : (i : Int) < a.length := by omega
      have e1 := i64_succ (i := i) (by omega)
      have h := ih r' (i + 1) hr2 hr2'
      have c := c_sSame1 x y (hf x (mem_drop hr))
      refine t_EqualFuncL _ _ _ _ ?_
      simp only [s_EqualFuncL, OA_asm, List.length_map, h2, decide_true, cond_true, OA_chk, Int.natCast_nonneg, nthE, Int.toNat_natCast, List.getElem?_map, hget, hget', Option.map_some, u_asA, u_asC, u_asI, u_asB, u_asL, u_asN, OA_callx, c, Option.bind_some, e1, h]
      by_cases e : x = y
      · simp [e]
      · simp [e]
theorem c_EqualFunc (a b : List Frm) (h : a.length ≤ 140737488355328) (hf : ∀ f ∈ a, f.fields.length ≤ 140737488355328) : tbl E0 79 [frmsV a, frmsV b, .clo 80 []] [] = some ([.bool (decide (a = b))], []) :=
  t_EqualFunc a b (by
    simp only [s_EqualFunc, OA_asm, List.length_map, OA_loop]
    by_cases hab : a.length = b.length
    · have e := c_EqualFuncL a b h hf hab a b 0 rfl rfl
      simp only [Int.natCast_zero] at e
      have h' : ((a.length : Int) != (b.length : Int)) = false := by rw [hab]; simp
      rw [h', cond_false, e]
      by_cases e2 : a = b <;> simp [e2]
    · have : ¬ (a = b) := fun e => hab (by rw [e])
      have h' : ((a.length : Int) != (b.length : Int)) = true := bne_t (by omega)
      rw [h']
      simp [this])
theorem c_sSame (a b : Sch) (h : Sml a) : tbl E0 40 [schV a, schV b] [] = some ([.bool (decide (a = b))], []) :=
  t_sSame a b (by
    have c := c_EqualFunc a.forms b.forms h.1 h.2
    rw [sch_eq]
    simp only [s_sSame, OA_chk, cond_true, OA_join, OA_callx, c, Option.bind_some, u_asC, u_asB, u_asN]
    by_cases i0 : a.ver = b.ver <;> simp [i0])
theorem c_ySameL (a b : Sch) (hs : Sml a) (hab : a.forms.length = b.forms.length) : ∀ (r r' : List Frm) (i : Nat), a.forms.drop i = r → b.forms.drop i = r' →
    ltbl E0 46 0 4 [.int .i64 i] [[.int .i64 a.ver, frmsV a.forms], [.int .i64 b.ver, frmsV b.forms]] = some (if r = r' then (1, [], []) else (0, [.bool false], [])) := by
  have hl := hs.1
  intro r
  induction r with
  | nil =>
    intro r' i hr hr'
    have h : a.forms.length ≤ i := by simpa using hr
    have : r' = [] := by rw [← hr']; simp; omega
    subst this
    refine t_ySameL _ _ _ ?_
    have : ¬ ((i : Int) < a.forms.length) := by omega
    simp [s_ySameL, this]
  | cons x r ih =>
    intro r' i hr hr'
    obtain ⟨hlt, hget, hr2⟩ := drop_c hr
    cases r' with
    | nil => simp at hr'; omega
    | cons y r' =>
      obtain ⟨_, hget', hr2'⟩ := drop_c hr'
      have h2 : (i : Int) < a.forms.length := by omega
      have e1 := i64_succ (i := i) (by omega)
      have h := ih r' (i + 1) hr2 hr2'
      have c := c_ySameForm x y (hs.2 x (mem_drop hr))
      refine t_ySameL _ _ _ ?_
      simp only [s_ySameL, OA_asm, List.length_map, h2, decide_true, cond_true, OA_chk, Int.natCast_nonneg, nthE, Int.toNat_natCast, List.getElem?_map, hget, hget', Option.map_some, u_asA, u_asC, u_asI, u_asB, u_asL, u_asN, OA_callx, c, Option.bind_some, e1, h]
      by_cases e : x = y
      · simp [e]
      · simp [e]
theorem c_ySame (a b : Sch) (h : Sml a) : tbl E0 46 [schV a, schV b] [] = some ([.bool (decide (a = b))], []) :=
  t_ySame a b (by
    rw [sch_eq]
    simp only [s_ySame, OA_chk, cond_true, OA_join, OA_asm, List.length_map, OA_loop]
    by_cases i0 : a.ver = b.ver
    · rw [show (a.ver != b.ver) = false by simp [i0], cond_false]
      by_cases hab : a.forms.length = b.forms.length
      · have e := c_ySameL a b h hab a.forms b.forms 0 rfl rfl
        simp only [Int.natCast_zero] at e
        rw [show ((a.forms.length : Int) != (b.forms.length : Int)) = false by rw [hab]; simp]
        simp only [Option.bind_some, Tok.untok_tok, cond_false, e]
        by_cases e2 : a.forms = b.forms <;> simp [i0, e2]
      · have : ¬ (a.forms = b.forms) := fun e => hab (by rw [e])
        rw [show ((a.forms.length : Int) != (b.forms.length : Int)) = true from bne_t (by omega)]
        simp [i0, this]
    · simp [i0])
end Go.Proofs.Ythmocicjocjdoaa.V
namespace Go.Proofs.Ythmocicjocjdoaa.V
open Go
end Go.Proofs.Ythmocicjocjdoaa.V
