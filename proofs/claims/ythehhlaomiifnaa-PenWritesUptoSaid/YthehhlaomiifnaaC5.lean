/- The pen's law: writing; the reference's eye. -/
import Derived.Test.YthehhlaomiifnaaC4
namespace Go.Proofs.Ythehhlaomiifnaa.V
open Go
theorem wrs_len : ∀ (l : List (Int × Int × List UInt8)), (∀ a, a ∈ l → actOK a) → actSz l ≤ 140737488355328 → (wrs l).length ≤ actSz l
  | [], _, _ => by simp [wrs, actSz]
  | (k, n, s) :: l, h, hs => by
    have e : actSz ((k, n, s) :: l) = 10 + s.length + actSz l := by simp [actSz]
    rw [e] at hs ⊢
    have hok := h _ (List.mem_cons_self ..)
    have h1 := wr_len k n s hok.1 hok.2 (by omega)
    have h2 := wrs_len l (fun a ha => h a (List.mem_cons_of_mem _ ha)) (by omega)
    simp only [wrs, List.flatMap_cons, List.length_append] at h2 ⊢
    omega
theorem c_PenWrites (l : List (Int × Int × List UInt8)) (hok : ∀ a, a ∈ l → actOK a) (hl : l.length ≤ 140737488355328) (hs : actSz l ≤ 140737488355328) : tbl E0 3 [.lst .ro 3 (actL l)] [] = some ([.bool true], []) :=
  t_PenWrites l (by
    have hL := c_PenWritesL l hl l 0 [] false 0 rfl hok (by simpa using hs) rfl
    simp only [Int.natCast_zero, List.nil_append, Bool.false_or] at hL
    have hd := c_PDone (wrs l) (if l.any isBad then 2 else 0) (Nat.le_trans (wrs_len l hok hs) hs)
    simp only [penV] at hd
    simp only [s_PenWrites, OA_call, c_New, Option.bind_some, u_asC, u_asRef0, u_asOwn, u_asI, u_asN, nbeq, decide_true, cond_true, OA_loop, hL, Nm_beq_self, u_asB]
    cases hb : l.any isBad <;> simp only [hb, if_true, if_false, Bool.false_eq_true] at hd <;> simp [hd, c_awake05, orFail])
/-! The reference's eye. -/
theorem r_take (b : List UInt8) (e : Int) (n : Nat) : tbl E0 95 [.ref 0 0, .int .i64 n] (eyeV b e) = some ([.lst .ro 1 (encB (takeS b e n).1)], eyeV (takeS b e n).2.1 (takeS b e n).2.2) :=
  t_yTake b e n (by
    unfold takeS
    by_cases h : e = 0
    · subst h
      by_cases h2 : b.length < n
      · have h3 : (b.length : Int) < n := by omega
        simp [s_yTake, h2, h3, encB_nil]
      · have h3 : ¬ (b.length : Int) < n := by omega
        have h4 : (n : Int) ≤ b.length := by omega
        simp [s_yTake, h2, h3, h4, encB_take, encB_drop, List.take_of_length_le]
    · simp [s_yTake, h, encB_nil])
theorem r_groupsL (l : List UInt8) (hl : l.length ≤ 140737488355328) : ∀ (r : List UInt8) (i u : Nat) (w : Int), l.drop i = r → i ≤ 9 → u < 128 ^ i → w = ((128 ^ i : Nat) : Int) →
    ltbl E0 99 0 4 [.lst .ro 1 (encB l), .int .u64 u, .int .u64 w, .int .i64 i] [] =
      some (if (grp i u r).2.2 = 5 then (1, [], []) else if (grp i u r).2.2 = 4 then (0, [.int .u64 0, .int .i64 0, .int .i64 4], []) else (0, [.int .u64 (grp i u r).1, .int .i64 (grp i u r).2.1, .int .i64 0], [])) := by
  intro r
  induction r with
  | nil =>
    intro i u w hr hi hu hw
    have h : l.length ≤ i := by simpa using hr
    refine t_ygroupsL l u w i ?_
    have : ¬ ((i : Int) < l.length) := by omega
    simp [s_ygroupsL, this, grp]
  | cons c r ih =>
    intro i u w hr hi hu hw
    obtain ⟨hlt, hget, hr2⟩ := drop_cons hr
    have hc := c.toNat_lt
    refine t_ygroupsL l u w i ?_
    have h1 : (i : Int) < l.length := by omega
    have h10 : (i : Int) < 10 := by omega
    have hi1 : IntKind.i64.wrap ((i : Int) + 1) = ((i + 1 : Nat) : Int) := by rw [wrap_i64 _ (by omega) (by omega)]; omega
    have hc2 : IntKind.u64.wrap (c.toNat : Int) = (c.toNat : Int) := wrap_u64_id (by omega) (by omega)
    have hp9 : (128 : Nat) ^ i ≤ 9223372036854775808 := Nat.le_trans (Nat.pow_le_pow_right (by decide) hi) (show (128 : Nat) ^ 9 ≤ 9223372036854775808 by decide)
    have hnew : (i = 9 → c.toNat ≤ 1) → IntKind.u64.wrap ((u : Int) + IntKind.u64.wrap ((c.toNat : Int).tmod 128 * w)) = ((u + c.toNat % 128 * 128 ^ i : Nat) : Int) := by
      intro h9
      rw [hw, Int.tmod_eq_emod_of_nonneg (by omega)]
      have hb : c.toNat % 128 * 128 ^ i ≤ 9223372036854775808 := by
        by_cases hi9 : i = 9
        · subst hi9
          have h9' := h9 rfl
          have : c.toNat % 128 * 128 ^ 9 ≤ 1 * 128 ^ 9 := Nat.mul_le_mul_right _ (by omega)
          omega
        · have h8 : (128 : Nat) ^ i ≤ 128 ^ 8 := Nat.pow_le_pow_right (by decide) (by omega)
          have : c.toNat % 128 * 128 ^ i ≤ 127 * 128 ^ 8 := Nat.mul_le_mul (by omega) h8
          omega
      have e1 : (c.toNat : Int) % 128 * ((128 ^ i : Nat) : Int) = ((c.toNat % 128 * 128 ^ i : Nat) : Int) := by rw [Int.natCast_mul, Int.natCast_emod]; rfl
      rw [e1]
      generalize c.toNat % 128 * 128 ^ i = z at hb
      rw [wrap_u64_id (n := (z : Int)) (by omega) (by omega), wrap_u64_id (by omega) (by omega)]
      rfl
    simp only [s_ygroupsL, encB_length, OA_asm, h1, h10, decide_true, cond_true, OA_join, Option.bind_some, Tok.untok_tok, OA_chk, Int.natCast_nonneg, nthE, Int.toNat_natCast, encB_get, hget, Option.map_some, u_asI, hc2, hi1]
    by_cases h9 : i = 9 ∧ 1 < c.toNat
    · have hg : grp i u (c :: r) = (0, 0, 4) := by rw [grp, if_pos (.inl h9)]
      have a1 : ((i : Int) == 9) = true := by rw [beq_iff_eq]; omega
      have a2 : (1 : Int) < c.toNat := by omega
      simp [hg, a1, a2]
    · have hj : (bif (i : Int) == 9 then some (Tok.tok (R := LR) (decide ((c.toNat : Int) > 1))) else some (Tok.tok false)) = some (Tok.tok false) := by
        by_cases a1 : i = 9
        · have a2 : ¬ (1 : Int) < c.toNat := fun h => h9 ⟨a1, by omega⟩
          simp [a2]
        · have a1 : ((i : Int) == 9) = false := by rw [beq_eq_false_iff_ne]; omega
          simp only [a1, cond_false]
      simp only [hj, Option.bind_some, Tok.untok_tok, cond_false]
      by_cases h0 : 0 < i ∧ c.toNat = 0
      · have hg : grp i u (c :: r) = (0, 0, 4) := by rw [grp, if_pos (.inr h0)]
        have a1 : (0 : Int) < i := by omega
        have a3 := h0.1
        simp [hg, a3, h0.2]
      · have hj2 : (bif decide ((i : Int) > 0) then some (Tok.tok (R := LR) ((c.toNat : Int) == 0)) else some (Tok.tok false)) = some (Tok.tok false) := by
          by_cases a1 : 0 < i
          · have a2 : ((c.toNat : Int) == 0) = false := by rw [beq_eq_false_iff_ne]; intro h; exact h0 ⟨a1, by omega⟩
            have a1' : (i : Int) > 0 := by omega
            simp only [a1', decide_true, cond_true, a2]
          · have a1' : ¬ (i : Int) > 0 := by omega
            simp only [a1', decide_false, cond_false]
        simp only [hj2, Option.bind_some, Tok.untok_tok, cond_false, hnew (fun h => by omega)]
        have hbad : ¬ ((i = 9 ∧ 1 < c.toNat) ∨ (0 < i ∧ c.toNat = 0)) := fun h => h.elim h9 h0
        by_cases hs : c.toNat < 128
        · have hg : grp i u (c :: r) = (u + c.toNat * 128 ^ i, i + 1, 0) := by rw [grp, if_neg hbad, if_pos hs]
          have hs2 : (c.toNat : Int) < 128 := by omega
          have hm : c.toNat % 128 = c.toNat := by omega
          rw [hg, hm]
          simp [hs2]
        · have hg : grp i u (c :: r) = grp (i + 1) (u + c.toNat % 128 * 128 ^ i) r := by rw [grp, if_neg hbad, if_neg hs]
          have hs2 : ¬ (c.toNat : Int) < 128 := by omega
          have hi9 : i ≠ 9 := fun h => by omega
          have h3 : u + c.toNat % 128 * 128 ^ i < 128 ^ (i + 1) := by
            have : c.toNat % 128 * 128 ^ i ≤ 127 * 128 ^ i := Nat.mul_le_mul_right _ (by omega)
            rw [Nat.pow_succ]; omega
          rw [hg]
          simp only [hs2, decide_false, cond_false]
          refine ih (i + 1) _ _ hr2 (by omega) h3 ?_
          have h8 : (128 : Nat) ^ i ≤ 72057594037927936 := Nat.le_trans (Nat.pow_le_pow_right (n := 128) (by decide) (show i ≤ 8 by omega)) (by decide)
          rw [hw, wrap_u64_id (by omega) (by omega), Nat.pow_succ]
          omega
theorem r_groups (b : List UInt8) (hb : b.length ≤ 140737488355328) : tbl E0 99 [.lst .ro 1 (encB b)] [] = some (if (grp 0 0 b).2.2 = 0 then ([.int .u64 (grp 0 0 b).1, .int .i64 (grp 0 0 b).2.1, .int .i64 0], []) else ([.int .u64 0, .int .i64 0, .int .i64 (grp 0 0 b).2.2], [])) :=
  t_ygroups b (by
    have hL := r_groupsL b hb b 0 0 1 rfl (by omega) (by decide) (by decide)
    have hg := (grp_bound b 0 0 (by omega) (by decide)).2.2
    simp only [Int.natCast_zero] at hL
    rcases hg with hg | hg | hg <;> simp [s_ygroups, hL, hg])
theorem r_ECount (b : List UInt8) (e m : Int) (hb : b.length ≤ 140737488355328) : tbl E0 28 [.ref 0 0, .int .i64 m] (eyeV b e) = some ([.int .i64 (countS b e m).1], eyeV (countS b e m).2.1 (countS b e m).2.2) :=
  t_yCount b e m (by
    have hg := r_groups b hb
    have hbd := grp_bound b 0 0 (by omega) (by decide)
    unfold countS
    by_cases h : e = 0
    · subst h
      by_cases hf : (grp 0 0 b).2.2 = 0
      · have hn := hbd.2.1 hf
        simp only [hf, if_true] at hg
        by_cases h63 : 9223372036854775808 ≤ (grp 0 0 b).1
        · have h63' : (9223372036854775808 : Int) ≤ (grp 0 0 b).1 := by omega
          simp [s_yCount, hg, hf, h63, h63']
        · have h63' : ¬ (9223372036854775808 : Int) ≤ (grp 0 0 b).1 := by omega
          have hw := wrap_i64 ((grp 0 0 b).1 : Int) (by omega) (by omega)
          have hn' : ((grp 0 0 b).2.1 : Int) ≤ b.length := by omega
          by_cases hm : max m 0 < ((grp 0 0 b).1 : Int)
          · simp [s_yCount, hg, hf, h63, h63', hw, max_eq, hm]
          · simp [s_yCount, hg, hf, h63, h63', hw, max_eq, hm, hn', encB_take, encB_drop, List.take_of_length_le]
      · simp only [hf, if_false] at hg
        simp [s_yCount, hg, hf]
    · simp [s_yCount, h])
theorem r_ENum (b : List UInt8) (e : Int) (hb : b.length ≤ 140737488355328) : tbl E0 30 [.ref 0 0] (eyeV b e) = some ([.int .i64 (numS b e).1], eyeV (numS b e).2.1 (numS b e).2.2) :=
  t_yNum b e (by
    have hg := r_groups b hb
    have hbd := grp_bound b 0 0 (by omega) (by decide)
    unfold numS grpS
    by_cases h : e = 0
    · subst h
      by_cases hf : (grp 0 0 b).2.2 = 0
      · have hn := hbd.2.1 hf
        simp only [hf, if_true] at hg
        have hn' : ((grp 0 0 b).2.1 : Int) ≤ b.length := by omega
        have e1 : ((grp 0 0 b).1 : Int).tmod 2 = ((grp 0 0 b).1 % 2 : Nat) := by rw [Int.tmod_eq_emod_of_nonneg (by omega)]; omega
        have e2 : ((grp 0 0 b).1 : Int).tdiv 2 = ((grp 0 0 b).1 / 2 : Nat) := by rw [Int.tdiv_eq_ediv_of_nonneg (by omega)]; omega
        have e3 := wrap_u64_id (n := ((grp 0 0 b).1 / 2 : Nat)) (by omega) (by omega)
        have e4 := wrap_i64 ((grp 0 0 b).1 / 2 : Nat) (by omega) (by omega)
        have e5 := wrap_i64 (0 - (((grp 0 0 b).1 / 2 : Nat) : Int)) (by omega) (by omega)
        have e6 := wrap_i64 (0 - (((grp 0 0 b).1 / 2 : Nat) : Int) - 1) (by omega) (by omega)
        simp only [s_yNum, OA_callx, hg, Option.bind_some, u_asC, u_asI, u_asN, OA_chk, cond_true, e1, e2, e3, e4, e5, e6]
        unfold unz
        by_cases ho : (grp 0 0 b).1 % 2 = 1
        · simp [hf, hn', ho, encB_take, encB_drop, List.take_of_length_le]
        · have ho' : ¬ ((((grp 0 0 b).1 % 2 : Nat) : Int) = 1) := by omega
          simp [hf, hn', ho, encB_take, encB_drop, List.take_of_length_le]
          intro hh; omega
      · simp only [hf, if_false] at hg
        simp [s_yNum, hg, hf, unz]
    · simp [s_yNum, h, unz])
theorem r_EByte (b : List UInt8) (e : Int) : tbl E0 26 [.ref 0 0] (eyeV b e) = some ([.int .u8 (byteS b e).1], eyeV (byteS b e).2.1 (byteS b e).2.2) :=
  t_yByte b e (by
    have ht := r_take b e 1
    simp only [Int.natCast_one] at ht
    unfold byteS
    simp only [s_yByte, OA_call, ht, Option.bind_some, u_asC, u_asL, u_asI, u_asN, nbeq, decide_true, cond_true, OA_asm, encB_length]
    generalize (takeS b e 1).1 = l
    cases l with
    | nil => simp
    | cons c l => have : ¬ ((l.length : Int) + 1 = 0) := by omega
                  simp [this, nthE, encB_cons])
theorem r_EWordL (l b : List UInt8) (e : Int) : ∀ (r : List UInt8) (i x : Nat), l.drop i = r → l.length ≤ 4 → x < 256 ^ i →
    ltbl E0 32 0 4 [.int .u32 x, .lst .ro 1 (encB l), .int .i64 i] [[.lst .ro 1 (encB b), .int .i64 e]] = some (1, [.int .u32 (wordOf x r)], [[.lst .ro 1 (encB b), .int .i64 e]]) := by
  intro r
  induction r with
  | nil =>
    intro i x hr hl hx
    have h : l.length ≤ i := by simpa using hr
    refine t_yWordL _ _ _ _ _ ?_
    have : ¬ ((i : Int) < l.length) := by omega
    simp [s_yWordL, this, wordOf]
  | cons c r ih =>
    intro i x hr hl hx
    obtain ⟨hlt, hget, hr2⟩ := drop_cons hr
    have hc := c.toNat_lt
    have hp : (256 : Nat) ^ i ≤ 16777216 := Nat.le_trans (Nat.pow_le_pow_right (n := 256) (by decide) (show i ≤ 3 by omega)) (by decide)
    refine t_yWordL _ _ _ _ _ ?_
    have h1 : (i : Int) < l.length := by omega
    have hi1 : IntKind.i64.wrap ((i : Int) + 1) = ((i + 1 : Nat) : Int) := by rw [wrap_i64 _ (by omega) (by omega)]; omega
    have hx2 : IntKind.u32.wrap (IntKind.u32.wrap (256 * (x : Int)) + IntKind.u32.wrap (c.toNat : Int)) = ((256 * x + c.toNat : Nat) : Int) := by
      rw [wrap_u32_id (show 0 ≤ 256 * (x : Int) by omega) (by omega), wrap_u32_id (show (0 : Int) ≤ c.toNat by omega) (by omega), wrap_u32_id (by omega) (by omega)]; omega
    have h3 : 256 * x + c.toNat < 256 ^ (i + 1) := by rw [Nat.pow_succ]; omega
    simp only [s_yWordL, OA_asm, encB_length, h1, decide_true, cond_true, OA_chk, nthE, Int.toNat_natCast, encB_get, hget, Option.map_some, u_asI, hi1, hx2, Int.natCast_nonneg]
    exact ih (i + 1) _ hr2 hl h3
theorem r_EWord (b : List UInt8) (e : Int) : tbl E0 32 [.ref 0 0] (eyeV b e) = some ([.int .u32 (wordS b e).1], eyeV (wordS b e).2.1 (wordS b e).2.2) :=
  t_yWord b e (by
    have ht := r_take b e 4
    have hl := r_EWordL (takeS b e 4).1 (takeS b e 4).2.1 (takeS b e 4).2.2 (takeS b e 4).1 0 0 rfl (by rcases takeS_len b e 4 with h | h <;> simp [h]) (by decide)
    simp only [Int.natCast_zero] at hl
    rw [show ((4 : Nat) : Int) = 4 from rfl] at ht
    simp [s_yWord, ht, hl, wordS])
theorem countS_fail (b : List UInt8) (e m : Int) (h : (countS b e m).2.2 ≠ 0) : (countS b e m).2.1 = b ∧ (countS b e m).1 = 0 := by
  revert h
  unfold countS
  split
  · simp
  · split
    · simp
    · split
      · simp
      · split <;> simp
theorem textS_ref (b : List UInt8) (e m : Int) : (if (textS b e m).2.2 ≠ 0 then b else (takeS (countS b e m).2.1 (countS b e m).2.2 (countS b e m).1.toNat).2.1) = (textS b e m).2.1 := by
  have hf := countS_fail b e m
  unfold textS
  simp only
  generalize countS b e m = cs at hf ⊢
  obtain ⟨c1, c2, c3⟩ := cs
  simp only at hf ⊢
  by_cases hc : c3 = 0
  · subst hc
    unfold takeS
    simp only [ne_eq, not_true_eq_false, if_false]
    split <;> simp
  · obtain ⟨rfl, rfl⟩ := hf hc
    unfold takeS
    simp [hc]
theorem r_EText (b : List UInt8) (e m : Int) (hb : b.length ≤ 140737488355328) : tbl E0 34 [.ref 0 0, .int .i64 m] (eyeV b e) = some ([.str (textS b e m).1], eyeV (textS b e m).2.1 (textS b e m).2.2) :=
  t_yText b e m (by
    have hc := r_ECount b e m hb
    have h0 := countS_nonneg b e m
    have ht := r_take (countS b e m).2.1 (countS b e m).2.2 (countS b e m).1.toNat
    rw [Int.toNat_of_nonneg h0] at ht
    have hx := textS_ref b e m
    have h2 : (textS b e m).2.2 = (takeS (countS b e m).2.1 (countS b e m).2.2 (countS b e m).1.toNat).2.2 := rfl
    have h1 : (textS b e m).1 = (takeS (countS b e m).2.1 (countS b e m).2.2 (countS b e m).1.toNat).1 := rfl
    rw [h2] at hx
    rw [← hx, h1, h2]
    by_cases h5 : (takeS (countS b e m).2.1 (countS b e m).2.2 (countS b e m).1.toNat).2.2 = 0
    · simp [s_yText, hc, ht, h5, orFail]
    · simp [s_yText, hc, ht, h5, orFail])
theorem r_EEnd (b : List UInt8) (e : Int) : tbl E0 38 [.ref 0 0] (eyeV b e) = some ([.int .i64 (endS b e)], eyeV b e) :=
  t_yEnd b e (by
    unfold endS
    by_cases h : e = 0
    · subst h
      cases b with
      | nil => simp [s_yEnd]
      | cons c b => have : (0 : Int) < (b.length : Int) + 1 := by omega
                    simp [s_yEnd, this]
    · simp [s_yEnd, h])
end Go.Proofs.Ythehhlaomiifnaa.V
