/- The pen's law: reading, and reading back. -/
import Derived.Test.YthehhlaomiifnaaC5
namespace Go.Proofs.Ythehhlaomiifnaa.V
open Go
theorem c_PenReadsB (l : List (Int × Int × List UInt8)) (b : List UInt8) (i e : Int) :
    ltbl E0 4 0 1000017 [.lst .ro 3 (actL l), .int .i64 i, .bool true] [[.lst .ro 1 (encB b), .int .i64 e], [.lst .ro 1 (encB b), .int .i64 e]] = some (50001, [.lst .ro 3 (actL l), .int .i64 i], [[.lst .ro 1 (encB b), .int .i64 e], [.lst .ro 1 (encB b), .int .i64 e]]) :=
  t_PenReadsB l b b i e e true (by simp [s_PenReadsB, c_Left, c_Bad, c_End, r_EEnd])
theorem textS_len (b : List UInt8) (e m : Int) : (textS b e m).2.1.length ≤ b.length := by
  unfold textS
  simp only
  split
  · exact Nat.le_refl _
  · exact Nat.le_trans (takeS_len2 _ _ _) (countS_len b e m)
theorem c_PenReadsL (l : List (Int × Int × List UInt8)) (hl : l.length ≤ 140737488355328) : ∀ (r : List (Int × Int × List UInt8)) (i : Nat) (b : List UInt8) (e : Int), l.drop i = r → b.length ≤ 140737488355328 →
    ltbl E0 4 0 4 [.lst .ro 3 (actL l), .int .i64 i] [[.lst .ro 1 (encB b), .int .i64 e], [.lst .ro 1 (encB b), .int .i64 e]] = some (1, [], []) := by
  intro r
  induction r with
  | nil =>
    intro i b e hr hb
    have h : l.length ≤ i := by simpa using hr
    refine t_PenReadsL _ _ _ _ _ _ ?_
    have : ¬ ((i : Int) < l.length) := by omega
    simp [s_PenReadsL, this]
  | cons a r ih =>
    intro i b e hr hb
    obtain ⟨hlt, hget, hr2⟩ := drop_cons hr
    obtain ⟨k, n, s⟩ := a
    refine t_PenReadsL _ _ _ _ _ _ ?_
    have h1 : (i : Int) < l.length := by omega
    have hgetA : (actL l)[i]? = some (actV k n s) := by simp [actL, hget]
    have hi1 : IntKind.i64.wrap ((i : Int) + 1) = ((i + 1 : Nat) : Int) := by rw [wrap_i64 _ (by omega) (by omega)]; omega
    have next := fun b' e' hb' => ih (i + 1) b' e' hr2 hb'
    have n0 := next (byteS b e).2.1 (byteS b e).2.2 (Nat.le_trans (takeS_len2 b e 1) hb)
    have n1 := next (countS b e n).2.1 (countS b e n).2.2 (Nat.le_trans (countS_len b e n) hb)
    have n2 := next (numS b e).2.1 (numS b e).2.2 (Nat.le_trans (grpS_len b e) hb)
    have n3 := next (wordS b e).2.1 (wordS b e).2.2 (Nat.le_trans (takeS_len2 b e 4) hb)
    have n4 := next (textS b e n).2.1 (textS b e n).2.2 (Nat.le_trans (textS_len b e n) hb)
    have e0 := c_EByte b e
    have e0' := r_EByte b e
    have e1 := c_ECount b e n hb
    have e1' := r_ECount b e n hb
    have e2 := c_ENum b e hb
    have e2' := r_ENum b e hb
    have e3 := c_EWord b e
    have e3' := r_EWord b e
    have e4 := c_EText b e n hb
    have e4' := r_EText b e n hb
    have hl2 : ((actL l).length : Int) = l.length := by simp [actL]
    simp only [s_PenReadsL, OA_asm, hl2, h1, decide_true, cond_true, OA_chk, Int.natCast_nonneg, nthE, Int.toNat_natCast, hgetA, actV, u_asA, u_asC, u_asI, u_asS, u_asN]
    by_cases k0 : k = 0
    · simp only [k0, beq_self_eq_true, cond_true, OA_call, e0, e0', Option.bind_some, u_asC, u_asL, u_asI, u_asN, nbeq, decide_true, OA_loop, c_PenReadsB, hi1, n0]
    · by_cases k1 : k = 1
      · simp only [k1, show ((1 : Int) == 0) = false from rfl, cond_false, beq_self_eq_true, cond_true, OA_call, e1, e1', Option.bind_some, u_asC, u_asL, u_asI, u_asN, nbeq, decide_true, OA_loop, c_PenReadsB, hi1, n1]
      · by_cases k2 : k = 2
        · simp only [k2, show ((2 : Int) == 0) = false from rfl, show ((2 : Int) == 1) = false from rfl, cond_false, beq_self_eq_true, cond_true, OA_call, e2, e2', Option.bind_some, u_asC, u_asL, u_asI, u_asN, nbeq, decide_true, OA_loop, c_PenReadsB, hi1, n2]
        · by_cases k3 : k = 3
          · simp only [k3, show ((3 : Int) == 0) = false from rfl, show ((3 : Int) == 1) = false from rfl, show ((3 : Int) == 2) = false from rfl, cond_false, beq_self_eq_true, cond_true, OA_call, e3, e3', Option.bind_some, u_asC, u_asL, u_asI, u_asN, nbeq, decide_true, OA_loop, c_PenReadsB, hi1, n3]
          · simp only [beq_f k0, beq_f k1, beq_f k2, beq_f k3, cond_false, OA_call, e4, e4', Option.bind_some, u_asC, u_asL, u_asI, u_asS, u_asN, nbeq, decide_true, cond_true, beq_self_eq_true, OA_loop, c_PenReadsB, hi1, n4]
theorem c_PenReads (b : List UInt8) (l : List (Int × Int × List UInt8)) (hl : l.length ≤ 140737488355328) (hb : b.length ≤ 140737488355328) : tbl E0 4 [.lst .ro 1 (encB b), .lst .ro 3 (actL l)] [] = some ([.bool true], []) :=
  t_PenReads b l (by
    have hL := c_PenReadsL l hl l 0 b 0 rfl hb
    simp only [Int.natCast_zero] at hL
    simp [s_PenReads, c_Of b hb, hL, c_awake05, hb])
/-! What was written is read. -/
theorem pow_step (u : Nat) (i : Nat) : u % 128 * 128 ^ i + u / 128 * 128 ^ (i + 1) = u * 128 ^ i := by
  have h := Nat.div_add_mod u 128
  rw [Nat.pow_succ]
  generalize 128 ^ i = p
  have e : u / 128 * (p * 128) = 128 * (u / 128) * p := by
    rw [Nat.mul_comm p 128, ← Nat.mul_assoc, Nat.mul_comm (u / 128) 128]
  rw [e, ← Nat.add_mul]
  congr 1
  omega
theorem grp_cnt (rest : List UInt8) (u : Nat) : ∀ (i a : Nat), i ≤ 9 → u < 2 ^ (64 - 7 * i) → (0 < i → 0 < u) → grp i a (cnt u ++ rest) = (a + u * 128 ^ i, i + (cnt u).length, 0) := by
  induction u using cnt.induct with
  | case1 u h =>
    intro i a hi hu h0
    rw [cnt, if_pos h]
    have hb : (byt u).toNat = u := byt_toNat (by omega)
    simp only [List.singleton_append, grp, hb, List.length_singleton]
    have hbad : ¬ ((i = 9 ∧ 1 < u) ∨ (0 < i ∧ u = 0)) := by
      rintro (⟨h9, h1⟩ | ⟨h1, h2⟩)
      · subst h9
        have : (2 : Nat) ^ (64 - 7 * 9) = 2 := by decide
        omega
      · have := h0 h1; omega
    rw [if_neg hbad, if_pos h]
  | case2 u h ih =>
    intro i a hi hu h0
    rw [cnt, if_neg h]
    have hb : (byt (u % 128 + 128)).toNat = u % 128 + 128 := byt_toNat (by omega)
    simp only [List.cons_append, grp, hb, List.length_cons]
    have hi9 : i ≠ 9 := by
      intro h9
      subst h9
      have : (2 : Nat) ^ (64 - 7 * 9) = 2 := by decide
      omega
    have hbad : ¬ ((i = 9 ∧ 1 < u % 128 + 128) ∨ (0 < i ∧ u % 128 + 128 = 0)) := by omega
    rw [if_neg hbad, if_neg (by omega)]
    have hp : u / 128 < 2 ^ (64 - 7 * (i + 1)) := by
      have e : 64 - 7 * i = (64 - 7 * (i + 1)) + 7 := by omega
      rw [e, Nat.pow_add] at hu
      exact Nat.div_lt_of_lt_mul (by rw [Nat.mul_comm]; exact hu)
    rw [ih (i + 1) _ (by omega) hp (fun _ => by omega)]
    have e1 : (u % 128 + 128) % 128 = u % 128 := by omega
    rw [e1, ← pow_step u i]
    simp only [Prod.mk.injEq, and_true]
    omega
theorem grp_cnt0 {u : Nat} (h : u < 18446744073709551616) (rest : List UInt8) : grp 0 0 (cnt u ++ rest) = (u, (cnt u).length, 0) := by
  rw [grp_cnt rest u 0 0 (by omega) h (by omega)]; simp
theorem countS_cnt {u : Nat} {m : Int} (h : u < 9223372036854775808) (hm : (u : Int) ≤ m) (rest : List UInt8) : countS (cnt u ++ rest) 0 m = ((u : Int), rest, 0) := by
  unfold countS
  rw [grp_cnt0 (by omega)]
  have h1 : ¬ 9223372036854775808 ≤ u := by omega
  have h2 : ¬ max m 0 < (u : Int) := by omega
  simp [h1, h2]
theorem numS_cnt {n : Int} (h : -9223372036854775808 ≤ n) (h' : n ≤ 9223372036854775807) (rest : List UInt8) : numS (cnt (zz n) ++ rest) 0 = (n, rest, 0) := by
  unfold numS grpS
  rw [grp_cnt0 (zz_lt h h')]
  simp [unz_zz]
theorem wordS_word4 {n : Nat} (h : n < 4294967296) (rest : List UInt8) : wordS (word4 n ++ rest) 0 = (n, rest, 0) := by
  unfold wordS takeS
  have h1 : ¬ (word4 n ++ rest).length < 4 := by simp [word4]
  simp only [ne_eq, not_true_eq_false, if_false, h1]
  simp only [word4, List.cons_append, List.nil_append, List.take_succ_cons, List.take_zero, List.drop_succ_cons, List.drop_zero, wordOf, List.foldl_cons, List.foldl_nil]
  rw [byt_toNat (by omega), byt_toNat (by omega), byt_toNat (by omega), byt_toNat (by omega)]
  simp only [Prod.mk.injEq, and_true]
  omega
theorem byteS_cons (c : UInt8) (rest : List UInt8) : byteS (c :: rest) 0 = (c.toNat, rest, 0) := by
  unfold byteS takeS
  simp
theorem textS_cnt (s rest : List UInt8) (h : s.length < 9223372036854775808) : textS (cnt s.length ++ s ++ rest) 0 s.length = (s, rest, 0) := by
  unfold textS
  rw [List.append_assoc, countS_cnt h (Int.le_refl _)]
  have h2 : ¬ s.length + rest.length < s.length := by omega
  unfold takeS
  simp [h2]
theorem c_PenBackL (l : List (Int × Int × List UInt8)) (hl : l.length ≤ 140737488355328) : ∀ (r : List (Int × Int × List UInt8)) (i : Nat) (b : List AV), l.drop i = r → (∀ a, a ∈ r → actOK a) → b.length + actSz r ≤ 140737488355328 →
    ltbl E0 5 0 3 [.lst .ro 3 (actL l), .int .i64 i] [[.lst (.own (.O 1011 0)) 1 b, .int .i64 0]] =
      some (if r.any isBad then (0, [.bool true], []) else (1, [.lst .ro 3 (actL l)], [[.lst (.own (.O 1011 0)) 1 (b ++ encB (wrs r)), .int .i64 0]])) := by
  intro r
  induction r with
  | nil =>
    intro i b hr ha hb
    have h : l.length ≤ i := by simpa using hr
    refine t_PenBackL _ _ _ _ ?_
    have : ¬ ((i : Int) < l.length) := by omega
    simp [s_PenBackL, this, wrs, encB_nil]
  | cons a r ih =>
    intro i b hr ha hb
    obtain ⟨hlt, hget, hr2⟩ := drop_cons hr
    obtain ⟨k, n, s⟩ := a
    have hok := ha _ (List.mem_cons_self ..)
    have hsz : actSz ((k, n, s) :: r) = 10 + s.length + actSz r := by simp [actSz]
    rw [hsz] at hb
    refine t_PenBackL _ _ _ _ ?_
    have h1 : (i : Int) < l.length := by omega
    have hgetA : (actL l)[i]? = some (actV k n s) := by simp [actL, hget]
    have hw := c_write b k n 0 s hok.1 hok.2 (by omega)
    have hlen := wr_len k n s hok.1 hok.2 (by omega)
    have hi1 : IntKind.i64.wrap ((i : Int) + 1) = ((i + 1 : Nat) : Int) := by rw [wrap_i64 _ (by omega) (by omega)]; omega
    have hih := ih (i + 1) (b ++ encB (wr k n s)) hr2 (fun a h => ha a (List.mem_cons_of_mem _ h)) (by simp; omega)
    have hws : b ++ encB (wrs ((k, n, s) :: r)) = b ++ encB (wr k n s) ++ encB (wrs r) := by simp [wrs, encB_append]
    rw [hws]
    by_cases hbad : k = 1 ∧ n < 0
    · obtain ⟨rfl, h2⟩ := hbad
      simp [s_PenBackL, h1, nthE, hgetA, h2, isBad, c_awake05]
    · have hb2 : isBad (k, n, s) = false := by
        unfold isBad
        by_cases k1 : k = 1
        · simp [k1]; simp [k1] at hbad; omega
        · simp [k1]
      simp only [hbad, if_false] at hw
      simp only [List.any_cons, hb2, Bool.false_or]
      rw [← hih]
      by_cases k1 : k = 1
      · subst k1
        have h2 : ¬ n < 0 := fun h => hbad ⟨rfl, h⟩
        simp [s_PenBackL, h1, nthE, hgetA, h2, hw, hi1]
      · simp [s_PenBackL, h1, nthE, hgetA, k1, hw, hi1]
set_option maxRecDepth 20000 in
theorem c_PenBackM (l : List (Int × Int × List UInt8)) (hl : l.length ≤ 140737488355328) : ∀ (r : List (Int × Int × List UInt8)) (i : Nat), l.drop i = r → (∀ a, a ∈ r → actOK a) → actSz r ≤ 140737488355328 → r.any isBad = false →
    ltbl E0 5 0 13 [.lst .ro 3 (actL l), .int .i64 i] [[.lst .ro 1 (encB (wrs r)), .int .i64 0]] = some (3, [], [[.lst .ro 1 [], .int .i64 0]]) := by
  intro r
  induction r with
  | nil =>
    intro i hr ha hb hbad
    have h : l.length ≤ i := by simpa using hr
    refine t_PenBackM _ _ _ _ ?_
    have : ¬ ((i : Int) < l.length) := by omega
    simp [s_PenBackM, this, wrs, encB_nil]
  | cons a r ih =>
    intro i hr ha hb hbad
    obtain ⟨hlt, hget, hr2⟩ := drop_cons hr
    obtain ⟨k, n, s⟩ := a
    have hok := ha _ (List.mem_cons_self ..)
    have hok1 : -9223372036854775808 ≤ n := hok.1
    have hok2 : n ≤ 9223372036854775807 := hok.2
    have hsz : actSz ((k, n, s) :: r) = 10 + s.length + actSz r := by simp [actSz]
    rw [hsz] at hb
    simp only [List.any_cons, Bool.or_eq_false_iff] at hbad
    refine t_PenBackM _ _ _ _ ?_
    have h1 : (i : Int) < l.length := by omega
    have hgetA : (actL l)[i]? = some (actV k n s) := by simp [actL, hget]
    have hlen := wrs_len ((k, n, s) :: r) ha (by rw [hsz]; exact hb)
    rw [hsz] at hlen
    have hi1 : IntKind.i64.wrap ((i : Int) + 1) = ((i + 1 : Nat) : Int) := by rw [wrap_i64 _ (by omega) (by omega)]; omega
    have hih := ih (i + 1) hr2 (fun a h => ha a (List.mem_cons_of_mem _ h)) (by omega) hbad.2
    have hws : wrs ((k, n, s) :: r) = wr k n s ++ wrs r := by simp [wrs]
    rw [← hih]
    have hB : (wrs ((k, n, s) :: r)).length ≤ 140737488355328 := by omega
    rw [hws] at hB ⊢
    have hl2 : ((actL l).length : Int) = l.length := by simp [actL]
    have hi0 : decide ((0 : Int) ≤ (i : Int)) = true := by simp
    simp only [s_PenBackM, OA_asm, hl2, h1, decide_true, cond_true, OA_chk, Int.natCast_nonneg, nthE, Int.toNat_natCast, hgetA, actV, u_asA, u_asC, u_asI, u_asS, u_asN]
    by_cases k0 : k = 0
    · have hc := c_EByte (wr k n s ++ wrs r) 0
      have hw : wr k n s = [byt (n % 256).toNat] := by simp [wr, k0]
      rw [hw] at hc ⊢
      rw [List.singleton_append, byteS_cons, byt_toNat (by omega), Int.toNat_of_nonneg (by omega)] at hc
      rw [List.singleton_append]
      simp [k0, hc, and255, wrap_u8_id (show 0 ≤ n % 256 by omega) (by omega), hi1]
    · by_cases k1 : k = 1
      · have hn : ¬ n < 0 := fun h => by have := hbad.1; simp [isBad, k1, h] at this
        have hc := c_ECount (wr k n s ++ wrs r) 0 n hB
        have hw : wr k n s = cnt n.toNat := by simp [wr, k1, hn]
        rw [hw] at hc ⊢
        rw [countS_cnt (by omega) (by omega), Int.toNat_of_nonneg (by omega)] at hc
        simp [k1, hc, hi1]
      · by_cases k2 : k = 2
        · have hc := c_ENum (wr k n s ++ wrs r) 0 hB
          have hw : wr k n s = cnt (zz n) := by simp [wr, k2]
          rw [hw] at hc ⊢
          rw [numS_cnt hok.1 hok.2] at hc
          simp [k2, hc, hi1]
        · by_cases k3 : k = 3
          · have hc := c_EWord (wr k n s ++ wrs r) 0
            have hw : wr k n s = word4 (n % 4294967296).toNat := by simp [wr, k3]
            rw [hw] at hc ⊢
            rw [wordS_word4 (by omega), Int.toNat_of_nonneg (by omega)] at hc
            simp [k3, hc, andm32, wrap_u32_id (show 0 ≤ n % 4294967296 by omega) (by omega), hi1]
          · have hc := c_EText (wr k n s ++ wrs r) 0 s.length hB
            have hw : wr k n s = cnt s.length ++ s := by simp [wr, k0, k1, k2, k3]
            rw [hw] at hc ⊢
            rw [textS_cnt s _ (by omega), List.append_assoc] at hc
            rw [List.append_assoc]
            simp [k0, k1, k2, k3, hc, hi1]
theorem c_PenBack (l : List (Int × Int × List UInt8)) (hok : ∀ a, a ∈ l → actOK a) (hl : l.length ≤ 140737488355328) (hs : actSz l ≤ 140737488355328) : tbl E0 5 [.lst .ro 3 (actL l)] [] = some ([.bool true], []) :=
  t_PenBack l (by
    have hL := c_PenBackL l hl l 0 [] rfl hok (by simpa using hs)
    simp only [Int.natCast_zero, List.nil_append] at hL
    have hlen := wrs_len l hok hs
    cases hb : l.any isBad with
    | true =>
      simp only [hb, if_true] at hL
      simp [s_PenBack, c_New, hL]
    | false =>
      simp only [hb, if_false, Bool.false_eq_true] at hL
      have hM := c_PenBackM l hl l 0 rfl hok hs hb
      simp only [Int.natCast_zero] at hM
      have hd := c_PDone (wrs l) 0 (Nat.le_trans hlen hs)
      simp only [penV, if_true] at hd
      have hE : tbl E0 37 [.ref 0 0] [(0, [.lst .ro 1 [], .int .i64 0])] = some ([.int .i64 0], [(0, [.lst .ro 1 [], .int .i64 0])]) := c_End [] 0
      have hLf : tbl E0 35 [.ref 0 0] [(0, [.lst .ro 1 [], .int .i64 0])] = some ([.int .i64 0], [(0, [.lst .ro 1 [], .int .i64 0])]) := c_Left [] 0
      simp [s_PenBack, c_New, hL, hd, c_Of (wrs l) (Nat.le_trans hlen hs), hM, hE, hLf, c_awake05])
end Go.Proofs.Ythehhlaomiifnaa.V
