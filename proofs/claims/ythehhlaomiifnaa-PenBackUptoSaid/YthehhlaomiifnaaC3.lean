/- Contracts of the eye, further, and of the reference's pen and eye. -/
import Derived.Test.YthehhlaomiifnaaC2
namespace Go.Proofs.Ythehhlaomiifnaa.V
open Go
theorem grpS_bound (b : List UInt8) (e : Int) : (grpS b e).1 < 18446744073709551616 := by
  have := (grp_bound b 0 0 (by omega) (by decide)).1
  unfold grpS
  split
  · simp
  · split
    · simp
    · exact this
theorem grpS_len (b : List UInt8) (e : Int) : (grpS b e).2.1.length ≤ b.length := by unfold grpS; split <;> (try split) <;> simp
theorem countS_len (b : List UInt8) (e m : Int) : (countS b e m).2.1.length ≤ b.length := by unfold countS; split <;> (try split) <;> (try split) <;> (try split) <;> simp
theorem takeS_len2 (b : List UInt8) (e : Int) (n : Nat) : (takeS b e n).2.1.length ≤ b.length := by unfold takeS; split <;> (try split) <;> simp
theorem countS_nonneg (b : List UInt8) (e m : Int) : 0 ≤ (countS b e m).1 := by unfold countS; split <;> (try split) <;> (try split) <;> (try split) <;> simp
theorem countS_le (b : List UInt8) (e m : Int) : (countS b e m).1 ≤ max m 0 := by unfold countS; split <;> (try split) <;> (try split) <;> (try split) <;> simp <;> omega
theorem c_ENum (b : List UInt8) (e : Int) (hb : b.length ≤ 140737488355328) : tbl E0 29 [.ref 0 0] (eyeV b e) = some ([.int .i64 (numS b e).1], eyeV (numS b e).2.1 (numS b e).2.2) :=
  t_ENum b e (by
    simp only [s_ENum, OA_call, c_egroups b e hb, Option.bind_some, u_asC, u_asL, u_asI, u_asN, r_b0', OA_chk, cond_true, xor_unz (grpS_bound b e)]
    rfl)
theorem n_ENum : tbl E0 29 [.nilp] [] = some ([.int .i64 0], []) := tbl_iff.2 ⟨20, by kernel_rfl⟩
theorem c_EWordL (l b : List UInt8) (e : Int) : ∀ (r : List UInt8) (i x : Nat), l.drop i = r → i ≤ l.length → l.length ≤ 4 → x < 256 ^ i →
    ltbl E0 31 0 3 [.int .u32 x, .lst .ro 1 (encB l), .int .i64 l.length, .int .i64 i] [[.lst .ro 1 (encB b), .int .i64 e]] = some (1, [.int .u32 (wordOf x r)], [[.lst .ro 1 (encB b), .int .i64 e]]) := by
  intro r
  induction r with
  | nil =>
    intro i x hr hi hl hx
    have h : l.length ≤ i := by simpa using hr
    refine t_EWordL _ _ _ _ _ _ ?_
    have : ¬ ((i : Int) < l.length) := by omega
    simp [s_EWordL, this, wordOf]
  | cons c r ih =>
    intro i x hr hi hl hx
    have hlt : i < l.length := by
      rcases Nat.lt_or_ge i l.length with h | h
      · exact h
      · rw [List.drop_eq_nil_of_le h] at hr; cases hr
    have hget : l[i]? = some c := by
      rw [List.drop_eq_getElem_cons hlt] at hr
      injection hr with h1 h2
      rw [List.getElem?_eq_getElem hlt, h1]
    have hr2 : l.drop (i + 1) = r := by
      rw [List.drop_eq_getElem_cons hlt] at hr
      injection hr
    have hc := c.toNat_lt
    have hp : (256 : Nat) ^ i ≤ 256 ^ 3 := Nat.pow_le_pow_right (by decide) (by omega)
    refine t_EWordL _ _ _ _ _ _ ?_
    have h1 : (i : Int) < l.length := by omega
    have hi1 : IntKind.i64.wrap ((i : Int) + 1) = ((i + 1 : Nat) : Int) := by rw [wrap_i64 _ (by omega) (by omega)]; omega
    have hx2 : IntKind.u32.wrap ((x : Int) * 2 ^ (8 : Nat)) = ((x * 2 ^ 8 : Nat) : Int) := by rw [wrap_u32_id (by omega) (by omega)]; simp
    have hc2 : IntKind.u32.wrap (c.toNat : Int) = ((c.toNat : Nat) : Int) := wrap_u32_id (by omega) (by omega)
    have ho : bits .or .u32 ((x * 2 ^ 8 : Nat) : Int) (c.toNat : Int) = ((256 * x + c.toNat : Nat) : Int) := by
      rw [bits_or32 _ _ (by omega) (by omega), Nat.or_comm, or_add _ _ _ hc]; congr 1; omega
    have h3 : 256 * x + c.toNat < 256 ^ (i + 1) := by rw [Nat.pow_succ]; omega
    simp only [s_EWordL, h1, decide_true, cond_true, OA_chk, nthE, Int.toNat_natCast, encB_get, hget, Option.map_some, u_asI, hi1, hx2, hc2, ho, Int.natCast_nonneg]
    exact ih (i + 1) _ hr2 (by omega) hl h3
theorem c_EWord (b : List UInt8) (e : Int) : tbl E0 31 [.ref 0 0] (eyeV b e) = some ([.int .u32 (wordS b e).1], eyeV (wordS b e).2.1 (wordS b e).2.2) :=
  t_EWord b e (by
    have ht := c_take b e 4
    have hl := c_EWordL (takeS b e 4).1 (takeS b e 4).2.1 (takeS b e 4).2.2 (takeS b e 4).1 0 0 rfl (Nat.zero_le _) (by rcases takeS_len b e 4 with h | h <;> simp [h]) (by decide)
    simp only [Int.natCast_zero] at hl
    rw [show ((4 : Nat) : Int) = 4 from rfl] at ht
    simp [s_EWord, ht, hl, wordS])
theorem n_EWord : tbl E0 31 [.nilp] [] = some ([.int .u32 0], []) := tbl_iff.2 ⟨20, by kernel_rfl⟩
theorem c_EText (b : List UInt8) (e m : Int) (hb : b.length ≤ 140737488355328) : tbl E0 33 [.ref 0 0, .int .i64 m] (eyeV b e) = some ([.str (textS b e m).1], eyeV (textS b e m).2.1 (textS b e m).2.2) :=
  t_EText b e m (by
    have hc := c_ECount b e m hb
    have h0 := countS_nonneg b e m
    have ht := c_take (countS b e m).2.1 (countS b e m).2.2 (countS b e m).1.toNat
    rw [Int.toNat_of_nonneg h0] at ht
    by_cases h5 : (takeS (countS b e m).2.1 (countS b e m).2.2 (countS b e m).1.toNat).2.2 = 5
    · simp [s_EText, c_left, hc, ht, textS, h5, orFail]
    · simp [s_EText, c_left, hc, ht, textS, h5, orFail])
theorem n_ECount (n : Int) : tbl E0 27 [.nilp, .int .i64 n] [] = some ([.int .i64 0], []) :=
  t_ECountn n (by
    have hm : ¬ (if n < 0 then 0 else n) < 0 := by split <;> omega
    simp [s_ECountn, n_left, n_egroups, hm])
theorem n_EText (n : Int) : tbl E0 33 [.nilp, .int .i64 n] [] = some ([.str []], []) := t_ETextn n (by simp [s_ETextn, n_left, n_ECount, n_take, orFail, bytesOf])
theorem c_Left (b : List UInt8) (e : Int) : tbl E0 35 [.ref 0 0] (eyeV b e) = some ([.int .i64 b.length], eyeV b e) := t_Left b e (by simp [s_Left, c_left])
theorem c_Bad (b : List UInt8) (e : Int) : tbl E0 36 [.ref 0 0] (eyeV b e) = some ([.int .i64 e], eyeV b e) := t_Bad b e rfl
theorem c_End (b : List UInt8) (e : Int) : tbl E0 37 [.ref 0 0] (eyeV b e) = some ([.int .i64 (endS b e)], eyeV b e) :=
  t_End b e (by
    unfold endS
    by_cases h : e = 0
    · subst h
      cases b with
      | nil => simp [s_End, c_Bad, c_Left]
      | cons c b => have : (0 : Int) < (b.length : Int) + 1 := by omega
                    simp [s_End, c_Bad, c_Left, this]
    · simp [s_End, c_Bad, h, bne_t h])
theorem n_Left : tbl E0 35 [.nilp] [] = some ([.int .i64 0], []) := tbl_iff.2 ⟨20, by kernel_rfl⟩
theorem n_Bad : tbl E0 36 [.nilp] [] = some ([.int .i64 1], []) := tbl_iff.2 ⟨20, by kernel_rfl⟩
theorem n_End : tbl E0 37 [.nilp] [] = some ([.int .i64 1], []) := tbl_iff.2 ⟨20, by kernel_rfl⟩
theorem n_Done : tbl E0 22 [.nilp] [] = some ([.lst .ro 1 [], .int .i64 1], []) := tbl_iff.2 ⟨20, by kernel_rfl⟩

/-! A pen that is none. -/
theorem n_pgroupsL (u : Nat) : u < 18446744073709551616 → ltbl E0 146 1 0 [.nilp, .int .u64 u] [] = some (1, [.nilp, .int .u64 (cntL u : Nat)], []) := by
  induction u using cnt.induct with
  | case1 u h =>
    intro hu
    refine t_groupsLn u ?_
    rw [cntL]
    have : ¬ (128 : Int) ≤ (u : Int) := by omega
    simp [s_groupsLn, h, this]
  | case2 u h ih =>
    intro hu
    refine t_groupsLn u ?_
    rw [cntL]
    have h1 : (128 : Int) ≤ (u : Int) := by omega
    simp only [s_groupsLn, or128', fdiv7]
    simp only [ge_iff_le, h1, decide_true, cond_true, OA_callx, n_put, Option.bind_some, u_asN, OA_chk, ih (by omega), h, if_false]
theorem n_pgroups (u : Nat) (hu : u < 18446744073709551616) : tbl E0 146 [.nilp, .int .u64 u] [] = some ([], []) := t_groupsn u (by simp [s_groupsn, n_pgroupsL u hu, n_put])
theorem n_PCount (n : Int) (hn : n ≤ 9223372036854775807) : tbl E0 85 [.nilp, .int .i64 n] [] = some ([], []) :=
  t_PCountn n (by
    by_cases h : n < 0
    · simp [s_PCountn, h]
    · have h1 := n_pgroups n.toNat (by omega)
      rw [Int.toNat_of_nonneg (by omega)] at h1
      simp [s_PCountn, h, wrap_u64_id (show 0 ≤ n by omega) (by omega), h1])
theorem n_PNum (n : Int) (h : -9223372036854775808 ≤ n) (h' : n ≤ 9223372036854775807) : tbl E0 86 [.nilp, .int .i64 n] [] = some ([], []) :=
  t_PNumn n (by simp [s_PNumn, xor_zz h h', n_pgroups (zz n) (zz_lt h h'), -Int.reducePow])
theorem n_PWord (n : Int) : tbl E0 87 [.nilp, .int .u32 n] [] = some ([], []) := t_PWordn n (by simp [s_PWordn, n_put])
theorem n_PText (s : List UInt8) (hs : s.length ≤ 140737488355328) : tbl E0 88 [.nilp, .str s] [] = some ([], []) := t_PTextn s (by simp [s_PTextn, n_PCount (s.length : Int) (by omega), n_put])
theorem n_write (k n : Int) (s : List UInt8) (h : -9223372036854775808 ≤ n) (h' : n ≤ 9223372036854775807) (hs : s.length ≤ 140737488355328) : tbl E0 20 [.nilp, actV k n s] [] = some ([], []) :=
  t_writen k n s (by
    by_cases h0 : k = 0
    · simp [s_writen, h0, n_PByte]
    · by_cases h1 : k = 1
      · simp [s_writen, h1, n_PCount n h']
      · by_cases h2 : k = 2
        · simp [s_writen, h2, n_PNum n h h']
        · by_cases h3 : k = 3
          · simp [s_writen, h3, n_PWord]
          · simp [s_writen, h0, h1, h2, h3, n_PText s hs])
theorem c_awake05 : tbl E0 23 [] [] = some ([.bool true], []) := tbl_iff.2 ⟨30, by kernel_rfl⟩
theorem c_PenNone (k n : Int) (s : List UInt8) (h : -9223372036854775808 ≤ n) (h' : n ≤ 9223372036854775807) (hs : s.length ≤ 140737488355328) : tbl E0 6 [actV k n s] [] = some ([.bool true], []) :=
  t_PenNone k n s (by simp [s_PenNone, n_write k n s h h' hs, n_Done, n_EByte, n_ECount, n_ENum, n_EWord, n_EText, n_Left, n_Bad, n_End, c_awake05])
end Go.Proofs.Ythehhlaomiifnaa.V
