/- Contracts of the pen and the eye. -/
import Derived.Test.YthehhlaomiifnaaC1
namespace Go.Proofs.Ythehhlaomiifnaa.V
open Go
theorem c_PCount (b : List AV) (n e : Int) (hb : b.length + 10 ≤ 140737488355328) (hn : n ≤ 9223372036854775807) : tbl E0 85 [.ref 0 0, .int .i64 n] (penA b e) = some ([], if n < 0 then penA b 2 else penA (b ++ encB (cnt n.toNat)) e) :=
  t_PCount b n e (by
    by_cases h : n < 0
    · simp [s_PCount, h]
    · have h1 := c_pgroups b n.toNat e (by omega) hb
      rw [Int.toNat_of_nonneg (by omega)] at h1
      simp [s_PCount, h, wrap_u64_id (show 0 ≤ n by omega) (by omega), h1])
theorem c_PNum (b : List AV) (n e : Int) (hb : b.length + 10 ≤ 140737488355328) (h : -9223372036854775808 ≤ n) (h' : n ≤ 9223372036854775807) : tbl E0 86 [.ref 0 0, .int .i64 n] (penA b e) = some ([], penA (b ++ encB (cnt (zz n))) e) :=
  t_PNum b n e (by simp [s_PNum, xor_zz h h', c_pgroups b (zz n) e (zz_lt h h') hb, -Int.reducePow])
/-- A word's bytes. -/
def word4 (n : Nat) : List UInt8 := [byt (n / 16777216), byt (n / 65536 % 256), byt (n / 256 % 256), byt (n % 256)]
theorem c_PWord (b : List AV) (n : Nat) (e : Int) (hb : b.length + 4 ≤ 140737488355328) (hn : n < 4294967296) : tbl E0 87 [.ref 0 0, .int .u32 (n : Int)] (penA b e) = some ([], penA (b ++ encB (word4 n)) e) :=
  t_PWord b n e (by
    have e1 : IntKind.u8.wrap ((n : Int).fdiv ((2 : Int) ^ (24 : Nat))) = ((byt (n / 16777216)).toNat : Int) := by rw [Int.fdiv_eq_ediv_of_nonneg _ (by decide), wrap_u8, byt_toNat (by omega)]; omega
    have e2 : IntKind.u8.wrap ((n : Int).fdiv ((2 : Int) ^ (16 : Nat))) = ((byt (n / 65536 % 256)).toNat : Int) := by rw [Int.fdiv_eq_ediv_of_nonneg _ (by decide), wrap_u8, byt_toNat (by omega)]; omega
    have e3 : IntKind.u8.wrap ((n : Int).fdiv ((2 : Int) ^ (8 : Nat))) = ((byt (n / 256 % 256)).toNat : Int) := by rw [Int.fdiv_eq_ediv_of_nonneg _ (by decide), wrap_u8, byt_toNat (by omega)]; omega
    have e4 : IntKind.u8.wrap (n : Int) = ((byt (n % 256)).toNat : Int) := by rw [wrap_u8, byt_toNat (by omega)]; omega
    unfold s_PWord
    rw [e1, e2, e3, e4]
    have hp := c_put b (encB (word4 n)) e (by simpa [word4] using hb)
    rw [show encB (word4 n) = [.int .u8 ((byt (n / 16777216)).toNat : Int), .int .u8 ((byt (n / 65536 % 256)).toNat : Int), .int .u8 ((byt (n / 256 % 256)).toNat : Int), .int .u8 ((byt (n % 256)).toNat : Int)] from rfl] at hp
    simp only [OA_chk, cond_true, OA_call, hp, Option.bind_some, u_asC, u_asOwn, u_asI, u_asN, Nat.beq_eq_true_eq]
    rfl)
theorem c_PText (b : List AV) (s : List UInt8) (e : Int) (hb : b.length + 10 + s.length ≤ 140737488355328) : tbl E0 88 [.ref 0 0, .str s] (penA b e) = some ([], penA (b ++ encB (cnt s.length ++ s)) e) :=
  t_PText b s e (by
    have h1 := c_PCount b s.length e (by omega) (by omega)
    have h0 : ¬ ((s.length : Int) < 0) := by omega
    have hc := cnt_len10 (u := s.length) (by omega)
    simp only [h0, if_false, Int.toNat_natCast] at h1
    have h2 := c_put (b ++ encB (cnt s.length)) (encB s) e (by simp; omega)
    simp [s_PText, h1, h2, encB_append])
theorem c_CloneB (b : List UInt8) (hb : b.length ≤ 140737488355328) : tbl E0 93 [.lst .ro 1 (encB b)] [] = some ([.lst .ro 1 (encB b)], []) :=
  t_CloneB b (by
    unfold s_CloneB
    cases b with
    | nil => exact OA_amb_same fun b => by cases b <;> rfl
    | cons c l => simp only [encB_cons, u_nil_cons, cond_false, List.length_cons, encB_length, OA_chk]; simp at hb; simp [hb])
theorem c_CloneBnil : tbl E0 93 [.lst .nil 1 []] [] = some ([.lst .ro 1 []], []) := t_CloneBnil rfl
theorem c_PDone (b : List UInt8) (e : Int) (hb : b.length ≤ 140737488355328) : tbl E0 22 [.ref 0 0] (penV b e) = some ([.lst .ro 1 (if e = 0 then encB b else []), .int .i64 e], penV b e) :=
  t_PDone (encB b) e (by
    by_cases h : e = 0
    · subst h; simp [s_PDone, c_CloneB b hb]
    · simp [s_PDone, h, bne_t h])
theorem c_New : tbl E0 19 [] [] = some ([.ref 64 0], [(64, [.lst (.own (.E 64 0)) 1 [], .int .i64 0])]) := t_New rfl
theorem c_Of (b : List UInt8) (hb : b.length ≤ 140737488355328) : tbl E0 24 [.lst .ro 1 (encB b)] [] = some ([.ref 64 0], [(64, [.lst .ro 1 (encB b), .int .i64 0])]) :=
  t_Of b (by simp [s_Of, c_CloneB b hb])

/-! The eye. -/
def grp : Nat → Nat → List UInt8 → Nat × Nat × Int
  | _, _, [] => (0, 0, 5)
  | i, u, c :: l => if (i = 9 ∧ 1 < c.toNat) ∨ (0 < i ∧ c.toNat = 0) then (0, 0, 4) else if c.toNat < 128 then (u + c.toNat * 128 ^ i, i + 1, 0) else grp (i + 1) (u + c.toNat % 128 * 128 ^ i) l
def grpS (b : List UInt8) (e : Int) : Nat × List UInt8 × Int := if e ≠ 0 then (0, b, e) else if (grp 0 0 b).2.2 ≠ 0 then (0, b, (grp 0 0 b).2.2) else ((grp 0 0 b).1, b.drop (grp 0 0 b).2.1, 0)
def countS (b : List UInt8) (e : Int) (m : Int) : Int × List UInt8 × Int :=
  if e ≠ 0 then (0, b, e) else if (grp 0 0 b).2.2 ≠ 0 then (0, b, (grp 0 0 b).2.2) else if 9223372036854775808 ≤ (grp 0 0 b).1 then (0, b, 4) else if max m 0 < ((grp 0 0 b).1 : Int) then (0, b, 7) else ((grp 0 0 b).1, b.drop (grp 0 0 b).2.1, 0)
def numS (b : List UInt8) (e : Int) : Int × List UInt8 × Int := (unz (grpS b e).1, (grpS b e).2)
def takeS (b : List UInt8) (e : Int) (n : Nat) : List UInt8 × List UInt8 × Int := if e ≠ 0 then ([], b, e) else if b.length < n then ([], b, 5) else (b.take n, b.drop n, 0)
def byteS (b : List UInt8) (e : Int) : Nat × List UInt8 × Int := (((takeS b e 1).1[0]?).elim 0 UInt8.toNat, (takeS b e 1).2)
def wordOf (x : Nat) (l : List UInt8) : Nat := l.foldl (fun x c => 256 * x + c.toNat) x
def wordS (b : List UInt8) (e : Int) : Nat × List UInt8 × Int := (wordOf 0 (takeS b e 4).1, (takeS b e 4).2)
def textS (b : List UInt8) (e : Int) (m : Int) : List UInt8 × List UInt8 × Int :=
  let c := countS b e m
  let t := takeS c.2.1 c.2.2 c.1.toNat
  (t.1, if t.2.2 = 5 then b else t.2.1, t.2.2)
def endS (b : List UInt8) (e : Int) : Int := if e ≠ 0 then e else if b = [] then 0 else 6

theorem grp_bound : ∀ (l : List UInt8) (i u : Nat), i ≤ 9 → u < 128 ^ i → (grp i u l).1 < 18446744073709551616 ∧ ((grp i u l).2.2 = 0 → (grp i u l).2.1 ≤ i + l.length) ∧ ((grp i u l).2.2 = 0 ∨ (grp i u l).2.2 = 4 ∨ (grp i u l).2.2 = 5)
  | [], i, u, hi, hu => by simp [grp]
  | c :: l, i, u, hi, hu => by
    have hc := c.toNat_lt
    rw [grp]
    split
    · simp
    · rename_i h1
      split
      · rename_i h2
        refine ⟨?_, fun _ => by simp, .inl rfl⟩
        show u + c.toNat * 128 ^ i < _
        have h9 : i = 9 → c.toNat ≤ 1 := fun h => by omega
        have hp : i ≤ 8 → (128 : Nat) ^ i ≤ 128 ^ 8 := fun h => Nat.pow_le_pow_right (by decide) h
        by_cases hi9 : i = 9
        · subst hi9
          have := h9 rfl
          have : c.toNat * 128 ^ 9 ≤ 1 * 128 ^ 9 := Nat.mul_le_mul_right _ this
          omega
        · have h8 := hp (by omega)
          have : c.toNat * 128 ^ i ≤ 127 * 128 ^ 8 := Nat.mul_le_mul (by omega) h8
          omega
      · rename_i h2
        have hi9 : i ≠ 9 := fun h => by omega
        have h3 : u + c.toNat % 128 * 128 ^ i < 128 ^ (i + 1) := by
          have : c.toNat % 128 * 128 ^ i ≤ 127 * 128 ^ i := Nat.mul_le_mul_right _ (by omega)
          rw [Nat.pow_succ]; omega
        obtain ⟨a1, a2, a3⟩ := grp_bound l (i + 1) _ (by omega) h3
        exact ⟨a1, fun h => by have := a2 h; simp; omega, a3⟩
theorem c_egroupsL (l : List UInt8) : ∀ (r : List UInt8) (i u : Nat), l.drop i = r → i ≤ 9 → u < 128 ^ i → l.length ≤ 140737488355328 →
    ltbl E0 97 0 5 [.int .u64 u, .lst .ro 1 (encB l), .int .i64 l.length, .int .i64 i] [[.lst .ro 1 (encB l), .int .i64 0]] =
      some (if (grp i u r).2.2 = 5 then (1, [], [[.lst .ro 1 (encB l), .int .i64 0]]) else if (grp i u r).2.2 = 4 then (0, [.int .u64 0], [[.lst .ro 1 (encB l), .int .i64 4]]) else (0, [.int .u64 (grp i u r).1], [[.lst .ro 1 (encB (l.drop (grp i u r).2.1)), .int .i64 0]])) := by
  intro r
  induction r with
  | nil =>
    intro i u hr hi hu hl
    have h : l.length ≤ i := by simpa using hr
    refine t_egroupsL l l u l.length i 0 ?_
    have : ¬ ((i : Int) < l.length) := by omega
    simp [s_egroupsL, this, grp]
  | cons c r ih =>
    intro i u hr hi hu hl
    have hlt : i < l.length := by
      rcases Nat.lt_or_ge i l.length with h | h
      · exact h
      · rw [List.drop_eq_nil_of_le h] at hr; cases hr
    have hget : l[i]? = some c := by
      rw [List.drop_eq_getElem_cons hlt] at hr
      injection hr with h1 h2
      rw [List.getElem?_eq_getElem hlt, h1]
    have hr2 : l.drop (i + 1) = r := by
      rw [List.drop_eq_getElem_cons hlt] at hr
      injection hr
    have hc := c.toNat_lt
    refine t_egroupsL l l u l.length i 0 ?_
    have h1 : (i : Int) < l.length := by omega
    have h7 : IntKind.u64.wrap (IntKind.i64.wrap ((7 : Int) * (i : Int))) = ((7 * i : Nat) : Int) := by
      rw [wrap_i64 _ (by omega) (by omega), wrap_u64_id (by omega) (by omega)]; omega
    have hi1 : IntKind.i64.wrap ((i : Int) + 1) = ((i + 1 : Nat) : Int) := by rw [wrap_i64 _ (by omega) (by omega)]; omega
    have hmin : min (7 * i) 64 = 7 * i := by omega
    have hp9 : (128 : Nat) ^ i ≤ 128 ^ 9 := Nat.pow_le_pow_right (by decide) hi
    have h27 : (2 : Nat) ^ (7 * i) = 128 ^ i := by rw [Nat.pow_mul]
    have hu64 : u < 18446744073709551616 := by omega
    have hnew : ∀ d : Nat, d < 128 → (i = 9 → d ≤ 1) → bits .or .u64 (u : Int) (IntKind.u64.wrap (IntKind.u64.wrap (d : Int) * (2 : Int) ^ (7 * i))) = ((u + d * 128 ^ i : Nat) : Int) := by
      intro d hd h9
      have hb : d * 128 ^ i < 18446744073709551616 := by
        by_cases hi9 : i = 9
        · subst hi9
          have : d * 128 ^ 9 ≤ 1 * 128 ^ 9 := Nat.mul_le_mul_right _ (h9 rfl)
          omega
        · have h8 : (128 : Nat) ^ i ≤ 128 ^ 8 := Nat.pow_le_pow_right (by decide) (by omega)
          have : d * 128 ^ i ≤ 127 * 128 ^ 8 := Nat.mul_le_mul (by omega) h8
          omega
      have e1 : (IntKind.u64.wrap (d : Int)) * (2 : Int) ^ (7 * i) = ((d * 128 ^ i : Nat) : Int) := by
        rw [wrap_u64_id (by omega) (by omega), ← h27]; simp
      rw [e1, wrap_u64_id (by omega) (by omega), bits_or64 u _ hu64 hb, ← h27, or_add u d (7 * i) (by rw [h27]; exact hu), h27]
    have h10 : decide ((i : Int) > 0) = decide (0 < i) := by rw [Bool.eq_iff_iff, decide_eq_true_eq, decide_eq_true_eq]; omega
    have h9 : ((i : Int) == 9) = decide (i = 9) := by rw [Bool.eq_iff_iff]; simp; omega
    have hc0 : ((c.toNat : Int) == 0) = decide (c.toNat = 0) := by rw [Bool.eq_iff_iff, beq_iff_eq, decide_eq_true_eq]; omega
    have hc1 : decide ((c.toNat : Int) > 1) = decide (1 < c.toNat) := by rw [Bool.eq_iff_iff, decide_eq_true_eq, decide_eq_true_eq]; omega
    have hjoin : ∀ (f : (Bool → Option LR) → Option LR), f = (fun x2 => bif ((i : Int) == 9) then (bif decide ((c.toNat : Int) > 1) then x2 true else (bif decide ((i : Int) > 0) then x2 ((c.toNat : Int) == 0) else x2 false)) else (bif decide ((i : Int) > 0) then x2 ((c.toNat : Int) == 0) else x2 false)) →
        f (fun b => some (Tok.tok b)) = some (Tok.tok (decide ((i = 9 ∧ 1 < c.toNat) ∨ (0 < i ∧ c.toNat = 0)))) := by
      intro f hf
      subst hf
      simp only [h9, h10, hc0, hc1]
      by_cases a1 : i = 9 <;> by_cases a2 : 1 < c.toNat <;> by_cases a3 : 0 < i <;> by_cases a4 : c.toNat = 0 <;> simp [a1, a2, a3, a4] <;> omega
    simp only [s_egroupsL, h1, decide_true, cond_true, OA_chk, nthE, Int.toNat_natCast, encB_get, hget, Option.map_some, u_asI, OA_join, h7, hmin, hi1, andn128 _ hc]
    rw [hjoin _ rfl]
    simp only [Option.bind_some, Tok.untok_tok]
    by_cases hbad : (i = 9 ∧ 1 < c.toNat) ∨ (0 < i ∧ c.toNat = 0)
    · have hg : grp i u (c :: r) = (0, 0, 4) := by rw [grp, if_pos hbad]
      simp [hbad, hg]
    · simp only [hbad, decide_false, cond_false, Int.natCast_nonneg, decide_true, cond_true]
      have hd := hnew (c.toNat % 128) (by omega) (fun h => by omega)
      rw [hd]
      by_cases hs : c.toNat < 128
      · have hg : grp i u (c :: r) = (u + c.toNat * 128 ^ i, i + 1, 0) := by rw [grp, if_neg hbad, if_pos hs]
        have hs2 : (c.toNat : Int) < 128 := by omega
        have hm : c.toNat % 128 = c.toNat := by omega
        have hle : (i : Int) + 1 ≤ l.length := by omega
        rw [hg, hm]
        simp [hs2, encB_take, encB_drop, List.take_of_length_le, hle]
      · have hg : grp i u (c :: r) = grp (i + 1) (u + c.toNat % 128 * 128 ^ i) r := by rw [grp, if_neg hbad, if_neg hs]
        have hs2 : ¬ (c.toNat : Int) < 128 := by omega
        have hi9 : i ≠ 9 := fun h => by omega
        have h3 : u + c.toNat % 128 * 128 ^ i < 128 ^ (i + 1) := by
          have : c.toNat % 128 * 128 ^ i ≤ 127 * 128 ^ i := Nat.mul_le_mul_right _ (by omega)
          rw [Nat.pow_succ]; omega
        rw [hg]
        simp only [hs2, decide_false, cond_false]
        exact ih (i + 1) _ hr2 (by omega) h3 hl
theorem c_egroups (b : List UInt8) (e : Int) (hb : b.length ≤ 140737488355328) : tbl E0 97 [.ref 0 0] (eyeV b e) = some ([.int .u64 (grpS b e).1], eyeV (grpS b e).2.1 (grpS b e).2.2) :=
  t_egroups b e (by
    by_cases h : e = 0
    · subst h
      have hL := c_egroupsL b b 0 0 rfl (by omega) (by decide) hb
      have hg := (grp_bound b 0 0 (by omega) (by decide)).2.2
      simp only [Int.natCast_zero] at hL
      unfold grpS
      rcases hg with hg | hg | hg <;> simp [s_egroups, hL, hg]
    · simp [s_egroups, grpS, h, bne_t h])
theorem n_egroups : tbl E0 97 [.nilp] [] = some ([.int .u64 0], []) := t_egroupsn (by simp [s_egroupsn])
theorem c_take (b : List UInt8) (e : Int) (n : Nat) : tbl E0 94 [.ref 0 0, .int .i64 n] (eyeV b e) = some ([.lst .ro 1 (encB (takeS b e n).1)], eyeV (takeS b e n).2.1 (takeS b e n).2.2) :=
  t_take b e n (by
    unfold takeS
    by_cases h : e = 0
    · subst h
      by_cases h2 : b.length < n
      · have h3 : (b.length : Int) < n := by omega
        simp [s_take, h2, h3, encB_nil]
      · have h3 : ¬ (b.length : Int) < n := by omega
        have h4 : (n : Int) ≤ b.length := by omega
        simp [s_take, h2, h3, h4, encB_take, encB_drop, List.take_of_length_le]
    · simp [s_take, h, bne_t h, encB_nil])
theorem n_take (n : Int) : tbl E0 94 [.nilp, .int .i64 n] [] = some ([.lst .ro 1 []], []) := t_taken n (by simp [s_taken])
theorem takeS_len (b : List UInt8) (e : Int) (n : Nat) : (takeS b e n).1.length = n ∨ (takeS b e n).1 = [] := by
  unfold takeS
  by_cases h : e = 0 <;> by_cases h2 : b.length < n <;> simp [h, h2]
  omega
theorem c_EByte (b : List UInt8) (e : Int) : tbl E0 25 [.ref 0 0] (eyeV b e) = some ([.int .u8 (byteS b e).1], eyeV (byteS b e).2.1 (byteS b e).2.2) :=
  t_EByte b e (by
    have ht := c_take b e 1
    have hl : ltbl E0 25 0 2 [.lst .ro 1 (encB (takeS b e 1).1), .int .i64 (takeS b e 1).1.length, .int .i64 0] [[.lst .ro 1 (encB (takeS b e 1).2.1), .int .i64 (takeS b e 1).2.2]] =
        some (match (takeS b e 1).1 with | [] => (1, [], [[.lst .ro 1 (encB (takeS b e 1).2.1), .int .i64 (takeS b e 1).2.2]]) | c :: _ => (0, [.int .u8 c.toNat], [[.lst .ro 1 (encB (takeS b e 1).2.1), .int .i64 (takeS b e 1).2.2]])) := by
      refine t_EByteL _ _ _ _ _ ?_
      generalize (takeS b e 1).1 = l
      cases l with
      | nil => simp [s_EByteL]
      | cons c l => have : (0 : Int) < l.length + 1 := by omega
                    simp [s_EByteL, nthE, encB_cons, this]
    simp only [Int.natCast_one] at ht
    unfold byteS
    simp only [s_EByte, OA_call, ht, Option.bind_some, u_asC, u_asL, u_asI, u_asN, Nat.beq_eq_true_eq, OA_asm, OA_loop, encB_length, hl]
    generalize (takeS b e 1).1 = l
    cases l <;> simp)
theorem n_EByte : tbl E0 25 [.nilp] [] = some ([.int .u8 0], []) :=
  t_EByten (by
    have hl : ltbl E0 25 1 2 [.lst .ro 1 [], .int .i64 0, .int .i64 0] [] = some (1, [], []) := t_EByteLn [] 0 0 (by simp [s_EByteLn])
    simp [s_EByten, n_take, hl])
theorem c_left (b : List UInt8) (e : Int) : tbl E0 96 [.ref 0 0] (eyeV b e) = some ([.lst .ro 1 (encB b)], eyeV b e) := t_left b e rfl
theorem n_left : tbl E0 96 [.nilp] [] = some ([.lst .ro 1 []], []) := t_leftn rfl
theorem c_back (b c : List UInt8) (e f : Int) : tbl E0 98 [.ref 0 0, .lst .ro 1 (encB c), .int .i64 f] (eyeV b e) = some ([], eyeV c f) := t_back b c e f rfl
theorem n_back (c : List UInt8) (f : Int) : tbl E0 98 [.nilp, .lst .ro 1 (encB c), .int .i64 f] [] = some ([], []) := t_backn c f rfl
theorem fdiv63' (u : Nat) : (u : Int).fdiv ((2 : Int) ^ (63 : Nat)) = ((u / 9223372036854775808 : Nat) : Int) := by
  rw [Int.fdiv_eq_ediv_of_nonneg _ (by decide), show (2 : Int) ^ 63 = 9223372036854775808 by decide]; omega
theorem max_eq (n : Int) : (if n < 0 then (0 : Int) else n) = max n 0 := by split <;> omega
theorem c_ECount (b : List UInt8) (e m : Int) (hb : b.length ≤ 140737488355328) : tbl E0 27 [.ref 0 0, .int .i64 m] (eyeV b e) = some ([.int .i64 (countS b e m).1], eyeV (countS b e m).2.1 (countS b e m).2.2) :=
  t_ECount b e m (by
    have hg := c_egroups b e hb
    have hbd := (grp_bound b 0 0 (by omega) (by decide)).1
    simp only [s_ECount, OA_call, c_left, Option.bind_some, u_asC, u_asL, u_asI, u_asN, Nat.beq_eq_true_eq, hg, OA_chk, cond_true, c_back, fdiv63', max_eq, r_b0']
    unfold countS grpS
    by_cases h : e = 0
    · subst h
      by_cases hf : (grp 0 0 b).2.2 = 0
      · simp only [ne_eq, not_true_eq_false, if_false, hf]
        by_cases h63 : 9223372036854775808 ≤ (grp 0 0 b).1
        · have : ((grp 0 0 b).1 / 9223372036854775808 : Nat) = 1 := by omega
          simp [h63, this]
        · have h0 : ((grp 0 0 b).1 / 9223372036854775808 : Nat) = 0 := by omega
          simp only [h0, wrap_i64 ((grp 0 0 b).1 : Int) (by omega) (by omega)]
          by_cases hm : max m 0 < ((grp 0 0 b).1 : Int)
          · simp [h63, hm]
          · simp [h63, hm]
      · have hm : ¬ max m 0 < 0 := by omega
        simp [hf, hm]
    · have hm : ¬ max m 0 < 0 := by omega
      simp [h, hm])
end Go.Proofs.Ythehhlaomiifnaa.V
