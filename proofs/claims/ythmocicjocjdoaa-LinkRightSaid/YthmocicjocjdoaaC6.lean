/- Contracts of the pen. -/
import Derived.Test.YthmocicjocjdoaaP1
import Derived.Test.YthmocicjocjdoaaBg
import Derived.Test.YthmocicjocjdoaaP2
set_option linter.unusedVariables false
set_option linter.unusedSimpArgs false
namespace Go.Proofs.Ythmocicjocjdoaa.V
open Go
/-- Digits of seven bits. -/
def cnt (u : Nat) : List UInt8 := if u < 128 then [byt u] else byt (u % 128 + 128) :: cnt (u / 128)
termination_by u
decreasing_by omega
def cntI (u : Nat) : List UInt8 := if u < 128 then [] else byt (u % 128 + 128) :: cntI (u / 128)
termination_by u
decreasing_by omega
def cntL (u : Nat) : Nat := if u < 128 then u else cntL (u / 128)
termination_by u
decreasing_by omega
theorem cnt_eq (u : Nat) : cnt u = cntI u ++ [byt (cntL u)] := by
  induction u using cnt.induct with
  | case1 u h => rw [cnt, cntI, cntL]; simp [h]
  | case2 u h ih => rw [cnt, cntI, cntL]; simp [h, ih]
theorem cntL_lt (u : Nat) : cntL u < 128 := by
  induction u using cntL.induct with
  | case1 u h => rw [cntL]; simp [h]
  | case2 u h ih => rw [cntL]; simp [h, ih]
theorem cnt_len (k u : Nat) (h : u < 128 ^ (k + 1)) : (cnt u).length ≤ k + 1 := by
  induction k generalizing u with
  | zero => rw [cnt]; simp at h; simp [h]
  | succ k ih =>
    rw [cnt]
    split
    · simp
    · have : u / 128 < 128 ^ (k + 1) := by rw [Nat.div_lt_iff_lt_mul (by omega)]; rw [Nat.pow_succ] at h; exact h
      have := ih _ this
      simp; omega
theorem cnt_len10 {u : Nat} (h : u < 18446744073709551616) : (cnt u).length ≤ 10 := cnt_len 9 u (Nat.lt_of_lt_of_le h (by decide))
theorem cntI_len {u : Nat} (h : u < 18446744073709551616) : (cntI u).length + 1 ≤ 10 := by
  have := cnt_len10 h
  rw [cnt_eq] at this
  simpa using this
theorem c_put (b m : List AV) (e : Int) (h : b.length + m.length ≤ 140737488355328) : tbl E0 91 [.ref 0 0, .lst .ro 1 m] (penA b e) = some ([], penA (b ++ m) e) :=
  t_put b m e (by simp [s_put, h, penA])
theorem n_put (m : List AV) : tbl E0 91 [.nilp, .lst .ro 1 m] [] = some ([], []) := t_putn m (by simp [s_putn])
theorem fdiv7 (u : Nat) : (u : Int).fdiv ((2 : Int) ^ (7 : Nat)) = ((u / 128 : Nat) : Int) := by
  rw [Int.fdiv_eq_ediv_of_nonneg _ (by decide)]; omega
theorem or128' (u : Nat) : bits .or .u8 (IntKind.u8.wrap (u : Int)) 128 = ((u % 128 + 128 : Nat) : Int) := by
  rw [wrap_u8, show (u : Int) % 256 = ((u % 256 : Nat) : Int) by omega, or128 _ (by omega)]
  have : u % 256 % 128 = u % 128 := by omega
  rw [this]
theorem c_pgroupsL (u : Nat) : ∀ (b : List AV) (e : Int), u < 18446744073709551616 → b.length + (cntI u).length ≤ 140737488355328 → ltbl E0 90 0 0 [.int .u64 u] [[.lst (.own (.O 0 0)) 1 b, .int .i64 e]] = some (1, [.int .u64 (cntL u : Nat)], [[.lst (.own (.O 0 0)) 1 (b ++ encB (cntI u)), .int .i64 e]]) := by
  induction u using cnt.induct with
  | case1 u h =>
    intro b e hu hb
    refine t_groupsL b u e ?_
    rw [cntL, cntI]
    have : ¬ (128 : Int) ≤ (u : Int) := by omega
    simp [s_groupsL, h, this, encB_nil]
  | case2 u h ih =>
    intro b e hu hb
    refine t_groupsL b u e ?_
    rw [cntI] at hb
    simp only [h, if_false, List.length_cons] at hb
    rw [cntL, cntI]
    have h1 : (128 : Int) ≤ (u : Int) := by omega
    have hp := c_put b [.int .u8 ((u % 128 + 128 : Nat) : Int)] e (by simp; omega)
    simp only [penA] at hp
    have h2 := ih (b ++ [.int .u8 ((u % 128 + 128 : Nat) : Int)]) e (by omega) (by simp; omega)
    simp only [s_groupsL, or128', fdiv7]
    simp only [ge_iff_le, h1, decide_true, cond_true, OA_call, hp, Option.bind_some, u_asC, u_asOwn, u_asI, u_asN, OA_chk, Nat.beq_eq_true_eq, h2, h, if_false]
    simp only [encB_cons, byt_toNat (show u % 128 + 128 < 256 by omega), List.append_assoc, List.singleton_append]
    rfl
theorem c_pgroups (b : List AV) (u : Nat) (e : Int) (hu : u < 18446744073709551616) (hb : b.length + 10 ≤ 140737488355328) : tbl E0 90 [.ref 0 0, .int .u64 u] (penA b e) = some ([], penA (b ++ encB (cnt u)) e) :=
  t_groups b u e (by
    have hl := cntI_len hu
    have h1 := c_pgroupsL u b e hu (by omega)
    have h2 := c_put (b ++ encB (cntI u)) [.int .u8 (cntL u : Nat)] e (by simp; omega)
    have h3 := cntL_lt u
    simp only [penA] at h2
    simp [s_groups, h1, wrap_u8_id (show (0 : Int) ≤ (cntL u : Nat) by omega) (by omega), h2, penA, cnt_eq, encB_append, encB_cons, encB_nil, byt_toNat (show cntL u < 256 by omega)])
end Go.Proofs.Ythmocicjocjdoaa.V
namespace Go.Proofs.Ythmocicjocjdoaa.V
open Go
theorem c_PCount (b : List AV) (n e : Int) (hb : b.length + 10 ≤ 140737488355328) (hn : n ≤ 9223372036854775807) : tbl E0 52 [.ref 0 0, .int .i64 n] (penA b e) = some ([], if n < 0 then penA b 2 else penA (b ++ encB (cnt n.toNat)) e) :=
  t_PCount b n e (by
    by_cases h : n < 0
    · simp [s_PCount, h]
    · have h1 := c_pgroups b n.toNat e (by omega) hb
      rw [Int.toNat_of_nonneg (by omega)] at h1
      simp [s_PCount, h, wrap_u64_id (show 0 ≤ n by omega) (by omega), h1])
theorem c_PNum (b : List AV) (n e : Int) (hb : b.length + 10 ≤ 140737488355328) (h : -9223372036854775808 ≤ n) (h' : n ≤ 9223372036854775807) : tbl E0 133 [.ref 0 0, .int .i64 n] (penA b e) = some ([], penA (b ++ encB (cnt (zz n))) e) :=
  t_PNum b n e (by simp [s_PNum, xor_zz h h', c_pgroups b (zz n) e (zz_lt h h') hb, -Int.reducePow])
/-- A word's bytes. -/
def word4 (n : Nat) : List UInt8 := [byt (n / 16777216), byt (n / 65536 % 256), byt (n / 256 % 256), byt (n % 256)]
theorem c_PWord (b : List AV) (n : Nat) (e : Int) (hb : b.length + 4 ≤ 140737488355328) (hn : n < 4294967296) : tbl E0 61 [.ref 0 0, .int .u32 (n : Int)] (penA b e) = some ([], penA (b ++ encB (word4 n)) e) :=
  t_PWord b n e (by
    have e1 : IntKind.u8.wrap ((n : Int).fdiv ((2 : Int) ^ (24 : Nat))) = ((byt (n / 16777216)).toNat : Int) := by rw [Int.fdiv_eq_ediv_of_nonneg _ (by decide), wrap_u8, byt_toNat (by omega)]; omega
    have e2 : IntKind.u8.wrap ((n : Int).fdiv ((2 : Int) ^ (16 : Nat))) = ((byt (n / 65536 % 256)).toNat : Int) := by rw [Int.fdiv_eq_ediv_of_nonneg _ (by decide), wrap_u8, byt_toNat (by omega)]; omega
    have e3 : IntKind.u8.wrap ((n : Int).fdiv ((2 : Int) ^ (8 : Nat))) = ((byt (n / 256 % 256)).toNat : Int) := by rw [Int.fdiv_eq_ediv_of_nonneg _ (by decide), wrap_u8, byt_toNat (by omega)]; omega
    have e4 : IntKind.u8.wrap (n : Int) = ((byt (n % 256)).toNat : Int) := by rw [wrap_u8, byt_toNat (by omega)]; omega
    unfold s_PWord
    rw [e1, e2, e3, e4]
    have hp := c_put b (encB (word4 n)) e (by simpa [word4] using hb)
    rw [show encB (word4 n) = [.int .u8 ((byt (n / 16777216)).toNat : Int), .int .u8 ((byt (n / 65536 % 256)).toNat : Int), .int .u8 ((byt (n / 256 % 256)).toNat : Int), .int .u8 ((byt (n % 256)).toNat : Int)] from rfl] at hp
    simp only [OA_chk, cond_true, OA_call, hp, Option.bind_some, u_asC, u_asOwn, u_asI, u_asN, Nat.beq_eq_true_eq]
    rfl)
theorem c_PText (b : List AV) (s : List UInt8) (e : Int) (hb : b.length + 10 + s.length ≤ 140737488355328) : tbl E0 53 [.ref 0 0, .str s] (penA b e) = some ([], penA (b ++ encB (cnt s.length ++ s)) e) :=
  t_PText b s e (by
    have h1 := c_PCount b s.length e (by omega) (by omega)
    have h0 : ¬ ((s.length : Int) < 0) := by omega
    have hc := cnt_len10 (u := s.length) (by omega)
    simp only [h0, if_false, Int.toNat_natCast] at h1
    have h2 := c_put (b ++ encB (cnt s.length)) (encB s) e (by simp; omega)
    simp [s_PText, h1, h2, encB_append])
theorem c_CloneB (b : List UInt8) (hb : b.length ≤ 140737488355328) : tbl E0 92 [.lst .ro 1 (encB b)] [] = some ([.lst .ro 1 (encB b)], []) :=
  t_CloneB b (by
    unfold s_CloneB
    cases b with
    | nil => exact OA_amb_same fun b => by cases b <;> rfl
    | cons c l => simp only [encB_cons, u_nil_cons, cond_false, List.length_cons, encB_length, OA_chk]; simp at hb; simp [hb])
theorem c_CloneBnil : tbl E0 92 [.lst .nil 1 []] [] = some ([.lst .ro 1 []], []) := t_CloneBnil rfl
theorem c_PDone (b : List UInt8) (e : Int) (hb : b.length ≤ 140737488355328) : tbl E0 54 [.ref 0 0] (penV b e) = some ([.lst .ro 1 (if e = 0 then encB b else []), .int .i64 e], penV b e) :=
  t_PDone (encB b) e (by
    by_cases h : e = 0
    · subst h; simp [s_PDone, c_CloneB b hb]
    · simp [s_PDone, h, bne_t h])
theorem c_New : tbl E0 51 [] [] = some ([.ref 64 0], [(64, [.lst (.own (.E 64 0)) 1 [], .int .i64 0])]) := t_New rfl
theorem c_Of (b : List UInt8) (hb : b.length ≤ 140737488355328) : tbl E0 55 [.lst .ro 1 (encB b)] [] = some ([.ref 64 0], [(64, [.lst .ro 1 (encB b), .int .i64 0])]) :=
  t_Of b (by simp [s_Of, c_CloneB b hb])

/-! The eye. -/
def grp : Nat → Nat → List UInt8 → Nat × Nat × Int
  | _, _, [] => (0, 0, 5)
  | i, u, c :: l => if (i = 9 ∧ 1 < c.toNat) ∨ (0 < i ∧ c.toNat = 0) then (0, 0, 4) else if c.toNat < 128 then (u + c.toNat * 128 ^ i, i + 1, 0) else grp (i + 1) (u + c.toNat % 128 * 128 ^ i) l
def grpS (b : List UInt8) (e : Int) : Nat × List UInt8 × Int := if e ≠ 0 then (0, b, e) else if (grp 0 0 b).2.2 ≠ 0 then (0, b, (grp 0 0 b).2.2) else ((grp 0 0 b).1, b.drop (grp 0 0 b).2.1, 0)
def countS (b : List UInt8) (e : Int) (m : Int) : Int × List UInt8 × Int :=
  if e ≠ 0 then (0, b, e) else if (grp 0 0 b).2.2 ≠ 0 then (0, b, (grp 0 0 b).2.2) else if 9223372036854775808 ≤ (grp 0 0 b).1 then (0, b, 4) else if max m 0 < ((grp 0 0 b).1 : Int) then (0, b, 7) else ((grp 0 0 b).1, b.drop (grp 0 0 b).2.1, 0)
def numS (b : List UInt8) (e : Int) : Int × List UInt8 × Int := (unz (grpS b e).1, (grpS b e).2)
def takeS (b : List UInt8) (e : Int) (n : Nat) : List UInt8 × List UInt8 × Int := if e ≠ 0 then ([], b, e) else if b.length < n then ([], b, 5) else (b.take n, b.drop n, 0)
def byteS (b : List UInt8) (e : Int) : Nat × List UInt8 × Int := (((takeS b e 1).1[0]?).elim 0 UInt8.toNat, (takeS b e 1).2)
def wordOf (x : Nat) (l : List UInt8) : Nat := l.foldl (fun x c => 256 * x + c.toNat) x
def wordS (b : List UInt8) (e : Int) : Nat × List UInt8 × Int := (wordOf 0 (takeS b e 4).1, (takeS b e 4).2)
def textS (b : List UInt8) (e : Int) (m : Int) : List UInt8 × List UInt8 × Int :=
  let c := countS b e m
  let t := takeS c.2.1 c.2.2 c.1.toNat
  (t.1, if t.2.2 = 5 then b else t.2.1, t.2.2)
def endS (b : List UInt8) (e : Int) : Int := if e ≠ 0 then e else if b = [] then 0 else 6

theorem grp_bound : ∀ (l : List UInt8) (i u : Nat), i ≤ 9 → u < 128 ^ i → (grp i u l).1 < 18446744073709551616 ∧ ((grp i u l).2.2 = 0 → (grp i u l).2.1 ≤ i + l.length) ∧ ((grp i u l).2.2 = 0 ∨ (grp i u l).2.2 = 4 ∨ (grp i u l).2.2 = 5)
  | [], i, u, hi, hu => by simp [grp]
  | c :: l, i, u, hi, hu => by
    have hc := c.toNat_lt
    rw [grp]
    split
    · simp
    · rename_i h1
      split
      · rename_i h2
        refine ⟨?_, fun _ => by simp, .inl rfl⟩
        show u + c.toNat * 128 ^ i < _
        have h9 : i = 9 → c.toNat ≤ 1 := fun h => by omega
        have hp : i ≤ 8 → (128 : Nat) ^ i ≤ 128 ^ 8 := fun h => Nat.pow_le_pow_right (by decide) h
        by_cases hi9 : i = 9
        · subst hi9
          have := h9 rfl
          have : c.toNat * 128 ^ 9 ≤ 1 * 128 ^ 9 := Nat.mul_le_mul_right _ this
          omega
        · have h8 := hp (by omega)
          have : c.toNat * 128 ^ i ≤ 127 * 128 ^ 8 := Nat.mul_le_mul (by omega) h8
          omega
      · rename_i h2
        have hi9 : i ≠ 9 := fun h => by omega
        have h3 : u + c.toNat % 128 * 128 ^ i < 128 ^ (i + 1) := by
          have : c.toNat % 128 * 128 ^ i ≤ 127 * 128 ^ i := Nat.mul_le_mul_right _ (by omega)
          rw [Nat.pow_succ]; omega
        obtain ⟨a1, a2, a3⟩ := grp_bound l (i + 1) _ (by omega) h3
        exact ⟨a1, fun h => by have := a2 h; simp; omega, a3⟩
theorem c_egroupsL (l : List UInt8) : ∀ (r : List UInt8) (i u : Nat), l.drop i = r → i ≤ 9 → u < 128 ^ i → l.length ≤ 140737488355328 →
    ltbl E0 94 0 5 [.int .u64 u, .lst .ro 1 (encB l), .int .i64 l.length, .int .i64 i] [[.lst .ro 1 (encB l), .int .i64 0]] =
      some (if (grp i u r).2.2 = 5 then (1, [], [[.lst .ro 1 (encB l), .int .i64 0]]) else if (grp i u r).2.2 = 4 then (0, [.int .u64 0], [[.lst .ro 1 (encB l), .int .i64 4]]) else (0, [.int .u64 (grp i u r).1], [[.lst .ro 1 (encB (l.drop (grp i u r).2.1)), .int .i64 0]])) := by
  intro r
  induction r with
  | nil =>
    intro i u hr hi hu hl
    have h : l.length ≤ i := by simpa using hr
    refine t_egroupsL l l u l.length i 0 ?_
    have : ¬ ((i : Int) < l.length) := by omega
    simp [s_egroupsL, this, grp]
  | cons c r ih =>
    intro i u hr hi hu hl
    have hlt : i < l.length := by
      rcases Nat.lt_or_ge i l.length with h | h
      · exact h
      · rw [List.drop_eq_nil_of_le h] at hr; cases hr
    have hget : l[i]? = some c := by
      rw [List.drop_eq_getElem_cons hlt] at hr
      injection hr with h1 h2
      rw [List.getElem?_eq_getElem hlt, h1]
    have hr2 : l.drop (i + 1) = r := by
      rw [List.drop_eq_getElem_cons hlt] at hr
      injection hr
    have hc := c.toNat_lt
    refine t_egroupsL l l u l.length i 0 ?_
    have h1 : (i : Int) < l.length := by omega
    have h7 : IntKind.u64.wrap (IntKind.i64.wrap ((7 : Int) * (i : Int))) = ((7 * i : Nat) : Int) := by
      rw [wrap_i64 _ (by omega) (by omega), wrap_u64_id (by omega) (by omega)]; omega
    have hi1 : IntKind.i64.wrap ((i : Int) + 1) = ((i + 1 : Nat) : Int) := by rw [wrap_i64 _ (by omega) (by omega)]; omega
    have hmin : min (7 * i) 64 = 7 * i := by omega
    have hp9 : (128 : Nat) ^ i ≤ 128 ^ 9 := Nat.pow_le_pow_right (by decide) hi
    have h27 : (2 : Nat) ^ (7 * i) = 128 ^ i := by rw [Nat.pow_mul]
    have hu64 : u < 18446744073709551616 := by omega
    have hnew : ∀ d : Nat, d < 128 → (i = 9 → d ≤ 1) → bits .or .u64 (u : Int) (IntKind.u64.wrap (IntKind.u64.wrap (d : Int) * (2 : Int) ^ (7 * i))) = ((u + d * 128 ^ i : Nat) : Int) := by
      intro d hd h9
      have hb : d * 128 ^ i < 18446744073709551616 := by
        by_cases hi9 : i = 9
        · subst hi9
          have : d * 128 ^ 9 ≤ 1 * 128 ^ 9 := Nat.mul_le_mul_right _ (h9 rfl)
          omega
        · have h8 : (128 : Nat) ^ i ≤ 128 ^ 8 := Nat.pow_le_pow_right (by decide) (by omega)
          have : d * 128 ^ i ≤ 127 * 128 ^ 8 := Nat.mul_le_mul (by omega) h8
          omega
      have e1 : (IntKind.u64.wrap (d : Int)) * (2 : Int) ^ (7 * i) = ((d * 128 ^ i : Nat) : Int) := by
        rw [wrap_u64_id (by omega) (by omega), ← h27]; simp
      rw [e1, wrap_u64_id (by omega) (by omega), bits_or64 u _ hu64 hb, ← h27, or_add u d (7 * i) (by rw [h27]; exact hu), h27]
    have h10 : decide ((i : Int) > 0) = decide (0 < i) := by rw [Bool.eq_iff_iff, decide_eq_true_eq, decide_eq_true_eq]; omega
    have h9 : ((i : Int) == 9) = decide (i = 9) := by rw [Bool.eq_iff_iff]; simp; omega
    have hc0 : ((c.toNat : Int) == 0) = decide (c.toNat = 0) := by rw [Bool.eq_iff_iff, beq_iff_eq, decide_eq_true_eq]; omega
    have hc1 : decide ((c.toNat : Int) > 1) = decide (1 < c.toNat) := by rw [Bool.eq_iff_iff, decide_eq_true_eq, decide_eq_true_eq]; omega
    have hjoin : ∀ (f : (Bool → Option LR) → Option LR), f = (fun x2 => bif ((i : Int) == 9) then (bif decide ((c.toNat : Int) > 1) then x2 true else (bif decide ((i : Int) > 0) then x2 ((c.toNat : Int) == 0) else x2 false)) else (bif decide ((i : Int) > 0) then x2 ((c.toNat : Int) == 0) else x2 false)) →
        f (fun b => some (Tok.tok b)) = some (Tok.tok (decide ((i = 9 ∧ 1 < c.toNat) ∨ (0 < i ∧ c.toNat = 0)))) := by
      intro f hf
      subst hf
      simp only [h9, h10, hc0, hc1]
      by_cases a1 : i = 9 <;> by_cases a2 : 1 < c.toNat <;> by_cases a3 : 0 < i <;> by_cases a4 : c.toNat = 0 <;> simp [a1, a2, a3, a4] <;> omega
    simp only [s_egroupsL, h1, decide_true, cond_true, OA_chk, nthE, Int.toNat_natCast, encB_get, hget, Option.map_some, u_asI, OA_join, h7, hmin, hi1, andn128 _ hc]
    rw [hjoin _ rfl]
    simp only [Option.bind_some, Tok.untok_tok]
    by_cases hbad : (i = 9 ∧ 1 < c.toNat) ∨ (0 < i ∧ c.toNat = 0)
    · have hg : grp i u (c :: r) = (0, 0, 4) := by rw [grp, if_pos hbad]
      simp [hbad, hg]
    · simp only [hbad, decide_false, cond_false, Int.natCast_nonneg, decide_true, cond_true]
      have hd := hnew (c.toNat % 128) (by omega) (fun h => by omega)
      rw [hd]
      by_cases hs : c.toNat < 128
      · have hg : grp i u (c :: r) = (u + c.toNat * 128 ^ i, i + 1, 0) := by rw [grp, if_neg hbad, if_pos hs]
        have hs2 : (c.toNat : Int) < 128 := by omega
        have hm : c.toNat % 128 = c.toNat := by omega
        have hle : (i : Int) + 1 ≤ l.length := by omega
        rw [hg, hm]
        simp [hs2, encB_take, encB_drop, List.take_of_length_le, hle]
      · have hg : grp i u (c :: r) = grp (i + 1) (u + c.toNat % 128 * 128 ^ i) r := by rw [grp, if_neg hbad, if_neg hs]
        have hs2 : ¬ (c.toNat : Int) < 128 := by omega
        have hi9 : i ≠ 9 := fun h => by omega
        have h3 : u + c.toNat % 128 * 128 ^ i < 128 ^ (i + 1) := by
          have : c.toNat % 128 * 128 ^ i ≤ 127 * 128 ^ i := Nat.mul_le_mul_right _ (by omega)
          rw [Nat.pow_succ]; omega
        rw [hg]
        simp only [hs2, decide_false, cond_false]
        exact ih (i + 1) _ hr2 (by omega) h3 hl
theorem c_egroups (b : List UInt8) (e : Int) (hb : b.length ≤ 140737488355328) : tbl E0 94 [.ref 0 0] (eyeV b e) = some ([.int .u64 (grpS b e).1], eyeV (grpS b e).2.1 (grpS b e).2.2) :=
  t_egroups b e (by
    by_cases h : e = 0
    · subst h
      have hL := c_egroupsL b b 0 0 rfl (by omega) (by decide) hb
      have hg := (grp_bound b 0 0 (by omega) (by decide)).2.2
      simp only [Int.natCast_zero] at hL
      unfold grpS
      rcases hg with hg | hg | hg <;> simp [s_egroups, hL, hg]
    · simp [s_egroups, grpS, h, bne_t h])
theorem n_egroups : tbl E0 94 [.nilp] [] = some ([.int .u64 0], []) := t_egroupsn (by simp [s_egroupsn])
theorem c_take (b : List UInt8) (e : Int) (n : Nat) : tbl E0 96 [.ref 0 0, .int .i64 n] (eyeV b e) = some ([.lst .ro 1 (encB (takeS b e n).1)], eyeV (takeS b e n).2.1 (takeS b e n).2.2) :=
  t_take b e n (by
    unfold takeS
    by_cases h : e = 0
    · subst h
      by_cases h2 : b.length < n
      · have h3 : (b.length : Int) < n := by omega
        simp [s_take, h2, h3, encB_nil]
      · have h3 : ¬ (b.length : Int) < n := by omega
        have h4 : (n : Int) ≤ b.length := by omega
        simp [s_take, h2, h3, h4, encB_take, encB_drop, List.take_of_length_le]
    · simp [s_take, h, bne_t h, encB_nil])
theorem n_take (n : Int) : tbl E0 96 [.nilp, .int .i64 n] [] = some ([.lst .ro 1 []], []) := t_taken n (by simp [s_taken])
theorem takeS_len (b : List UInt8) (e : Int) (n : Nat) : (takeS b e n).1.length = n ∨ (takeS b e n).1 = [] := by
  unfold takeS
  by_cases h : e = 0 <;> by_cases h2 : b.length < n <;> simp [h, h2]
  omega
theorem c_left (b : List UInt8) (e : Int) : tbl E0 93 [.ref 0 0] (eyeV b e) = some ([.lst .ro 1 (encB b)], eyeV b e) := t_left b e rfl
theorem n_left : tbl E0 93 [.nilp] [] = some ([.lst .ro 1 []], []) := t_leftn rfl
theorem c_back (b c : List UInt8) (e f : Int) : tbl E0 95 [.ref 0 0, .lst .ro 1 (encB c), .int .i64 f] (eyeV b e) = some ([], eyeV c f) := t_back b c e f rfl
theorem n_back (c : List UInt8) (f : Int) : tbl E0 95 [.nilp, .lst .ro 1 (encB c), .int .i64 f] [] = some ([], []) := t_backn c f rfl
theorem fdiv63' (u : Nat) : (u : Int).fdiv ((2 : Int) ^ (63 : Nat)) = ((u / 9223372036854775808 : Nat) : Int) := by
  rw [Int.fdiv_eq_ediv_of_nonneg _ (by decide), show (2 : Int) ^ 63 = 9223372036854775808 by decide]; omega
theorem max_eq (n : Int) : (if n < 0 then (0 : Int) else n) = max n 0 := by split <;> omega
theorem c_ECount (b : List UInt8) (e m : Int) (hb : b.length ≤ 140737488355328) : tbl E0 56 [.ref 0 0, .int .i64 m] (eyeV b e) = some ([.int .i64 (countS b e m).1], eyeV (countS b e m).2.1 (countS b e m).2.2) :=
  t_ECount b e m (by
    have hg := c_egroups b e hb
    have hbd := (grp_bound b 0 0 (by omega) (by decide)).1
    simp only [s_ECount, OA_call, c_left, Option.bind_some, u_asC, u_asL, u_asI, u_asN, Nat.beq_eq_true_eq, hg, OA_chk, cond_true, c_back, fdiv63', max_eq, r_b0']
    unfold countS grpS
    by_cases h : e = 0
    · subst h
      by_cases hf : (grp 0 0 b).2.2 = 0
      · simp only [ne_eq, not_true_eq_false, if_false, hf]
        by_cases h63 : 9223372036854775808 ≤ (grp 0 0 b).1
        · have : ((grp 0 0 b).1 / 9223372036854775808 : Nat) = 1 := by omega
          simp [h63, this]
        · have h0 : ((grp 0 0 b).1 / 9223372036854775808 : Nat) = 0 := by omega
          simp only [h0, wrap_i64 ((grp 0 0 b).1 : Int) (by omega) (by omega)]
          by_cases hm : max m 0 < ((grp 0 0 b).1 : Int)
          · simp [h63, hm]
          · simp [h63, hm]
      · have hm : ¬ max m 0 < 0 := by omega
        simp [hf, hm]
    · have hm : ¬ max m 0 < 0 := by omega
      simp [h, hm])
end Go.Proofs.Ythmocicjocjdoaa.V
namespace Go.Proofs.Ythmocicjocjdoaa.V
open Go
theorem grpS_bound (b : List UInt8) (e : Int) : (grpS b e).1 < 18446744073709551616 := by
  have := (grp_bound b 0 0 (by omega) (by decide)).1
  unfold grpS
  split
  · simp
  · split
    · simp
    · exact this
theorem grpS_len (b : List UInt8) (e : Int) : (grpS b e).2.1.length ≤ b.length := by unfold grpS; split <;> (try split) <;> simp
theorem countS_len (b : List UInt8) (e m : Int) : (countS b e m).2.1.length ≤ b.length := by unfold countS; split <;> (try split) <;> (try split) <;> (try split) <;> simp
theorem takeS_len2 (b : List UInt8) (e : Int) (n : Nat) : (takeS b e n).2.1.length ≤ b.length := by unfold takeS; split <;> (try split) <;> simp
theorem countS_nonneg (b : List UInt8) (e m : Int) : 0 ≤ (countS b e m).1 := by unfold countS; split <;> (try split) <;> (try split) <;> (try split) <;> simp
theorem countS_le (b : List UInt8) (e m : Int) : (countS b e m).1 ≤ max m 0 := by unfold countS; split <;> (try split) <;> (try split) <;> (try split) <;> simp <;> omega
theorem c_ENum (b : List UInt8) (e : Int) (hb : b.length ≤ 140737488355328) : tbl E0 137 [.ref 0 0] (eyeV b e) = some ([.int .i64 (numS b e).1], eyeV (numS b e).2.1 (numS b e).2.2) :=
  t_ENum b e (by
    simp only [s_ENum, OA_call, c_egroups b e hb, Option.bind_some, u_asC, u_asL, u_asI, u_asN, r_b0', OA_chk, cond_true, xor_unz (grpS_bound b e)]
    rfl)
theorem n_ENum : tbl E0 137 [.nilp] [] = some ([.int .i64 0], []) := tbl_iff.2 ⟨20, by kernel_rfl⟩
theorem c_EWordL (l b : List UInt8) (e : Int) : ∀ (r : List UInt8) (i x : Nat), l.drop i = r → i ≤ l.length → l.length ≤ 4 → x < 256 ^ i →
    ltbl E0 62 0 3 [.int .u32 x, .lst .ro 1 (encB l), .int .i64 l.length, .int .i64 i] [[.lst .ro 1 (encB b), .int .i64 e]] = some (1, [.int .u32 (wordOf x r)], [[.lst .ro 1 (encB b), .int .i64 e]]) := by
  intro r
  induction r with
  | nil =>
    intro i x hr hi hl hx
    have h : l.length ≤ i := by simpa using hr
    refine t_EWordL _ _ _ _ _ _ ?_
    have : ¬ ((i : Int) < l.length) := by omega
    simp [s_EWordL, this, wordOf]
  | cons c r ih =>
    intro i x hr hi hl hx
    have hlt : i < l.length := by
      rcases Nat.lt_or_ge i l.length with h | h
      · exact h
      · rw [List.drop_eq_nil_of_le h] at hr; cases hr
    have hget : l[i]? = some c := by
      rw [List.drop_eq_getElem_cons hlt] at hr
      injection hr with h1 h2
      rw [List.getElem?_eq_getElem hlt, h1]
    have hr2 : l.drop (i + 1) = r := by
      rw [List.drop_eq_getElem_cons hlt] at hr
      injection hr
    have hc := c.toNat_lt
    have hp : (256 : Nat) ^ i ≤ 256 ^ 3 := Nat.pow_le_pow_right (by decide) (by omega)
    refine t_EWordL _ _ _ _ _ _ ?_
    have h1 : (i : Int) < l.length := by omega
    have hi1 : IntKind.i64.wrap ((i : Int) + 1) = ((i + 1 : Nat) : Int) := by rw [wrap_i64 _ (by omega) (by omega)]; omega
    have hx2 : IntKind.u32.wrap ((x : Int) * 2 ^ (8 : Nat)) = ((x * 2 ^ 8 : Nat) : Int) := by rw [wrap_u32_id (by omega) (by omega)]; simp
    have hc2 : IntKind.u32.wrap (c.toNat : Int) = ((c.toNat : Nat) : Int) := wrap_u32_id (by omega) (by omega)
    have ho : bits .or .u32 ((x * 2 ^ 8 : Nat) : Int) (c.toNat : Int) = ((256 * x + c.toNat : Nat) : Int) := by
      rw [bits_or32 _ _ (by omega) (by omega), Nat.or_comm, or_add _ _ _ hc]; congr 1; omega
    have h3 : 256 * x + c.toNat < 256 ^ (i + 1) := by rw [Nat.pow_succ]; omega
    simp only [s_EWordL, h1, decide_true, cond_true, OA_chk, nthE, Int.toNat_natCast, encB_get, hget, Option.map_some, u_asI, hi1, hx2, hc2, ho, Int.natCast_nonneg]
    exact ih (i + 1) _ hr2 (by omega) hl h3
theorem c_EWord (b : List UInt8) (e : Int) : tbl E0 62 [.ref 0 0] (eyeV b e) = some ([.int .u32 (wordS b e).1], eyeV (wordS b e).2.1 (wordS b e).2.2) :=
  t_EWord b e (by
    have ht := c_take b e 4
    have hl := c_EWordL (takeS b e 4).1 (takeS b e 4).2.1 (takeS b e 4).2.2 (takeS b e 4).1 0 0 rfl (Nat.zero_le _) (by rcases takeS_len b e 4 with h | h <;> simp [h]) (by decide)
    simp only [Int.natCast_zero] at hl
    rw [show ((4 : Nat) : Int) = 4 from rfl] at ht
    simp [s_EWord, ht, hl, wordS])
theorem n_EWord : tbl E0 62 [.nilp] [] = some ([.int .u32 0], []) := tbl_iff.2 ⟨20, by kernel_rfl⟩
theorem c_EText (b : List UInt8) (e m : Int) (hb : b.length ≤ 140737488355328) : tbl E0 57 [.ref 0 0, .int .i64 m] (eyeV b e) = some ([.str (textS b e m).1], eyeV (textS b e m).2.1 (textS b e m).2.2) :=
  t_EText b e m (by
    have hc := c_ECount b e m hb
    have h0 := countS_nonneg b e m
    have ht := c_take (countS b e m).2.1 (countS b e m).2.2 (countS b e m).1.toNat
    rw [Int.toNat_of_nonneg h0] at ht
    by_cases h5 : (takeS (countS b e m).2.1 (countS b e m).2.2 (countS b e m).1.toNat).2.2 = 5
    · simp [s_EText, c_left, hc, ht, textS, h5, orFail]
    · simp [s_EText, c_left, hc, ht, textS, h5, orFail])
theorem n_ECount (n : Int) : tbl E0 56 [.nilp, .int .i64 n] [] = some ([.int .i64 0], []) :=
  t_ECountn n (by
    have hm : ¬ (if n < 0 then 0 else n) < 0 := by split <;> omega
    simp [s_ECountn, n_left, n_egroups, hm])
theorem n_EText (n : Int) : tbl E0 57 [.nilp, .int .i64 n] [] = some ([.str []], []) := t_ETextn n (by simp [s_ETextn, n_left, n_ECount, n_take, orFail, bytesOf])
theorem c_Left (b : List UInt8) (e : Int) : tbl E0 65 [.ref 0 0] (eyeV b e) = some ([.int .i64 b.length], eyeV b e) := t_Left b e (by simp [s_Left, c_left])
theorem c_Bad (b : List UInt8) (e : Int) : tbl E0 63 [.ref 0 0] (eyeV b e) = some ([.int .i64 e], eyeV b e) := t_Bad b e rfl
theorem c_End (b : List UInt8) (e : Int) : tbl E0 58 [.ref 0 0] (eyeV b e) = some ([.int .i64 (endS b e)], eyeV b e) :=
  t_End b e (by
    unfold endS
    by_cases h : e = 0
    · subst h
      cases b with
      | nil => simp [s_End, c_Bad, c_Left]
      | cons c b => have : (0 : Int) < (b.length : Int) + 1 := by omega
                    simp [s_End, c_Bad, c_Left, this]
    · simp [s_End, c_Bad, h, bne_t h])
theorem n_Left : tbl E0 65 [.nilp] [] = some ([.int .i64 0], []) := tbl_iff.2 ⟨20, by kernel_rfl⟩
theorem n_Bad : tbl E0 63 [.nilp] [] = some ([.int .i64 1], []) := tbl_iff.2 ⟨20, by kernel_rfl⟩
theorem n_End : tbl E0 58 [.nilp] [] = some ([.int .i64 1], []) := tbl_iff.2 ⟨20, by kernel_rfl⟩
theorem n_Done : tbl E0 54 [.nilp] [] = some ([.lst .ro 1 [], .int .i64 1], []) := tbl_iff.2 ⟨20, by kernel_rfl⟩

/-! A pen that is none. -/
theorem n_pgroupsL (u : Nat) : u < 18446744073709551616 → ltbl E0 90 1 0 [.nilp, .int .u64 u] [] = some (1, [.nilp, .int .u64 (cntL u : Nat)], []) := by
  induction u using cnt.induct with
  | case1 u h =>
    intro hu
    refine t_groupsLn u ?_
    rw [cntL]
    have : ¬ (128 : Int) ≤ (u : Int) := by omega
    simp [s_groupsLn, h, this]
  | case2 u h ih =>
    intro hu
    refine t_groupsLn u ?_
    rw [cntL]
    have h1 : (128 : Int) ≤ (u : Int) := by omega
    simp only [s_groupsLn, or128', fdiv7]
    simp only [ge_iff_le, h1, decide_true, cond_true, OA_callx, n_put, Option.bind_some, u_asN, OA_chk, ih (by omega), h, if_false]
theorem n_pgroups (u : Nat) (hu : u < 18446744073709551616) : tbl E0 90 [.nilp, .int .u64 u] [] = some ([], []) := t_groupsn u (by simp [s_groupsn, n_pgroupsL u hu, n_put])
theorem n_PCount (n : Int) (hn : n ≤ 9223372036854775807) : tbl E0 52 [.nilp, .int .i64 n] [] = some ([], []) :=
  t_PCountn n (by
    by_cases h : n < 0
    · simp [s_PCountn, h]
    · have h1 := n_pgroups n.toNat (by omega)
      rw [Int.toNat_of_nonneg (by omega)] at h1
      simp [s_PCountn, h, wrap_u64_id (show 0 ≤ n by omega) (by omega), h1])
theorem n_PNum (n : Int) (h : -9223372036854775808 ≤ n) (h' : n ≤ 9223372036854775807) : tbl E0 133 [.nilp, .int .i64 n] [] = some ([], []) :=
  t_PNumn n (by simp [s_PNumn, xor_zz h h', n_pgroups (zz n) (zz_lt h h'), -Int.reducePow])
theorem n_PWord (n : Int) : tbl E0 61 [.nilp, .int .u32 n] [] = some ([], []) := t_PWordn n (by simp [s_PWordn, n_put])
theorem n_PText (s : List UInt8) (hs : s.length ≤ 140737488355328) : tbl E0 53 [.nilp, .str s] [] = some ([], []) := t_PTextn s (by simp [s_PTextn, n_PCount (s.length : Int) (by omega), n_put])
end Go.Proofs.Ythmocicjocjdoaa.V
namespace Go.Proofs.Ythmocicjocjdoaa.V
open Go
theorem wrap_u64_dvd (u : Nat) (h : u < 18446744073709551616) : IntKind.u8.wrap (IntKind.u64.wrap ((128 : Int) + (u : Int).tmod (128 : Int))) = ((u % 128 + 128 : Nat) : Int) := by
  rw [Int.tmod_eq_emod_of_nonneg (by omega), wrap_u64_id (by omega) (by omega), wrap_u8_id (by omega) (by omega)]; omega
/-- A piece's bytes. -/
def wr (k n : Int) (s : List UInt8) : List UInt8 :=
  if k = 0 then [byt (n % 256).toNat] else if k = 1 then (if n < 0 then [] else cnt n.toNat) else if k = 2 then cnt (zz n) else if k = 3 then word4 (n % 4294967296).toNat else cnt s.length ++ s
theorem wr_len (k n : Int) (s : List UInt8) (h : -9223372036854775808 ≤ n) (h' : n ≤ 9223372036854775807) (hs : s.length < 18446744073709551616) : (wr k n s).length ≤ 10 + s.length := by
  unfold wr
  split
  · simp; omega
  · split
    · split
      · simp
      · have := cnt_len10 (u := n.toNat) (by omega); omega
    · split
      · have := cnt_len10 (zz_lt h h'); omega
      · split
        · simp [word4]; omega
        · have := cnt_len10 hs; simp; omega
/-- Pieces that can be. -/
def actOK (a : Int × Int × List UInt8) : Prop := (-9223372036854775808 ≤ a.2.1 ∧ a.2.1 ≤ 9223372036854775807)
def actSz (l : List (Int × Int × List UInt8)) : Nat := (l.map fun a => 10 + a.2.2.length).sum
def wrs (l : List (Int × Int × List UInt8)) : List UInt8 := l.flatMap fun a => wr a.1 a.2.1 a.2.2
def isBad (a : Int × Int × List UInt8) : Bool := decide (a.1 = 1) && decide (a.2.1 < 0)
theorem drop_cons {α : Type} {l r : List α} {i : Nat} {a : α} (h : l.drop i = a :: r) : i < l.length ∧ l[i]? = some a ∧ l.drop (i + 1) = r := by
  have hlt : i < l.length := by
    rcases Nat.lt_or_ge i l.length with h' | h'
    · exact h'
    · rw [List.drop_eq_nil_of_le h'] at h; cases h
  rw [List.drop_eq_getElem_cons hlt] at h
  injection h with h1 h2
  exact ⟨hlt, by rw [List.getElem?_eq_getElem hlt, h1], h2⟩
end Go.Proofs.Ythmocicjocjdoaa.V
namespace Go.Proofs.Ythmocicjocjdoaa.V
open Go
theorem wrs_len : ∀ (l : List (Int × Int × List UInt8)), (∀ a, a ∈ l → actOK a) → actSz l ≤ 140737488355328 → (wrs l).length ≤ actSz l
  | [], _, _ => by simp [wrs, actSz]
  | (k, n, s) :: l, h, hs => by
    have e : actSz ((k, n, s) :: l) = 10 + s.length + actSz l := by simp [actSz]
    rw [e] at hs ⊢
    have hok := h _ (List.mem_cons_self ..)
    have h1 := wr_len k n s hok.1 hok.2 (by omega)
    have h2 := wrs_len l (fun a ha => h a (List.mem_cons_of_mem _ ha)) (by omega)
    simp only [wrs, List.flatMap_cons, List.length_append] at h2 ⊢
    omega
/-! The reference's eye. -/
theorem countS_fail (b : List UInt8) (e m : Int) (h : (countS b e m).2.2 ≠ 0) : (countS b e m).2.1 = b ∧ (countS b e m).1 = 0 := by
  revert h
  unfold countS
  split
  · simp
  · split
    · simp
    · split
      · simp
      · split <;> simp
theorem textS_ref (b : List UInt8) (e m : Int) : (if (textS b e m).2.2 ≠ 0 then b else (takeS (countS b e m).2.1 (countS b e m).2.2 (countS b e m).1.toNat).2.1) = (textS b e m).2.1 := by
  have hf := countS_fail b e m
  unfold textS
  simp only
  generalize countS b e m = cs at hf ⊢
  obtain ⟨c1, c2, c3⟩ := cs
  simp only at hf ⊢
  by_cases hc : c3 = 0
  · subst hc
    unfold takeS
    simp only [ne_eq, not_true_eq_false, if_false]
    split <;> simp
  · obtain ⟨rfl, rfl⟩ := hf hc
    unfold takeS
    simp [hc]
end Go.Proofs.Ythmocicjocjdoaa.V
namespace Go.Proofs.Ythmocicjocjdoaa.V
open Go
theorem textS_len (b : List UInt8) (e m : Int) : (textS b e m).2.1.length ≤ b.length := by
  unfold textS
  simp only
  split
  · exact Nat.le_refl _
  · exact Nat.le_trans (takeS_len2 _ _ _) (countS_len b e m)
/-! What was written is read. -/
theorem pow_step (u : Nat) (i : Nat) : u % 128 * 128 ^ i + u / 128 * 128 ^ (i + 1) = u * 128 ^ i := by
  have h := Nat.div_add_mod u 128
  rw [Nat.pow_succ]
  generalize 128 ^ i = p
  have e : u / 128 * (p * 128) = 128 * (u / 128) * p := by
    rw [Nat.mul_comm p 128, ← Nat.mul_assoc, Nat.mul_comm (u / 128) 128]
  rw [e, ← Nat.add_mul]
  congr 1
  omega
theorem grp_cnt (rest : List UInt8) (u : Nat) : ∀ (i a : Nat), i ≤ 9 → u < 2 ^ (64 - 7 * i) → (0 < i → 0 < u) → grp i a (cnt u ++ rest) = (a + u * 128 ^ i, i + (cnt u).length, 0) := by
  induction u using cnt.induct with
  | case1 u h =>
    intro i a hi hu h0
    rw [cnt, if_pos h]
    have hb : (byt u).toNat = u := byt_toNat (by omega)
    simp only [List.singleton_append, grp, hb, List.length_singleton]
    have hbad : ¬ ((i = 9 ∧ 1 < u) ∨ (0 < i ∧ u = 0)) := by
      rintro (⟨h9, h1⟩ | ⟨h1, h2⟩)
      · subst h9
        have : (2 : Nat) ^ (64 - 7 * 9) = 2 := by decide
        omega
      · have := h0 h1; omega
    rw [if_neg hbad, if_pos h]
  | case2 u h ih =>
    intro i a hi hu h0
    rw [cnt, if_neg h]
    have hb : (byt (u % 128 + 128)).toNat = u % 128 + 128 := byt_toNat (by omega)
    simp only [List.cons_append, grp, hb, List.length_cons]
    have hi9 : i ≠ 9 := by
      intro h9
      subst h9
      have : (2 : Nat) ^ (64 - 7 * 9) = 2 := by decide
      omega
    have hbad : ¬ ((i = 9 ∧ 1 < u % 128 + 128) ∨ (0 < i ∧ u % 128 + 128 = 0)) := by omega
    rw [if_neg hbad, if_neg (by omega)]
    have hp : u / 128 < 2 ^ (64 - 7 * (i + 1)) := by
      have e : 64 - 7 * i = (64 - 7 * (i + 1)) + 7 := by omega
      rw [e, Nat.pow_add] at hu
      exact Nat.div_lt_of_lt_mul (by rw [Nat.mul_comm]; exact hu)
    rw [ih (i + 1) _ (by omega) hp (fun _ => by omega)]
    have e1 : (u % 128 + 128) % 128 = u % 128 := by omega
    rw [e1, ← pow_step u i]
    simp only [Prod.mk.injEq, and_true]
    omega
theorem grp_cnt0 {u : Nat} (h : u < 18446744073709551616) (rest : List UInt8) : grp 0 0 (cnt u ++ rest) = (u, (cnt u).length, 0) := by
  rw [grp_cnt rest u 0 0 (by omega) h (by omega)]; simp
theorem countS_cnt {u : Nat} {m : Int} (h : u < 9223372036854775808) (hm : (u : Int) ≤ m) (rest : List UInt8) : countS (cnt u ++ rest) 0 m = ((u : Int), rest, 0) := by
  unfold countS
  rw [grp_cnt0 (by omega)]
  have h1 : ¬ 9223372036854775808 ≤ u := by omega
  have h2 : ¬ max m 0 < (u : Int) := by omega
  simp [h1, h2]
theorem numS_cnt {n : Int} (h : -9223372036854775808 ≤ n) (h' : n ≤ 9223372036854775807) (rest : List UInt8) : numS (cnt (zz n) ++ rest) 0 = (n, rest, 0) := by
  unfold numS grpS
  rw [grp_cnt0 (zz_lt h h')]
  simp [unz_zz]
theorem wordS_word4 {n : Nat} (h : n < 4294967296) (rest : List UInt8) : wordS (word4 n ++ rest) 0 = (n, rest, 0) := by
  unfold wordS takeS
  have h1 : ¬ (word4 n ++ rest).length < 4 := by simp [word4]
  simp only [ne_eq, not_true_eq_false, if_false, h1]
  simp only [word4, List.cons_append, List.nil_append, List.take_succ_cons, List.take_zero, List.drop_succ_cons, List.drop_zero, wordOf, List.foldl_cons, List.foldl_nil]
  rw [byt_toNat (by omega), byt_toNat (by omega), byt_toNat (by omega), byt_toNat (by omega)]
  simp only [Prod.mk.injEq, and_true]
  omega
theorem byteS_cons (c : UInt8) (rest : List UInt8) : byteS (c :: rest) 0 = (c.toNat, rest, 0) := by
  unfold byteS takeS
  simp
theorem textS_cnt (s rest : List UInt8) (h : s.length < 9223372036854775808) : textS (cnt s.length ++ s ++ rest) 0 s.length = (s, rest, 0) := by
  unfold textS
  rw [List.append_assoc, countS_cnt h (Int.le_refl _)]
  have h2 : ¬ s.length + rest.length < s.length := by omega
  unfold takeS
  simp [h2]
end Go.Proofs.Ythmocicjocjdoaa.V
