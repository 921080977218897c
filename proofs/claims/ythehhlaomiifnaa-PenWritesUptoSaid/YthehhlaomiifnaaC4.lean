/- Contracts of the reference's pen and eye, and of the pen's law. -/
import Derived.Test.YthehhlaomiifnaaC3
import Derived.Test.YthehhlaomiifnaaP2
namespace Go.Proofs.Ythehhlaomiifnaa.V
open Go
theorem wrap_u64_dvd (u : Nat) (h : u < 18446744073709551616) : IntKind.u8.wrap (IntKind.u64.wrap ((128 : Int) + (u : Int).tmod (128 : Int))) = ((u % 128 + 128 : Nat) : Int) := by
  rw [Int.tmod_eq_emod_of_nonneg (by omega), wrap_u64_id (by omega) (by omega), wrap_u8_id (by omega) (by omega)]; omega
theorem r_CountL (u : Nat) : ∀ (b : List AV), u < 18446744073709551616 → b.length + (cntI u).length ≤ 140737488355328 → ltbl E0 89 0 2 [.int .u64 u, .lst (.own (.L 3)) 1 b] [] = some (1, [.int .u64 (cntL u : Nat), .lst (.own (.L 3)) 1 (b ++ encB (cntI u))], []) := by
  induction u using cnt.induct with
  | case1 u h =>
    intro b hu hb
    refine t_rCountL u b ?_
    rw [cntL, cntI]
    have : ¬ (127 : Int) < (u : Int) := by omega
    simp [s_rCountL, h, this, encB_nil]
  | case2 u h ih =>
    intro b hu hb
    refine t_rCountL u b ?_
    rw [cntI] at hb
    simp only [h, if_false, List.length_cons] at hb
    rw [cntL, cntI]
    have h1 : (127 : Int) < (u : Int) := by omega
    have h2 := ih (b ++ [.int .u8 ((u % 128 + 128 : Nat) : Int)]) (by omega) (by simp; omega)
    have h3 : IntKind.u64.wrap ((u : Int).tdiv 128) = ((u / 128 : Nat) : Int) := by rw [Int.tdiv_eq_ediv_of_nonneg (by omega), wrap_u64_id (by omega) (by omega)]; omega
    have h4 : (b.length + 1) * 1 ≤ 140737488355328 := by omega
    simp only [s_rCountL, wrap_u64_dvd u hu, h3]
    simp only [gt_iff_lt, h1, decide_true, cond_true, OA_chk, List.length_singleton, h4, h2, h, if_false]
    simp only [encB_cons, byt_toNat (show u % 128 + 128 < 256 by omega), List.append_assoc, List.singleton_append]
theorem r_Count (u : Nat) (hu : u < 18446744073709551616) : tbl E0 89 [.int .u64 u] [] = some ([.lst (.own (.R 0)) 1 (encB (cnt u))], []) :=
  t_rCount u (by
    have hl := cntI_len hu
    have h1 := r_CountL u [] hu (by simp; omega)
    have h3 := cntL_lt u
    simp only [List.nil_append] at h1
    have h4 : (cntI u).length ≤ 140737488355327 := by omega
    simp [s_rCount, h1, wrap_u8_id (show (0 : Int) ≤ (cntL u : Nat) by omega) (by omega), cnt_eq, encB_append, encB_cons, encB_nil, byt_toNat (show cntL u < 256 by omega), h4])
theorem r_Num (n : Int) (h : -9223372036854775808 ≤ n) (h' : n ≤ 9223372036854775807) : tbl E0 90 [.int .i64 n] [] = some ([.lst (.own (.R 0)) 1 (encB (cnt (zz n)))], []) :=
  t_rNum n (by
    have hz := r_Count (zz n) (zz_lt h h')
    by_cases hn : n < 0
    · have e : IntKind.u64.wrap (IntKind.u64.wrap ((2 : Int) * IntKind.u64.wrap (IntKind.i64.wrap ((0 : Int) - IntKind.i64.wrap (n + (1 : Int))))) + (1 : Int)) = (zz n : Int) := by
        rw [wrap_i64 (n + 1) (by omega) (by omega), wrap_i64 _ (by omega) (by omega), wrap_u64_id (show 0 ≤ 0 - (n + 1) by omega) (by omega), wrap_u64_id (show 0 ≤ 2 * (0 - (n + 1)) by omega) (by omega), wrap_u64_id (by omega) (by omega)]
        unfold zz; rw [if_pos hn]; omega
      unfold s_rNum; rw [e]; simp [hn, hz]
    · have e : IntKind.u64.wrap ((2 : Int) * IntKind.u64.wrap n) = (zz n : Int) := by
        rw [wrap_u64_id (show 0 ≤ n by omega) (by omega), wrap_u64_id (by omega) (by omega)]
        unfold zz; rw [if_neg hn]; omega
      simp [s_rNum, hn, e, hz])
theorem r_Word (n : Nat) (hn : n < 4294967296) : tbl E0 91 [.int .u32 n] [] = some ([.lst .ro 1 (encB (word4 n))], []) :=
  t_rWord n (by
    have e1 : IntKind.u8.wrap (IntKind.u32.wrap ((n : Int).tdiv (16777216 : Int))) = ((byt (n / 16777216)).toNat : Int) := by rw [Int.tdiv_eq_ediv_of_nonneg (by omega), wrap_u32_id (by omega) (by omega), wrap_u8, byt_toNat (by omega)]; omega
    have e2 : IntKind.u8.wrap ((IntKind.u32.wrap ((n : Int).tdiv (65536 : Int))).tmod (256 : Int)) = ((byt (n / 65536 % 256)).toNat : Int) := by rw [Int.tdiv_eq_ediv_of_nonneg (by omega), wrap_u32_id (by omega) (by omega), Int.tmod_eq_emod_of_nonneg (by omega), wrap_u8, byt_toNat (by omega)]; omega
    have e3 : IntKind.u8.wrap ((IntKind.u32.wrap ((n : Int).tdiv (256 : Int))).tmod (256 : Int)) = ((byt (n / 256 % 256)).toNat : Int) := by rw [Int.tdiv_eq_ediv_of_nonneg (by omega), wrap_u32_id (by omega) (by omega), Int.tmod_eq_emod_of_nonneg (by omega), wrap_u8, byt_toNat (by omega)]; omega
    have e4 : IntKind.u8.wrap ((n : Int).tmod (256 : Int)) = ((byt (n % 256)).toNat : Int) := by rw [Int.tmod_eq_emod_of_nonneg (by omega), wrap_u8, byt_toNat (by omega)]; omega
    unfold s_rWord
    rw [e1, e2, e3, e4]
    rfl)
theorem r_Text (s : List UInt8) (hs : s.length + 10 ≤ 140737488355328) : tbl E0 92 [.str s] [] = some ([.lst .ro 1 (encB (cnt s.length ++ s))], []) :=
  t_rText s (by
    have h1 := r_Count s.length (by omega)
    have hc := cnt_len10 (u := s.length) (by omega)
    have h4 : (cnt s.length).length + s.length ≤ 140737488355328 := by omega
    simp [s_rText, wrap_u64_id (show (0 : Int) ≤ s.length by omega) (by omega), h1, encB_append, h4])
/-- A piece's bytes. -/
def wr (k n : Int) (s : List UInt8) : List UInt8 :=
  if k = 0 then [byt (n % 256).toNat] else if k = 1 then (if n < 0 then [] else cnt n.toNat) else if k = 2 then cnt (zz n) else if k = 3 then word4 (n % 4294967296).toNat else cnt s.length ++ s
theorem wr_len (k n : Int) (s : List UInt8) (h : -9223372036854775808 ≤ n) (h' : n ≤ 9223372036854775807) (hs : s.length < 18446744073709551616) : (wr k n s).length ≤ 10 + s.length := by
  unfold wr
  split
  · simp; omega
  · split
    · split
      · simp
      · have := cnt_len10 (u := n.toNat) (by omega); omega
    · split
      · have := cnt_len10 (zz_lt h h'); omega
      · split
        · simp [word4]; omega
        · have := cnt_len10 hs; simp; omega
theorem c_write (b : List AV) (k n e : Int) (s : List UInt8) (h : -9223372036854775808 ≤ n) (h' : n ≤ 9223372036854775807) (hb : b.length + 10 + s.length ≤ 140737488355328) :
    tbl E0 20 [.ref 0 0, actV k n s] (penA b e) = some ([], penA (b ++ encB (wr k n s)) (if k = 1 ∧ n < 0 then 2 else e)) :=
  t_write b k n s e (by
    unfold wr
    by_cases h0 : k = 0
    · have hp := c_PByte b (n % 256) e (by omega)
      rw [show b ++ [AV.int .u8 (n % 256)] = b ++ encB [byt (n % 256).toNat] by rw [byt_one (show 0 ≤ n % 256 by omega) (by omega)]] at hp
      simp [s_write, h0, and255, wrap_u8_id (show 0 ≤ n % 256 by omega) (by omega), hp]
    · by_cases h1 : k = 1
      · have hp := c_PCount b n e (by omega) h'
        by_cases hn : n < 0
        · simp only [hn, if_true] at hp
          simp [s_write, h1, hp, hn, encB_nil]
        · simp only [hn, if_false] at hp
          simp [s_write, h1, hp, hn]
      · by_cases h2 : k = 2
        · simp [s_write, h2, c_PNum b n e (by omega) h h']
        · by_cases h3 : k = 3
          · have hp := c_PWord b (n % 4294967296).toNat e (by omega) (by omega)
            rw [Int.toNat_of_nonneg (by omega)] at hp
            simp [s_write, h3, andm32, wrap_u32_id (show 0 ≤ n % 4294967296 by omega) (by omega), hp]
          · simp [s_write, h0, h1, h2, h3, c_PText b s e (by omega)])
theorem c_wrote (k n : Int) (s : List UInt8) (h : -9223372036854775808 ≤ n) (h' : n ≤ 9223372036854775807) (hs : s.length + 10 ≤ 140737488355328) :
    tbl E0 21 [actV k n s] [] = some ([.lst .ro 1 (encB (wr k n s))], []) :=
  t_wrote k n s (by
    unfold wr
    by_cases h0 : k = 0
    · have hp := byt_one (show 0 ≤ n % 256 by omega) (by omega)
      simp [s_wrote, h0, and255, wrap_u8_id (show 0 ≤ n % 256 by omega) (by omega), hp]
    · by_cases h1 : k = 1
      · by_cases hn : n < 0
        · simp [s_wrote, h1, hn, encB_nil]
        · have hp := r_Count n.toNat (by omega)
          rw [Int.toNat_of_nonneg (by omega)] at hp
          simp [s_wrote, h1, hn, hp, wrap_u64_id (show 0 ≤ n by omega) (by omega)]
      · by_cases h2 : k = 2
        · simp [s_wrote, h2, r_Num n h h']
        · by_cases h3 : k = 3
          · have hp := r_Word (n % 4294967296).toNat (by omega)
            rw [Int.toNat_of_nonneg (by omega)] at hp
            simp [s_wrote, h3, andm32, wrap_u32_id (show 0 ≤ n % 4294967296 by omega) (by omega), hp]
          · simp [s_wrote, h0, h1, h2, h3, r_Text s hs])
/-- Pieces that can be. -/
def actOK (a : Int × Int × List UInt8) : Prop := (-9223372036854775808 ≤ a.2.1 ∧ a.2.1 ≤ 9223372036854775807)
def actSz (l : List (Int × Int × List UInt8)) : Nat := (l.map fun a => 10 + a.2.2.length).sum
def wrs (l : List (Int × Int × List UInt8)) : List UInt8 := l.flatMap fun a => wr a.1 a.2.1 a.2.2
def isBad (a : Int × Int × List UInt8) : Bool := decide (a.1 = 1) && decide (a.2.1 < 0)
theorem drop_cons {α : Type} {l r : List α} {i : Nat} {a : α} (h : l.drop i = a :: r) : i < l.length ∧ l[i]? = some a ∧ l.drop (i + 1) = r := by
  have hlt : i < l.length := by
    rcases Nat.lt_or_ge i l.length with h' | h'
    · exact h'
    · rw [List.drop_eq_nil_of_le h'] at h; cases h
  rw [List.drop_eq_getElem_cons hlt] at h
  injection h with h1 h2
  exact ⟨hlt, by rw [List.getElem?_eq_getElem hlt, h1], h2⟩
theorem c_PenWritesL (l : List (Int × Int × List UInt8)) (hl : l.length ≤ 140737488355328) : ∀ (r : List (Int × Int × List UInt8)) (i : Nat) (b : List AV) (bad : Bool) (e : Int), l.drop i = r → (∀ a, a ∈ r → actOK a) → b.length + actSz r ≤ 140737488355328 → (e = if bad then 2 else 0) →
    ltbl E0 3 0 5 [.lst .ro 3 (actL l), .lst (.own (.L 4)) 1 b, .bool bad, .int .i64 i] [[.lst (.own (.O 1009 0)) 1 b, .int .i64 e]] =
      some (1, [.lst (.own (.L 4)) 1 (b ++ encB (wrs r)), .bool (bad || r.any isBad)], [[.lst (.own (.O 1009 0)) 1 (b ++ encB (wrs r)), .int .i64 (if bad || r.any isBad then 2 else 0)]]) := by
  intro r
  induction r with
  | nil =>
    intro i b bad e hr ha hb he
    have h : l.length ≤ i := by simpa using hr
    refine t_PenWritesL _ _ _ _ _ _ ?_
    have : ¬ ((i : Int) < l.length) := by omega
    simp [s_PenWritesL, this, wrs, encB_nil, he]
  | cons a r ih =>
    intro i b bad e hr ha hb he
    obtain ⟨hlt, hget, hr2⟩ := drop_cons hr
    obtain ⟨k, n, s⟩ := a
    have hok := ha _ (List.mem_cons_self ..)
    have hsz : actSz ((k, n, s) :: r) = 10 + s.length + actSz r := by simp [actSz]
    rw [hsz] at hb
    refine t_PenWritesL _ _ _ _ _ _ ?_
    have h1 : (i : Int) < l.length := by omega
    have hgetA : (actL l)[i]? = some (actV k n s) := by simp [actL, hget]
    have hw := c_write b k n e s hok.1 hok.2 (by omega)
    have hwr := c_wrote k n s hok.1 hok.2 (by omega)
    have hlen := wr_len k n s hok.1 hok.2 (by omega)
    have h4 : b.length + (wr k n s).length ≤ 140737488355328 := by omega
    have hi1 : IntKind.i64.wrap ((i : Int) + 1) = ((i + 1 : Nat) : Int) := by rw [wrap_i64 _ (by omega) (by omega)]; omega
    have hih := ih (i + 1) (b ++ encB (wr k n s)) (bad || isBad (k, n, s)) (if (bad || isBad (k, n, s)) = true then 2 else 0) hr2 (fun a h => ha a (List.mem_cons_of_mem _ h)) (by simp; omega) rfl
    have he2 : (if k = 1 ∧ n < 0 then 2 else e) = if (bad || isBad (k, n, s)) = true then 2 else 0 := by
      rw [he]
      by_cases a1 : k = 1 <;> by_cases a2 : n < 0 <;> cases bad <;> simp [isBad, a1, a2]
    rw [he2] at hw
    have hws : b ++ encB (wrs ((k, n, s) :: r)) = b ++ encB (wr k n s) ++ encB (wrs r) := by simp [wrs, encB_append]
    have hbs : (bad || ((k, n, s) :: r).any isBad) = (bad || isBad (k, n, s) || r.any isBad) := by simp [Bool.or_assoc]
    rw [hws, hbs, ← hih]
    by_cases a1 : k = 1
    · subst a1
      by_cases a2 : n < 0 <;> cases bad <;> simp only [isBad, a2, decide_true, decide_false, Bool.and_true, Bool.and_false, Bool.or_true, Bool.or_false, Bool.true_or, Bool.false_or, if_true, if_false, Bool.false_eq_true] at hw ⊢ <;> simp [s_PenWritesL, h1, nthE, hgetA, hw, hwr, h4, hi1, a2]
    · cases bad <;> simp only [isBad, a1, decide_false, Bool.false_and, Bool.or_false, if_true, if_false, Bool.false_eq_true] at hw ⊢ <;> simp [s_PenWritesL, h1, nthE, hgetA, hw, hwr, h4, hi1, a1]
end Go.Proofs.Ythehhlaomiifnaa.V
