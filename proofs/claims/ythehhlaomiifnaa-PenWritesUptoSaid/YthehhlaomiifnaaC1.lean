/- Contracts of the pen. -/
import Derived.Test.YthehhlaomiifnaaP1
import Derived.Test.YthehhlaomiifnaaWg
namespace Go.Proofs.Ythehhlaomiifnaa.V
open Go
/-- Digits of seven bits. -/
def cnt (u : Nat) : List UInt8 := if u < 128 then [byt u] else byt (u % 128 + 128) :: cnt (u / 128)
termination_by u
decreasing_by omega
def cntI (u : Nat) : List UInt8 := if u < 128 then [] else byt (u % 128 + 128) :: cntI (u / 128)
termination_by u
decreasing_by omega
def cntL (u : Nat) : Nat := if u < 128 then u else cntL (u / 128)
termination_by u
decreasing_by omega
theorem cnt_eq (u : Nat) : cnt u = cntI u ++ [byt (cntL u)] := by
  induction u using cnt.induct with
  | case1 u h => rw [cnt, cntI, cntL]; simp [h]
  | case2 u h ih => rw [cnt, cntI, cntL]; simp [h, ih]
theorem cntL_lt (u : Nat) : cntL u < 128 := by
  induction u using cntL.induct with
  | case1 u h => rw [cntL]; simp [h]
  | case2 u h ih => rw [cntL]; simp [h, ih]
theorem cnt_len (k u : Nat) (h : u < 128 ^ (k + 1)) : (cnt u).length ≤ k + 1 := by
  induction k generalizing u with
  | zero => rw [cnt]; simp at h; simp [h]
  | succ k ih =>
    rw [cnt]
    split
    · simp
    · have : u / 128 < 128 ^ (k + 1) := by rw [Nat.div_lt_iff_lt_mul (by omega)]; rw [Nat.pow_succ] at h; exact h
      have := ih _ this
      simp; omega
theorem cnt_len10 {u : Nat} (h : u < 18446744073709551616) : (cnt u).length ≤ 10 := cnt_len 9 u (Nat.lt_of_lt_of_le h (by decide))
theorem cntI_len {u : Nat} (h : u < 18446744073709551616) : (cntI u).length + 1 ≤ 10 := by
  have := cnt_len10 h
  rw [cnt_eq] at this
  simpa using this
theorem c_put (b m : List AV) (e : Int) (h : b.length + m.length ≤ 140737488355328) : tbl E0 145 [.ref 0 0, .lst .ro 1 m] (penA b e) = some ([], penA (b ++ m) e) :=
  t_put b m e (by simp [s_put, h, penA])
theorem n_put (m : List AV) : tbl E0 145 [.nilp, .lst .ro 1 m] [] = some ([], []) := t_putn m (by simp [s_putn])
theorem c_PByte (b : List AV) (x e : Int) (h : b.length + 1 ≤ 140737488355328) : tbl E0 84 [.ref 0 0, .int .u8 x] (penA b e) = some ([], penA (b ++ [.int .u8 x]) e) :=
  t_Byte b x e (by
    have := c_put b [.int .u8 x] e (by simpa using h)
    simp only [penA] at this
    simp [s_Byte, this, penA])
theorem n_PByte (x : Int) : tbl E0 84 [.nilp, .int .u8 x] [] = some ([], []) := t_Byten x (by simp [s_Byten, n_put])
theorem fdiv7 (u : Nat) : (u : Int).fdiv ((2 : Int) ^ (7 : Nat)) = ((u / 128 : Nat) : Int) := by
  rw [Int.fdiv_eq_ediv_of_nonneg _ (by decide)]; omega
theorem or128' (u : Nat) : bits .or .u8 (IntKind.u8.wrap (u : Int)) 128 = ((u % 128 + 128 : Nat) : Int) := by
  rw [wrap_u8, show (u : Int) % 256 = ((u % 256 : Nat) : Int) by omega, or128 _ (by omega)]
  have : u % 256 % 128 = u % 128 := by omega
  rw [this]
theorem c_pgroupsL (u : Nat) : ∀ (b : List AV) (e : Int), u < 18446744073709551616 → b.length + (cntI u).length ≤ 140737488355328 → ltbl E0 146 0 0 [.int .u64 u] [[.lst (.own (.O 0 0)) 1 b, .int .i64 e]] = some (1, [.int .u64 (cntL u : Nat)], [[.lst (.own (.O 0 0)) 1 (b ++ encB (cntI u)), .int .i64 e]]) := by
  induction u using cnt.induct with
  | case1 u h =>
    intro b e hu hb
    refine t_groupsL b u e ?_
    rw [cntL, cntI]
    have : ¬ (128 : Int) ≤ (u : Int) := by omega
    simp [s_groupsL, h, this, encB_nil]
  | case2 u h ih =>
    intro b e hu hb
    refine t_groupsL b u e ?_
    rw [cntI] at hb
    simp only [h, if_false, List.length_cons] at hb
    rw [cntL, cntI]
    have h1 : (128 : Int) ≤ (u : Int) := by omega
    have hp := c_put b [.int .u8 ((u % 128 + 128 : Nat) : Int)] e (by simp; omega)
    simp only [penA] at hp
    have h2 := ih (b ++ [.int .u8 ((u % 128 + 128 : Nat) : Int)]) e (by omega) (by simp; omega)
    simp only [s_groupsL, or128', fdiv7]
    simp only [ge_iff_le, h1, decide_true, cond_true, OA_call, hp, Option.bind_some, u_asC, u_asOwn, u_asI, u_asN, OA_chk, Nat.beq_eq_true_eq, h2, h, if_false]
    simp only [encB_cons, byt_toNat (show u % 128 + 128 < 256 by omega), List.append_assoc, List.singleton_append]
    rfl
theorem c_pgroups (b : List AV) (u : Nat) (e : Int) (hu : u < 18446744073709551616) (hb : b.length + 10 ≤ 140737488355328) : tbl E0 146 [.ref 0 0, .int .u64 u] (penA b e) = some ([], penA (b ++ encB (cnt u)) e) :=
  t_groups b u e (by
    have hl := cntI_len hu
    have h1 := c_pgroupsL u b e hu (by omega)
    have h2 := c_put (b ++ encB (cntI u)) [.int .u8 (cntL u : Nat)] e (by simp; omega)
    have h3 := cntL_lt u
    simp only [penA] at h2
    simp [s_groups, h1, wrap_u8_id (show (0 : Int) ≤ (cntL u : Nat) by omega) (by omega), h2, penA, cnt_eq, encB_append, encB_cons, encB_nil, byt_toNat (show cntL u < 256 by omega)])
end Go.Proofs.Ythehhlaomiifnaa.V
