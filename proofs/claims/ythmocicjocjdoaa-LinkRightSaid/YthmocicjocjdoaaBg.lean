/- Numbers and bytes. -/
import Derived.Test.YthmocicjocjdoaaBf
set_option linter.unusedVariables false
set_option linter.unusedSimpArgs false
namespace Go.Proofs.Ythmocicjocjdoaa.V
open Go
theorem wrap_u8 (n : Int) : IntKind.u8.wrap n = n % 256 := by simp [IntKind.wrap, IntKind.signed, IntKind.bits]
theorem wrap_u32 (n : Int) : IntKind.u32.wrap n = n % 4294967296 := by simp [IntKind.wrap, IntKind.signed, IntKind.bits]
theorem wrap_u64 (n : Int) : IntKind.u64.wrap n = n % 18446744073709551616 := by simp [IntKind.wrap, IntKind.signed, IntKind.bits]
theorem wrap_i64 (n : Int) (h : -9223372036854775808 ≤ n) (h' : n ≤ 9223372036854775807) : IntKind.i64.wrap n = n := by
  have e : IntKind.i64.wrap n = if decide (n % 18446744073709551616 ≥ (9223372036854775808 : Int)) = true then n % 18446744073709551616 - 18446744073709551616 else n % 18446744073709551616 := by
    simp [IntKind.wrap, IntKind.signed, IntKind.bits]
  rw [e]
  split <;> rename_i hh <;> simp only [decide_eq_true_eq] at hh <;> omega
@[simp] theorem wrap_i64_0 : IntKind.i64.wrap 0 = 0 := wrap_i64 0 (by decide) (by decide)
theorem wrap_u64_id {n : Int} (h : 0 ≤ n) (h' : n < 18446744073709551616) : IntKind.u64.wrap n = n := by rw [wrap_u64]; omega
theorem wrap_u8_id {n : Int} (h : 0 ≤ n) (h' : n < 256) : IntKind.u8.wrap n = n := by rw [wrap_u8]; omega
theorem wrap_u32_id {n : Int} (h : 0 ≤ n) (h' : n < 4294967296) : IntKind.u32.wrap n = n := by rw [wrap_u32]; omega
theorem encB_nil : encB [] = [] := rfl
theorem encB_cons (c : UInt8) (b : List UInt8) : encB (c :: b) = .int .u8 (c.toNat : Int) :: encB b := rfl
theorem encB_append (a b : List UInt8) : encB (a ++ b) = encB a ++ encB b := by simp [encB]
@[simp] theorem encB_length (b : List UInt8) : (encB b).length = b.length := by simp [encB]
theorem encB_take (n : Nat) (b : List UInt8) : (encB b).take n = encB (b.take n) := by simp [encB, List.map_take]
theorem encB_drop (n : Nat) (b : List UInt8) : (encB b).drop n = encB (b.drop n) := by simp [encB, List.map_drop]
@[simp] theorem bytesOf_encB : ∀ (b : List UInt8), bytesOf (encB b) = some b
  | [] => rfl
  | c :: b => by rw [encB_cons, bytesOf, bytesOf_encB b]; simp
theorem encB_get (b : List UInt8) (i : Nat) : (encB b)[i]? = (b[i]?).map fun c => .int .u8 (c.toNat : Int) := by simp [encB]
/-- A byte of a number. -/
def byt (n : Nat) : UInt8 := UInt8.ofNat n
theorem byt_toNat {n : Nat} (h : n < 256) : (byt n).toNat = n := by simp [byt]; omega
theorem byt_av {n : Int} (h : 0 ≤ n) (h' : n < 256) : AV.int .u8 n = .int .u8 ((byt n.toNat).toNat : Int) := by
  rw [byt_toNat (by omega), Int.toNat_of_nonneg h]
theorem byt_one {n : Int} (h : 0 ≤ n) (h' : n < 256) : [AV.int .u8 n] = encB [byt n.toNat] := by rw [encB_cons, encB_nil, ← byt_av h h']
theorem byt_self (c : UInt8) : byt c.toNat = c := by simp [byt]
theorem or128 : ∀ n : Nat, n < 256 → bits .or .u8 (n : Int) 128 = ((n % 128 + 128 : Nat) : Int) := by decide +kernel
theorem andn128 : ∀ n : Nat, n < 256 → bits .andNot .u8 (n : Int) 128 = ((n % 128 : Nat) : Int) := by decide +kernel
theorem toNat_ofInt (n : Int) : (BitVec.ofInt 64 n).toNat = (n % 18446744073709551616).toNat := by simp [BitVec.toNat_ofInt]
theorem bits_or64 (m n : Nat) (hm : m < 18446744073709551616) (hn : n < 18446744073709551616) : bits .or .u64 (m : Int) (n : Int) = ((m ||| n : Nat) : Int) := by
  have h : m ||| n < 2 ^ 64 := Nat.or_lt_two_pow hm hn
  have h2 : bits .or .u64 (m : Int) (n : Int) = IntKind.u64.wrap ((BitVec.ofInt 64 (m : Int) ||| BitVec.ofInt 64 (n : Int)).toNat : Nat) := rfl
  rw [h2, BitVec.toNat_or, toNat_ofInt, toNat_ofInt, show ((m : Int) % 18446744073709551616).toNat = m by omega, show ((n : Int) % 18446744073709551616).toNat = n by omega]
  exact wrap_u64_id (by omega) (by omega)
theorem bits_or32 (m n : Nat) (hm : m < 4294967296) (hn : n < 4294967296) : bits .or .u32 (m : Int) (n : Int) = ((m ||| n : Nat) : Int) := by
  have h : m ||| n < 2 ^ 32 := Nat.or_lt_two_pow hm hn
  have h2 : bits .or .u32 (m : Int) (n : Int) = IntKind.u32.wrap ((BitVec.ofInt 32 (m : Int) ||| BitVec.ofInt 32 (n : Int)).toNat : Nat) := rfl
  have e : ∀ z : Int, (BitVec.ofInt 32 z).toNat = (z % 4294967296).toNat := fun z => by simp [BitVec.toNat_ofInt]
  rw [h2, BitVec.toNat_or, e, e, show ((m : Int) % 4294967296).toNat = m by omega, show ((n : Int) % 4294967296).toNat = n by omega]
  exact wrap_u32_id (by omega) (by omega)
theorem or_add (u d k : Nat) (h : u < 2 ^ k) : u ||| (d * 2 ^ k) = u + d * 2 ^ k := by
  rw [Nat.or_comm, ← Nat.shiftLeft_eq, ← Nat.shiftLeft_add_eq_or_of_lt h, Nat.add_comm]
theorem bits_and_i64 (n : Int) (k : Nat) (hk : k < 63) : bits .and .i64 n ((2 ^ k - 1 : Nat) : Int) = n % (2 ^ k : Nat) := by
  have hp : (2 : Nat) ^ k ≤ 2 ^ 62 := Nat.pow_le_pow_right (by decide) (by omega)
  have hp0 : 0 < (2 : Nat) ^ k := Nat.pow_pos (by decide)
  have h2 : bits .and .i64 n ((2 ^ k - 1 : Nat) : Int) = IntKind.i64.wrap ((BitVec.ofInt 64 n &&& BitVec.ofInt 64 ((2 ^ k - 1 : Nat) : Int)).toNat : Nat) := rfl
  rw [h2, BitVec.toNat_and, toNat_ofInt, toNat_ofInt]
  generalize hK : (2 : Nat) ^ k = K at *
  have e1 : (((K - 1 : Nat) : Int) % 18446744073709551616).toNat = K - 1 := by omega
  rw [e1]
  have e2 : ∀ m : Nat, m &&& (K - 1) = m % K := fun m => by rw [← hK]; exact Nat.and_two_pow_sub_one_eq_mod m k
  rw [e2]
  have hd : ∃ c, (18446744073709551616 : Nat) = K * c := by
    refine ⟨2 ^ (64 - k), ?_⟩
    have e : (2 : Nat) ^ 64 = 2 ^ k * 2 ^ (64 - k) := by rw [← Nat.pow_add]; congr 1; omega
    rw [hK] at e
    exact (show (18446744073709551616 : Nat) = 2 ^ 64 by decide).trans e
  obtain ⟨c, hc⟩ := hd
  have e3 : (((n % 18446744073709551616).toNat % K : Nat) : Int) = n % (K : Int) := by
    rw [Int.natCast_emod, Int.toNat_of_nonneg (by omega)]
    have hdvd : (K : Int) ∣ 18446744073709551616 := ⟨(c : Int), by rw [← Int.natCast_mul, ← hc]; rfl⟩
    exact Int.emod_emod_of_dvd n hdvd
  rw [e3]
  have h3 := Int.emod_nonneg n (show (K : Int) ≠ 0 by omega)
  have h4 := Int.emod_lt_of_pos n (show (0 : Int) < K by omega)
  exact wrap_i64 _ (by omega) (by omega)
theorem and255 (n : Int) : bits .and .i64 n 255 = n % 256 := bits_and_i64 n 8 (by decide)
theorem andm32 (n : Int) : bits .and .i64 n 4294967295 = n % 4294967296 := bits_and_i64 n 32 (by decide)
/-- A number with a sign, folded. -/
def zz (n : Int) : Nat := if n < 0 then (2 * (-(n + 1)) + 1).toNat else (2 * n).toNat
def unz (u : Nat) : Int := if u % 2 = 1 then -((u / 2 : Nat) : Int) - 1 else ((u / 2 : Nat) : Int)
theorem zz_lt {n : Int} (h : -9223372036854775808 ≤ n) (h' : n ≤ 9223372036854775807) : zz n < 18446744073709551616 := by unfold zz; split <;> omega
theorem unz_zz (n : Int) : unz (zz n) = n := by unfold unz zz; split <;> split <;> omega
theorem unz_range {u : Nat} (h : u < 18446744073709551616) : -9223372036854775808 ≤ unz u ∧ unz u ≤ 9223372036854775807 := by unfold unz; split <;> omega
theorem xor_ones (x : BitVec 64) : x ^^^ BitVec.ofInt 64 18446744073709551615 = ~~~x := by
  rw [show BitVec.ofInt 64 18446744073709551615 = BitVec.allOnes 64 by decide, BitVec.xor_allOnes]
theorem xor_ones' (x : BitVec 64) : x ^^^ BitVec.ofInt 64 (-1) = ~~~x := by
  rw [show BitVec.ofInt 64 (-1) = BitVec.allOnes 64 by decide, BitVec.xor_allOnes]
theorem fdiv63 {n : Int} (h : -9223372036854775808 ≤ n) (h' : n ≤ 9223372036854775807) : n.fdiv ((2 : Int) ^ (63 : Nat)) = if n < 0 then -1 else 0 := by
  rw [Int.fdiv_eq_ediv_of_nonneg _ (by decide), show (2 : Int) ^ 63 = 9223372036854775808 by decide]
  split <;> omega
theorem xor_zz {n : Int} (h : -9223372036854775808 ≤ n) (h' : n ≤ 9223372036854775807) :
    bits .xor .u64 (IntKind.u64.wrap (IntKind.u64.wrap n * (2 : Int) ^ (1 : Nat))) (IntKind.u64.wrap (n.fdiv ((2 : Int) ^ (63 : Nat)))) = ((zz n : Nat) : Int) := by
  rw [fdiv63 h h']
  have h2 : ∀ x y : Int, bits .xor .u64 x y = IntKind.u64.wrap ((BitVec.ofInt 64 x ^^^ BitVec.ofInt 64 y).toNat : Nat) := fun _ _ => rfl
  rw [h2]
  simp only [wrap_u64]
  unfold zz
  split
  · rw [show (-1 : Int) % 18446744073709551616 = 18446744073709551615 by decide, xor_ones, BitVec.toNat_not, toNat_ofInt]
    omega
  · rw [show (0 : Int) % 18446744073709551616 = 0 by decide, show BitVec.ofInt 64 0 = 0#64 by decide, BitVec.xor_zero, toNat_ofInt]
    omega
theorem xor_unz {u : Nat} (h : u < 18446744073709551616) :
    bits .xor .i64 (IntKind.i64.wrap ((u : Int).fdiv ((2 : Int) ^ (1 : Nat)))) (IntKind.i64.wrap ((0 : Int) - IntKind.i64.wrap (bits .and .u64 (u : Int) (1 : Int)))) = unz u := by
  have h2 : ∀ x y : Int, bits .xor .i64 x y = IntKind.i64.wrap ((BitVec.ofInt 64 x ^^^ BitVec.ofInt 64 y).toNat : Nat) := fun _ _ => rfl
  have h3 : bits .and .u64 (u : Int) (1 : Int) = ((u % 2 : Nat) : Int) := by
    have : bits .and .u64 (u : Int) (1 : Int) = IntKind.u64.wrap ((BitVec.ofInt 64 (u : Int) &&& BitVec.ofInt 64 1).toNat : Nat) := rfl
    rw [this, BitVec.toNat_and, toNat_ofInt, toNat_ofInt, show ((u : Int) % 18446744073709551616).toNat = u by omega, show ((1 : Int) % 18446744073709551616).toNat = 1 by decide]
    rw [show u &&& 1 = u % 2 from Nat.and_one_is_mod u]
    exact wrap_u64_id (by omega) (by omega)
  have hf : (u : Int).fdiv ((2 : Int) ^ (1 : Nat)) = ((u / 2 : Nat) : Int) := by
    rw [Int.fdiv_eq_ediv_of_nonneg _ (by decide)]; omega
  rw [h3, hf, wrap_i64 ((u / 2 : Nat) : Int) (by omega) (by omega), wrap_i64 ((u % 2 : Nat) : Int) (by omega) (by omega), wrap_i64 _ (by omega) (by omega), h2]
  unfold unz
  split
  · rename_i h4
    rw [h4, show (0 : Int) - ((1 : Nat) : Int) = -1 by decide, xor_ones', BitVec.toNat_not, toNat_ofInt]
    have : (2 : Nat) ^ 64 - 1 - (((u / 2 : Nat) : Int) % 18446744073709551616).toNat = 18446744073709551615 - u / 2 := by omega
    rw [this]
    have e : IntKind.i64.wrap ((18446744073709551615 - u / 2 : Nat) : Int) = -((u / 2 : Nat) : Int) - 1 := by
      have e : IntKind.i64.wrap ((18446744073709551615 - u / 2 : Nat) : Int) = if decide (((18446744073709551615 - u / 2 : Nat) : Int) % 18446744073709551616 ≥ (9223372036854775808 : Int)) = true then ((18446744073709551615 - u / 2 : Nat) : Int) % 18446744073709551616 - 18446744073709551616 else ((18446744073709551615 - u / 2 : Nat) : Int) % 18446744073709551616 := by
        simp [IntKind.wrap, IntKind.signed, IntKind.bits]
      rw [e]
      split <;> rename_i hh <;> simp only [decide_eq_true_eq] at hh <;> omega
    exact e
  · have h4 : u % 2 = 0 := by omega
    rw [h4, show (0 : Int) - ((0 : Nat) : Int) = 0 by decide, show BitVec.ofInt 64 0 = 0#64 by decide, BitVec.xor_zero, toNat_ofInt]
    rw [show (((u / 2 : Nat) : Int) % 18446744073709551616).toNat = u / 2 by omega]
    exact wrap_i64 _ (by omega) (by omega)
end Go.Proofs.Ythmocicjocjdoaa.V
