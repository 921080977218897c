/- What any steps make of any schema, or which one is wrong first, is as the document says; what comes of a step is right and of the same version, and what the step does not name stays as it is. -/
import Derived.Test.YtalpknofimglbaaRows
import Derived.JoinedCond
import Derived.SizedLaws
import Derived.Test.YtalpknofimglbaaNd
set_option linter.unusedVariables false
set_option linter.unusedSimpArgs false
namespace Go.Proofs.Ytalpknofimglbaa.V
open Go
open AV (int lst agg str bool ref clo)
open List (map)
abbrev penA (b : List AV) (e : Int) : List (Nat × List AV) := [(0, [.lst (.own (.E 0 0)) 1 b, .int .i64 e])]
abbrev penV (b : List UInt8) (e : Int) : List (Nat × List AV) := penA (encB b) e
def s_put {α : Type} (A : Alg α) (b : List AV) (m : List AV) (e : Int) (kc : List AV → List (Nat × List AV) → α) : α :=
  A.chk (decide ((b.length + m.length) * 1 ≤ 211106232532992)) (A.chk true (kc [] [(0, [lst (.own (.E 0 0)) 1 (b ++ m), int .i64 e])]))
def s_groups {α : Type} (A : Alg α) (b : List AV) (u : Int) (e : Int) (kc : List AV → List (Nat × List AV) → α) : α :=
  A.loop 0 [int .u64 u] [[lst (.own (.O 0 0)) 1 b, int .i64 e]] fun j0 l1 l2 => bif (j0.beq 1) then (asC A l1 fun v3 l4 => asI A .u64 v3 fun n5 => asN A l4 (asC A l2 fun l6 l7 => asC A l6 fun v8 l9 => asOwn A 1 v8 fun x10 l11 => bif (x10.beq (.O (0 : Nat) (0 : Nat))) then (asC A l9 fun v12 l13 => asI A .i64 v12 fun n14 => asN A l13 (asN A l7 (A.call 101 [ref 0 0, lst .ro 1 [int .u8 (IntKind.u8.wrap n5)]] [(0, [lst (.own (.E 0 0)) 1 l11, int .i64 n14])] fun l15 l16 => asC A l16 fun x17 l18 => bif (x17.1.beq 0) then (asC A x17.2 fun v19 l20 => asOwn A 1 v19 fun x21 l22 => asC A l20 fun v23 l24 => asI A .i64 v23 fun n25 => asN A l24 (asN A l15 (asN A l18 (kc [] [(0, [lst (.own (.E 0 0)) 1 l22, int .i64 n25])])))) else A.fail))) else A.fail)) else A.fail
def s_groupsL {α : Type} (A : Alg α) (b : List AV) (u : Int) (e : Int) (next : List AV → List (List AV) → α) (kc : Nat → List AV → List (List AV) → α) : α :=
  bif (decide (u ≥ (128 : Int))) then (A.call 101 [ref 0 0, lst .ro 1 [int .u8 (bits Go.BinOp.or IntKind.u8 (IntKind.u8.wrap u) (128 : Int))]] [(0, [lst (.own (.E 0 0)) 1 b, int .i64 e])] fun l0 l1 => asC A l1 fun x2 l3 => bif (x2.1.beq 0) then (asC A x2.2 fun v4 l5 => asOwn A 1 v4 fun x6 l7 => asC A l5 fun v8 l9 => asI A .i64 v8 fun n10 => asN A l9 (asN A l0 (asN A l3 (A.chk true (next [int .u64 (u.fdiv ((2 : Int) ^ (7 : Nat)))] [[lst (.own (.O 0 0)) 1 l7, int .i64 n10]]))))) else A.fail) else (kc 1 [int .u64 u] [[lst (.own (.O 0 0)) 1 b, int .i64 e]])
def s_PCount {α : Type} (A : Alg α) (b : List AV) (n : Int) (e : Int) (kc : List AV → List (Nat × List AV) → α) : α :=
  bif (decide (n < (0 : Int))) then (A.chk true (kc [] [(0, [lst (.own (.E 0 0)) 1 b, int .i64 2])])) else (A.call 80 [ref 0 0, int .u64 (IntKind.u64.wrap n)] [(0, [lst (.own (.E 0 0)) 1 b, int .i64 e])] fun l0 l1 => asC A l1 fun x2 l3 => bif (x2.1.beq 0) then (asC A x2.2 fun v4 l5 => asOwn A 1 v4 fun x6 l7 => asC A l5 fun v8 l9 => asI A .i64 v8 fun n10 => asN A l9 (asN A l0 (asN A l3 (kc [] [(0, [lst (.own (.E 0 0)) 1 l7, int .i64 n10])])))) else A.fail)
def s_PNum {α : Type} (A : Alg α) (b : List AV) (n : Int) (e : Int) (kc : List AV → List (Nat × List AV) → α) : α :=
  A.chk true (A.chk true (A.call 80 [ref 0 0, int .u64 (bits Go.BinOp.xor IntKind.u64 (IntKind.u64.wrap (IntKind.u64.wrap n * (2 : Int) ^ (1 : Nat))) (IntKind.u64.wrap (n.fdiv ((2 : Int) ^ (63 : Nat)))))] [(0, [lst (.own (.E 0 0)) 1 b, int .i64 e])] fun l0 l1 => asC A l1 fun x2 l3 => bif (x2.1.beq 0) then (asC A x2.2 fun v4 l5 => asOwn A 1 v4 fun x6 l7 => asC A l5 fun v8 l9 => asI A .i64 v8 fun n10 => asN A l9 (asN A l0 (asN A l3 (kc [] [(0, [lst (.own (.E 0 0)) 1 l7, int .i64 n10])])))) else A.fail))
def s_CloneB {α : Type} (A : Alg α) (b : List UInt8) (kc : List AV → List (Nat × List AV) → α) : α :=
  nilEq A Md.ro (encB b) fun b0 => bif b0 then (kc [lst .ro 1 []] []) else (A.chk (decide (((0 : Nat) + (encB b).length) * 1 ≤ 211106232532992)) (kc [lst .ro 1 ([] ++ encB b)] []))
def s_PDone {α : Type} (A : Alg α) (b : List AV) (e : Int) (kc : List AV → List (Nat × List AV) → α) : α :=
  bif (e != (0 : Int)) then (kc [lst .ro 1 [], int .i64 e] [(0, [lst (.own (.E 0 0)) 1 b, int .i64 e])]) else (A.callx 82 [lst .ro 1 b] fun l0 => asC A l0 fun v1 l2 => asL A 1 v1 fun l3 => asN A l2 (kc [lst .ro 1 l3, int .i64 0] [(0, [lst (.own (.E 0 0)) 1 b, int .i64 e])]))
def s_New {α : Type} (A : Alg α) (kc : List AV → List (Nat × List AV) → α) : α :=
  A.chk true (kc [ref 64 0] [(64, [lst (.own (.E 64 0)) 1 [], int .i64 0])])
theorem t_put (b m : List AV) (e : Int) {r : CR} (h : s_put (OA (tbl E0) (ltbl E0 101 0)) b m e (fun r o => some (r, o)) = some r) : tbl E0 101 [.ref 0 0, .lst .ro 1 m] (penA b e) = some r :=
  tbl_of (body := bodyOf Try.f101) Try.func101 (by kernel_rfl) (by kernel_rfl) (by kernel_rfl) (Eq.trans (by kernel_rfl) h)
theorem t_groups (b : List AV) (u : Int) (e : Int) {r : CR} (h : s_groups (OA (tbl E0) (ltbl E0 80 0)) b u e (fun r o => some (r, o)) = some r) : tbl E0 80 [.ref 0 0, .int .u64 u] (penA b e) = some r :=
  tbl_of (body := bodyOf Try.f80) Try.func80 (by kernel_rfl) (by kernel_rfl) (by kernel_rfl) (Eq.trans (by kernel_rfl) h)
theorem t_groupsL (b : List AV) (u : Int) (e : Int) {r : LR} (h : s_groupsL (OA (tbl E0) (ltbl E0 80 0)) b u e (fun vs os => ltbl E0 80 0 0 vs os) (fun j vs os => some (j, vs, os)) = some r) : ltbl E0 80 0 0 [.int .u64 u] [[.lst (.own (.O 0 0)) 1 b, .int .i64 e]] = some r :=
  ltbl_of (body := bodyOf Try.f80) Try.func80 (by kernel_rfl) (by kernel_rfl) (Eq.trans (by kernel_rfl) h)
theorem t_PCount (b : List AV) (n : Int) (e : Int) {r : CR} (h : s_PCount (OA (tbl E0) (ltbl E0 47 0)) b n e (fun r o => some (r, o)) = some r) : tbl E0 47 [.ref 0 0, .int .i64 n] (penA b e) = some r :=
  tbl_of (body := bodyOf Try.f47) Try.func47 (by kernel_rfl) (by kernel_rfl) (by kernel_rfl) (Eq.trans (by kernel_rfl) h)
theorem t_PNum (b : List AV) (n : Int) (e : Int) {r : CR} (h : s_PNum (OA (tbl E0) (ltbl E0 81 0)) b n e (fun r o => some (r, o)) = some r) : tbl E0 81 [.ref 0 0, .int .i64 n] (penA b e) = some r :=
  tbl_of (body := bodyOf Try.f81) Try.func81 (by kernel_rfl) (by kernel_rfl) (by kernel_rfl) (Eq.trans (by kernel_rfl) h)
theorem t_CloneB (b : List UInt8) {r : CR} (h : s_CloneB (OA (tbl E0) (ltbl E0 82 0)) b (fun r o => some (r, o)) = some r) : tbl E0 82 [.lst .ro 1 (encB b)] [] = some r :=
  tbl_of (body := bodyOf Try.f82) Try.func82 (by kernel_rfl) (by kernel_rfl) (by kernel_rfl) (Eq.trans (by kernel_rfl) h)
theorem t_PDone (b : List AV) (e : Int) {r : CR} (h : s_PDone (OA (tbl E0) (ltbl E0 49 0)) b e (fun r o => some (r, o)) = some r) : tbl E0 49 [.ref 0 0] (penA b e) = some r :=
  tbl_of (body := bodyOf Try.f49) Try.func49 (by kernel_rfl) (by kernel_rfl) (by kernel_rfl) (Eq.trans (by kernel_rfl) h)
theorem t_New  {r : CR} (h : s_New (OA (tbl E0) (ltbl E0 46 0))  (fun r o => some (r, o)) = some r) : tbl E0 46 [] [] = some r :=
  tbl_of (body := bodyOf Try.f46) Try.func46 (by kernel_rfl) (by kernel_rfl) (by kernel_rfl) (Eq.trans (by kernel_rfl) h)
end Go.Proofs.Ytalpknofimglbaa.V
namespace Go.Proofs.Ytalpknofimglbaa.V
open Go
open AV (int lst agg str bool ref clo)
open List (map)
end Go.Proofs.Ytalpknofimglbaa.V
namespace Go.Proofs.Ytalpknofimglbaa.V
open Go
def cnt (u : Nat) : List UInt8 := if u < 128 then [byt u] else byt (u % 128 + 128) :: cnt (u / 128)
termination_by u
decreasing_by omega
def cntI (u : Nat) : List UInt8 := if u < 128 then [] else byt (u % 128 + 128) :: cntI (u / 128)
termination_by u
decreasing_by omega
def cntL (u : Nat) : Nat := if u < 128 then u else cntL (u / 128)
termination_by u
decreasing_by omega
theorem cnt_eq (u : Nat) : cnt u = cntI u ++ [byt (cntL u)] := by
  induction u using cnt.induct with
  | case1 u h => rw [cnt, cntI, cntL]; simp [h]
  | case2 u h ih => rw [cnt, cntI, cntL]; simp [h, ih]
theorem cntL_lt (u : Nat) : cntL u < 128 := by
  induction u using cntL.induct with
  | case1 u h => rw [cntL]; simp [h]
  | case2 u h ih => rw [cntL]; simp [h, ih]
theorem cnt_len (k u : Nat) (h : u < 128 ^ (k + 1)) : (cnt u).length ≤ k + 1 := by
  induction k generalizing u with
  | zero => rw [cnt]; simp at h; simp [h]
  | succ k ih =>
    rw [cnt]
    split
    · simp
    · have : u / 128 < 128 ^ (k + 1) := by rw [Nat.div_lt_iff_lt_mul (by omega)]; rw [Nat.pow_succ] at h; exact h
      have := ih _ this
      simp; omega
theorem cnt_len10 {u : Nat} (h : u < 18446744073709551616) : (cnt u).length ≤ 10 := cnt_len 9 u (Nat.lt_of_lt_of_le h (by decide))
theorem cntI_len {u : Nat} (h : u < 18446744073709551616) : (cntI u).length + 1 ≤ 10 := by
  have := cnt_len10 h
  rw [cnt_eq] at this
  simpa using this
theorem c_put (b m : List AV) (e : Int) (h : b.length + m.length ≤ 211106232532992) : tbl E0 101 [.ref 0 0, .lst .ro 1 m] (penA b e) = some ([], penA (b ++ m) e) :=
  t_put b m e (by simp [s_put, h, penA])
theorem fdiv7 (u : Nat) : (u : Int).fdiv ((2 : Int) ^ (7 : Nat)) = ((u / 128 : Nat) : Int) := by
  rw [Int.fdiv_eq_ediv_of_nonneg _ (by decide)]; omega
theorem or128' (u : Nat) : bits .or .u8 (IntKind.u8.wrap (u : Int)) 128 = ((u % 128 + 128 : Nat) : Int) := by
  rw [wrap_u8, show (u : Int) % 256 = ((u % 256 : Nat) : Int) by omega, or128 _ (by omega)]
  have : u % 256 % 128 = u % 128 := by omega
  rw [this]
theorem c_pgroupsL (u : Nat) : ∀ (b : List AV) (e : Int), u < 18446744073709551616 → b.length + (cntI u).length ≤ 211106232532992 → ltbl E0 80 0 0 [.int .u64 u] [[.lst (.own (.O 0 0)) 1 b, .int .i64 e]] = some (1, [.int .u64 (cntL u : Nat)], [[.lst (.own (.O 0 0)) 1 (b ++ encB (cntI u)), .int .i64 e]]) := by
  induction u using cnt.induct with
  | case1 u h =>
    intro b e hu hb
    refine t_groupsL b u e ?_
    rw [cntL, cntI]
    have : ¬ (128 : Int) ≤ (u : Int) := by omega
    simp [s_groupsL, h, this, encB_nil]
  | case2 u h ih =>
    intro b e hu hb
    refine t_groupsL b u e ?_
    rw [cntI] at hb
    simp only [h, if_false, List.length_cons] at hb
    rw [cntL, cntI]
    have h1 : (128 : Int) ≤ (u : Int) := by omega
    have hp := c_put b [.int .u8 ((u % 128 + 128 : Nat) : Int)] e (by simp; omega)
    simp only [penA] at hp
    have h2 := ih (b ++ [.int .u8 ((u % 128 + 128 : Nat) : Int)]) e (by omega) (by simp; omega)
    simp only [s_groupsL, or128', fdiv7]
    simp only [ge_iff_le, h1, decide_true, cond_true, OA_call, hp, Option.bind_some, u_asC, u_asOwn, u_asI, u_asN, OA_chk, Nat.beq_eq_true_eq, h2, h, if_false]
    simp only [encB_cons, byt_toNat (show u % 128 + 128 < 256 by omega), List.append_assoc, List.singleton_append]
    rfl
theorem c_pgroups (b : List AV) (u : Nat) (e : Int) (hu : u < 18446744073709551616) (hb : b.length + 10 ≤ 211106232532992) : tbl E0 80 [.ref 0 0, .int .u64 u] (penA b e) = some ([], penA (b ++ encB (cnt u)) e) :=
  t_groups b u e (by
    have hl := cntI_len hu
    have h1 := c_pgroupsL u b e hu (by omega)
    have h2 := c_put (b ++ encB (cntI u)) [.int .u8 (cntL u : Nat)] e (by simp; omega)
    have h3 := cntL_lt u
    simp only [penA] at h2
    simp [s_groups, h1, wrap_u8_id (show (0 : Int) ≤ (cntL u : Nat) by omega) (by omega), h2, penA, cnt_eq, encB_append, encB_cons, encB_nil, byt_toNat (show cntL u < 256 by omega)])
end Go.Proofs.Ytalpknofimglbaa.V
namespace Go.Proofs.Ytalpknofimglbaa.V
open Go
theorem c_PCount (b : List AV) (n e : Int) (hb : b.length + 10 ≤ 211106232532992) (hn : n ≤ 9223372036854775807) : tbl E0 47 [.ref 0 0, .int .i64 n] (penA b e) = some ([], if n < 0 then penA b 2 else penA (b ++ encB (cnt n.toNat)) e) :=
  t_PCount b n e (by
    by_cases h : n < 0
    · simp [s_PCount, h]
    · have h1 := c_pgroups b n.toNat e (by omega) hb
      rw [Int.toNat_of_nonneg (by omega)] at h1
      simp [s_PCount, h, wrap_u64_id (show 0 ≤ n by omega) (by omega), h1])
theorem c_PNum (b : List AV) (n e : Int) (hb : b.length + 10 ≤ 211106232532992) (h : -9223372036854775808 ≤ n) (h' : n ≤ 9223372036854775807) : tbl E0 81 [.ref 0 0, .int .i64 n] (penA b e) = some ([], penA (b ++ encB (cnt (zz n))) e) :=
  t_PNum b n e (by simp [s_PNum, xor_zz h h', c_pgroups b (zz n) e (zz_lt h h') hb, -Int.reducePow])
theorem c_CloneB (b : List UInt8) (hb : b.length ≤ 211106232532992) : tbl E0 82 [.lst .ro 1 (encB b)] [] = some ([.lst .ro 1 (encB b)], []) :=
  t_CloneB b (by
    unfold s_CloneB
    cases b with
    | nil => exact OA_amb_same fun b => by cases b <;> rfl
    | cons c l => simp only [encB_cons, u_nil_cons, cond_false, List.length_cons, encB_length, OA_chk]; simp at hb; simp [hb])
theorem c_PDone (b : List UInt8) (e : Int) (hb : b.length ≤ 211106232532992) : tbl E0 49 [.ref 0 0] (penV b e) = some ([.lst .ro 1 (if e = 0 then encB b else []), .int .i64 e], penV b e) :=
  t_PDone (encB b) e (by
    by_cases h : e = 0
    · subst h; simp [s_PDone, c_CloneB b hb]
    · simp [s_PDone, h, bne_t h])
theorem c_New : tbl E0 46 [] [] = some ([.ref 64 0], [(64, [.lst (.own (.E 64 0)) 1 [], .int .i64 0])]) := t_New rfl
end Go.Proofs.Ytalpknofimglbaa.V
namespace Go.Proofs.Ytalpknofimglbaa.V
open Go
end Go.Proofs.Ytalpknofimglbaa.V
namespace Go.Proofs.Ytalpknofimglbaa.V
open Go
end Go.Proofs.Ytalpknofimglbaa.V
namespace Go.Proofs.Ytalpknofimglbaa.V
open Go
end Go.Proofs.Ytalpknofimglbaa.V
namespace Go.Proofs.Ytalpknofimglbaa.V
open Go
end Go.Proofs.Ytalpknofimglbaa.V
namespace Go.Proofs.Ytalpknofimglbaa.V
open Go
theorem rgtS_1 {f : Fld} (k : f.kind = 1) : rgtS f = (decide (0 ≤ f.id) && (decide (f.id ≤ 255) && (decide (-1099511627776 ≤ f.lo) && (decide (f.lo ≤ f.hi) && (decide (f.hi ≤ 1099511627776) && decide (f.most = 0)))))) := by
  simp [rgtS, k, Bool.and_assoc, Bool.decide_and]
theorem rgtS_2 {f : Fld} (k : f.kind = 2) : rgtS f = (decide (0 ≤ f.id) && (decide (f.id ≤ 255) && (decide (f.lo = 0) && (decide (f.hi = 0) && decide (f.most = 0))))) := by
  simp [rgtS, k, Bool.and_assoc, Bool.decide_and]
theorem rgtS_3 {f : Fld} (k : f.kind = 3) : rgtS f = (decide (0 ≤ f.id) && (decide (f.id ≤ 255) && (decide (f.lo = 0) && (decide (f.hi = 0) && (decide (1 ≤ f.most) && decide (f.most ≤ 1000)))))) := by
  simp [rgtS, k, Bool.and_assoc, Bool.decide_and]
theorem rgtS_4 {f : Fld} (k : f.kind = 4) : rgtS f = (decide (0 ≤ f.id) && (decide (f.id ≤ 255) && (decide (f.lo = 0) && (decide (f.hi = 0) && (decide (0 ≤ f.most) && decide (f.most ≤ 32)))))) := by
  simp [rgtS, k, Bool.and_assoc, Bool.decide_and]
theorem rgtS_0 {f : Fld} (k1 : f.kind ≠ 1) (k2 : f.kind ≠ 2) (k3 : f.kind ≠ 3) (k4 : f.kind ≠ 4) : rgtS f = false := by
  simp [rgtS, k1, k2, k3, k4]
theorem c_fRight (f : Fld) : tbl E0 89 [fldV f] [] = some ([.bool (rgtS f)], []) :=
  t_fRight f (by
    unfold s_fRight
    by_cases i0 : f.id < 0
    · have : rgtS f = false := by have : ¬ (0 ≤ f.id) := by omega
                                  simp [rgtS, this]
      simp [i0, this]
    · by_cases i1 : 255 < f.id
      · have : rgtS f = false := by have : ¬ (f.id ≤ 255) := by omega
                                    simp [rgtS, this]
        simp [i0, i1, this]
      · have j0 : 0 ≤ f.id := by omega
        have j1 : f.id ≤ 255 := by omega
        simp only [OA_chk, cond_true, OA_join, i0, decide_false, cond_false, show ¬ (f.id > 255) from i1, Option.bind_some, Tok.untok_tok, tok_cond]
        by_cases k1 : f.kind = 1
        · rw [rgtS_1 k1]
          by_cases a : -1099511627776 ≤ f.lo <;> by_cases b : f.lo ≤ f.hi <;> by_cases c : f.hi ≤ 1099511627776 <;> by_cases d : f.lo = 0 <;> by_cases e : f.most = 0 <;> simp [*]
        · by_cases k2 : f.kind = 2
          · rw [rgtS_2 k2]
            by_cases a : f.lo = 0 <;> by_cases b : f.hi = 0 <;> by_cases e : f.most = 0 <;> simp [*]
          · by_cases k3 : f.kind = 3
            · rw [rgtS_3 k3]
              by_cases a : f.lo = 0 <;> by_cases b : f.hi = 0 <;> by_cases c : 1 ≤ f.most <;> simp [*]
            · by_cases k4 : f.kind = 4
              · rw [rgtS_4 k4]
                by_cases a : f.lo = 0 <;> by_cases b : f.hi = 0 <;> by_cases c : 0 ≤ f.most <;> simp [*]
              · rw [rgtS_0 k1 k2 k3 k4]
                by_cases a : f.lo = 0 <;> simp [*])
theorem c_fbounds (f : Fld) (h : f.kind = 3 → rgtS f = true) : tbl E0 104 [fldV f] [] = some ([.int .i64 (loS f), .int .i64 (hiS f)], []) :=
  t_fbounds f (by
    unfold s_fbounds
    by_cases k1 : f.kind = 1
    · simp [k1, loS, hiS]
    · by_cases k2 : f.kind = 2
      · simp [k2, loS, hiS]
      · by_cases k3 : f.kind = 3
        · have h' := h k3
          rw [rgtS_3 k3] at h'
          simp only [Bool.and_eq_true, decide_eq_true_eq] at h'
          rw [wrap_i64 _ (by omega) (by omega)]
          simp [k3, loS, hiS]
        · simp [k1, k2, k3, loS, hiS])
theorem c_fwidthL (n : Nat) : ∀ (w : Nat), n < 9223372036854775808 → w + n < 9223372036854775808 → ltbl E0 110 0 2 [.int .i64 (n : Int), .int .i64 (w : Int)] [] = some (1, [.int .i64 ((w + wdS n : Nat) : Int)], []) := by
  induction n using wdS.induct with
  | case1 =>
    intro w hn hw
    exact t_fwidthL _ _ (by rw [wdS]; simp [s_fwidthL])
  | case2 n h ih =>
    intro w hn hw
    refine t_fwidthL _ _ ?_
    have h0 : (n : Int) > 0 := by omega
    have e : (n : Int).fdiv ((2 : Int) ^ (8 : Nat)) = ((n / 256 : Nat) : Int) := by rw [Int.fdiv_eq_ediv_of_nonneg _ (by decide)]; omega
    have e2 : IntKind.i64.wrap ((w : Int) + 1) = ((w + 1 : Nat) : Int) := by rw [wrap_i64 _ (by omega) (by omega)]; omega
    have e3 : wdS n = wdS (n / 256) + 1 := by rw [wdS]; simp [h]
    have := ih (w + 1) (by omega) (by omega)
    rw [e3, show w + (wdS (n / 256) + 1) = w + 1 + wdS (n / 256) by omega, ← this]
    simp only [s_fwidthL, h0, decide_true, cond_true, OA_chk, e, e2]
theorem c_fwidth (n : Int) (h : n < 9223372036854775808) : tbl E0 110 [.int .i64 n] [] = some ([.int .i64 (wdS n.toNat : Nat)], []) :=
  t_fwidth n (by
    by_cases h0 : 0 ≤ n
    · have := c_fwidthL n.toNat 0 (by omega) (by omega)
      rw [show (n.toNat : Int) = n by omega] at this
      simp only [Int.natCast_zero] at this
      simp [s_fwidth, this]
    · have e : ltbl E0 110 0 2 [.int .i64 n, .int .i64 0] [] = some (1, [.int .i64 0], []) := t_fwidthL _ _ (by
        have : ¬ (0 < n) := by omega
        simp [s_fwidthL, this])
      have e0 : n.toNat = 0 := by omega
      rw [e0, wdS]
      simp [s_fwidth, e])
theorem c_ywideL (n : Nat) : ∀ (w : Nat), n < 9223372036854775808 → w + n < 9223372036854775808 → ltbl E0 107 0 2 [.int .i64 (n : Int), .int .i64 (w : Int)] [] = some (1, [.int .i64 ((w + wdS n : Nat) : Int)], []) := by
  induction n using wdS.induct with
  | case1 =>
    intro w hn hw
    exact t_ywideL _ _ (by rw [wdS]; simp [s_ywideL])
  | case2 n h ih =>
    intro w hn hw
    refine t_ywideL _ _ ?_
    have h0 : (n : Int) > 0 := by omega
    have e : IntKind.i64.wrap ((n : Int).tdiv 256) = ((n / 256 : Nat) : Int) := by
      have e1 : (n : Int).tdiv 256 = ((n / 256 : Nat) : Int) := by rw [Int.tdiv_eq_ediv_of_nonneg (by omega)]; omega
      rw [e1, wrap_i64 _ (by omega) (by omega)]
    have e2 : IntKind.i64.wrap ((w : Int) + 1) = ((w + 1 : Nat) : Int) := by rw [wrap_i64 _ (by omega) (by omega)]; omega
    have e3 : wdS n = wdS (n / 256) + 1 := by rw [wdS]; simp [h]
    have := ih (w + 1) (by omega) (by omega)
    rw [e3, show w + (wdS (n / 256) + 1) = w + 1 + wdS (n / 256) by omega, ← this]
    simp only [s_ywideL, h0, decide_true, cond_true, OA_chk, e, e2]
theorem c_ywide (n : Int) (h : n < 9223372036854775808) : tbl E0 107 [.int .i64 n] [] = some ([.int .i64 (wdS n.toNat : Nat)], []) :=
  t_ywide n (by
    by_cases h0 : 0 ≤ n
    · have := c_ywideL n.toNat 0 (by omega) (by omega)
      rw [show (n.toNat : Int) = n by omega] at this
      simp only [Int.natCast_zero] at this
      simp [s_ywide, this]
    · have e : ltbl E0 107 0 2 [.int .i64 n, .int .i64 0] [] = some (1, [.int .i64 0], []) := t_ywideL _ _ (by
        have : ¬ (0 < n) := by omega
        simp [s_ywideL, this])
      have e0 : n.toNat = 0 := by omega
      rw [e0, wdS]
      simp [s_ywide, e])
theorem rgt_rng {f : Fld} (h : rgtS f = true) : 0 ≤ f.id ∧ f.id ≤ 255 ∧ (f.kind = 1 ∨ f.kind = 2 ∨ f.kind = 3 ∨ f.kind = 4) ∧ 0 ≤ hiS f - loS f ∧ hiS f - loS f ≤ 2199023255552 ∧ (f.kind ≠ 1 → f.lo = 0 ∧ f.hi = 0) ∧ (f.kind = 1 → -1099511627776 ≤ f.lo ∧ f.lo ≤ f.hi ∧ f.hi ≤ 1099511627776 ∧ f.most = 0) ∧ 0 ≤ f.most ∧ f.most ≤ 1000 ∧ (f.kind = 4 → f.most ≤ 32) ∧ (f.kind = 3 → 1 ≤ f.most) ∧ (f.kind = 2 → f.most = 0) := by
  by_cases k1 : f.kind = 1
  · rw [rgtS_1 k1] at h; simp [k1, loS, hiS] at h ⊢; omega
  · by_cases k2 : f.kind = 2
    · rw [rgtS_2 k2] at h; simp [k2, loS, hiS] at h ⊢; omega
    · by_cases k3 : f.kind = 3
      · rw [rgtS_3 k3] at h; simp [k3, loS, hiS] at h ⊢; omega
      · by_cases k4 : f.kind = 4
        · rw [rgtS_4 k4] at h; simp [k4, loS, hiS] at h ⊢; omega
        · rw [rgtS_0 k1 k2 k3 k4] at h; cases h
theorem c_fwide (f : Fld) (h : rgtS f = true) : tbl E0 108 [fldV f] [] = some ([.int .i64 (wdS (hiS f - loS f).toNat : Nat)], []) :=
  t_fwide f (by
    have r := rgt_rng h
    have e := c_fbounds f (fun _ => h)
    have e2 := c_fwidth (hiS f - loS f) (by omega)
    simp only [s_fwide, OA_chk, cond_true, OA_callx, e, Option.bind_some, u_asC, u_asI, u_asN, wrap_i64 (hiS f - loS f) (by omega) (by omega), e2])
theorem c_fSize (f : Fld) : tbl E0 103 [fldV f] [] = some ([.int .i64 (sizeS f)], []) :=
  t_fSize f (by
    have e := c_fRight f
    simp only [s_fSize, OA_chk, cond_true, OA_callx, e, Option.bind_some, u_asC, u_asB, u_asI, u_asN]
    cases h : rgtS f with
    | false => simp [sizeS, h]
    | true =>
      have r := rgt_rng h
      have e2 := c_fwide f h
      by_cases k4 : f.kind = 4
      · rw [wrap_i64 (f.most + 1) (by omega) (by omega)]
        simp [sizeS, h, k4]
      · by_cases k2 : f.kind = 2
        · simp [sizeS, h, k2, hiS, loS, wdS]
        · simp only [sizeS, h, k4, k2, beq_f k4, beq_f k2, if_true, if_false, Bool.not_true, cond_false, e2, Option.bind_some, u_asC, u_asI, u_asN])
theorem c_ySpan (f : Fld) : ∃ lo hi most, tbl E0 87 [fldV f] [] = some ([.int .i64 lo, .int .i64 hi, .int .i64 most, .bool (rgtS f)], []) ∧ (rgtS f = true → lo = loS f ∧ hi = hiS f ∧ most = if f.kind = 4 then f.most else 0) := by
  by_cases k1 : f.kind = 1
  · refine ⟨f.lo, f.hi, 0, t_ySpan f ?_, fun _ => by simp [k1, loS, hiS]⟩
    rw [rgtS_1 k1]
    simp only [s_ySpan]
    by_cases a : 0 ≤ f.id <;> by_cases b : f.id ≤ 255 <;> by_cases c : -1099511627776 ≤ f.lo <;> by_cases d : f.lo ≤ f.hi <;> by_cases e : f.hi ≤ 1099511627776 <;> by_cases e2 : f.most = 0 <;> simp [*]
  · by_cases k2 : f.kind = 2
    · refine ⟨0, 1, 0, t_ySpan f ?_, fun _ => by simp [k2, loS, hiS]⟩
      rw [rgtS_2 k2]
      simp only [s_ySpan]
      by_cases a : 0 ≤ f.id <;> by_cases b : f.id ≤ 255 <;> by_cases c : f.lo = 0 <;> by_cases d : f.hi = 0 <;> by_cases e2 : f.most = 0 <;> simp [*]
    · by_cases k3 : f.kind = 3
      · refine ⟨0, IntKind.i64.wrap (f.most - 1), 0, t_ySpan f ?_, fun h => ?_⟩
        · rw [rgtS_3 k3]
          simp only [s_ySpan]
          by_cases a : 0 ≤ f.id <;> by_cases b : f.id ≤ 255 <;> by_cases c : f.lo = 0 <;> by_cases d : f.hi = 0 <;> by_cases e : 1 ≤ f.most <;> simp [*]
        · have r := rgt_rng h
          rw [wrap_i64 _ (by omega) (by omega)]
          simp [k3, loS, hiS]
      · by_cases k4 : f.kind = 4
        · refine ⟨0, 0, f.most, t_ySpan f ?_, fun _ => by simp [k4, loS, hiS]⟩
          rw [rgtS_4 k4]
          simp only [s_ySpan]
          by_cases a : 0 ≤ f.id <;> by_cases b : f.id ≤ 255 <;> by_cases c : f.lo = 0 <;> by_cases d : f.hi = 0 <;> by_cases e : 0 ≤ f.most <;> simp [*]
        · refine ⟨0, 0, 0, t_ySpan f ?_, fun h => by rw [rgtS_0 k1 k2 k3 k4] at h; cases h⟩
          rw [rgtS_0 k1 k2 k3 k4]
          simp only [s_ySpan]
          by_cases a : 0 ≤ f.id <;> simp [*]
theorem c_yRight (f : Fld) : tbl E0 62 [fldV f] [] = some ([.bool (rgtS f)], []) := by
  obtain ⟨lo, hi, most, e, _⟩ := c_ySpan f
  exact t_yRight f (by simp only [s_yRight, OA_chk, cond_true, OA_callx, e, Option.bind_some, u_asC, u_asI, u_asB, u_asN])
theorem c_ySize (f : Fld) : tbl E0 102 [fldV f] [] = some ([.int .i64 (sizeS f)], []) := by
  obtain ⟨lo, hi, most, e, h⟩ := c_ySpan f
  refine t_ySize f ?_
  simp only [s_ySize, OA_chk, cond_true, OA_callx, e, Option.bind_some, u_asC, u_asI, u_asB, u_asN]
  cases hr : rgtS f with
  | false => simp [sizeS, hr]
  | true =>
    obtain ⟨rfl, rfl, rfl⟩ := h hr
    have r := rgt_rng hr
    by_cases k4 : f.kind = 4
    · rw [if_pos k4, wrap_i64 (1 + f.most) (by omega) (by omega)]
      simp [sizeS, hr, k4, Int.add_comm]
    · have e2 := c_ywide (hiS f - loS f) (by omega)
      simp only [sizeS, hr, k4, beq_f k4, if_true, if_false, Bool.not_true, cond_false, wrap_i64 (hiS f - loS f) (by omega) (by omega), e2, Option.bind_some, u_asC, u_asI, u_asN]
end Go.Proofs.Ytalpknofimglbaa.V
namespace Go.Proofs.Ytalpknofimglbaa.V
open Go
theorem drop_c {α : Type} {l r : List α} {i : Nat} {a : α} (h : l.drop i = a :: r) : i < l.length ∧ l[i]? = some a ∧ l.drop (i + 1) = r := by
  have hlt : i < l.length := by
    rcases Nat.lt_or_ge i l.length with h' | h'
    · exact h'
    · rw [List.drop_eq_nil_of_le h'] at h; cases h
  rw [List.drop_eq_getElem_cons hlt] at h
  injection h with h1 h2
  exact ⟨hlt, by rw [List.getElem?_eq_getElem hlt, h1], h2⟩
theorem i64_succ {i : Nat} (h : i < 9223372036854775807) : IntKind.i64.wrap ((i : Int) + 1) = ((i + 1 : Nat) : Int) := by rw [wrap_i64 _ (by omega) (by omega)]; omega
theorem wdS_le (k : Nat) : ∀ n, n < 256 ^ k → wdS n ≤ k := by
  induction k with
  | zero => intro n h; simp at h; subst h; rw [wdS]; simp
  | succ k ih =>
    intro n h
    rw [wdS]
    split
    · omega
    · have := ih (n / 256) (by rw [Nat.div_lt_iff_lt_mul (by omega)]; rw [Nat.pow_succ] at h; exact h)
      omega
theorem sizeS_rng (f : Fld) : 0 ≤ sizeS f ∧ sizeS f ≤ 33 := by
  unfold sizeS
  split
  · rename_i h
    have r := rgt_rng h
    split
    · rename_i k; have := r.2.2.2.2.2.2.2.2.2.1 k; omega
    · have := wdS_le 6 (hiS f - loS f).toNat (by have : (256 : Nat) ^ 6 = 281474976710656 := by decide
                                                 omega)
      omega
  · omega
theorem longS_cons (f : Fld) (l : List Fld) : longS (f :: l) = sizeS f + longS l := by simp [longS]
theorem c_sLongL (l : List Fld) (hl : l.length ≤ 211106232532992) : ∀ (r : List Fld) (i : Nat) (n : Int), l.drop i = r → 0 ≤ n → n ≤ 33 * i →
    ltbl E0 88 0 3 [.int .i64 n, fldsV l, .int .i64 l.length, .int .i64 i] [] = some (1, [.int .i64 (n + longS r)], []) := by
  intro r
  induction r with
  | nil =>
    intro i n hr h0 h1
    have h : l.length ≤ i := by simpa using hr
    refine t_sLongL _ _ _ _ ?_
    have : ¬ ((i : Int) < l.length) := by omega
    simp [s_sLongL, this, longS]
  | cons f r ih =>
    intro i n hr h0 h1
    obtain ⟨hlt, hget, hr2⟩ := drop_c hr
    have hs := sizeS_rng f
    have h2 : (i : Int) < l.length := by omega
    have e1 := i64_succ (i := i) (by omega)
    have e2 : IntKind.i64.wrap (n + sizeS f) = n + sizeS f := wrap_i64 _ (by omega) (by omega)
    have h := ih (i + 1) (n + sizeS f) hr2 (by omega) (by omega)
    have c := c_fSize f
    refine t_sLongL _ _ _ _ ?_
    rw [longS_cons, ← Int.add_assoc, ← h]
    simp only [s_sLongL, h2, decide_true, cond_true, OA_chk, Int.natCast_nonneg, nthE, Int.toNat_natCast, List.getElem?_map, hget, Option.map_some, u_asA, u_asC, u_asI, u_asN, OA_callx, c, Option.bind_some, e1, e2]
theorem c_sLong (f : Frm) (h : f.fields.length ≤ 211106232532992) : tbl E0 88 [frmV f] [] = some ([.int .i64 (longS f.fields)], []) :=
  t_sLong f (by
    have e := c_sLongL f.fields h f.fields 0 0 rfl (by omega) (by omega)
    simp only [Int.natCast_zero, Int.zero_add] at e
    simp [s_sLong, e])
theorem c_yLongL (f : Frm) (hl : f.fields.length ≤ 211106232532992) : ∀ (r : List Fld) (i : Nat) (n : Int), f.fields.drop i = r → 0 ≤ n → n ≤ 33 * i →
    ltbl E0 83 0 3 [.int .i64 n, .int .i64 i] [[.int .i64 f.id, fldsV f.fields]] = some (1, [.int .i64 (n + longS r)], []) := by
  intro r
  induction r with
  | nil =>
    intro i n hr h0 h1
    have h : f.fields.length ≤ i := by simpa using hr
    refine t_yLongL _ _ _ ?_
    have : ¬ ((i : Int) < f.fields.length) := by omega
    simp [s_yLongL, this, longS]
  | cons x r ih =>
    intro i n hr h0 h1
    obtain ⟨hlt, hget, hr2⟩ := drop_c hr
    have hs := sizeS_rng x
    have h2 : (i : Int) < f.fields.length := by omega
    have e1 := i64_succ (i := i) (by omega)
    have e2 : IntKind.i64.wrap (n + sizeS x) = n + sizeS x := wrap_i64 _ (by omega) (by omega)
    have h := ih (i + 1) (n + sizeS x) hr2 (by omega) (by omega)
    have c := c_ySize x
    refine t_yLongL _ _ _ ?_
    rw [longS_cons, ← Int.add_assoc, ← h]
    simp only [s_yLongL, OA_asm, List.length_map, h2, decide_true, cond_true, OA_chk, Int.natCast_nonneg, nthE, Int.toNat_natCast, List.getElem?_map, hget, Option.map_some, u_asA, u_asC, u_asI, u_asN, OA_callx, c, Option.bind_some, e1, e2]
theorem c_yLong (f : Frm) (h : f.fields.length ≤ 211106232532992) : tbl E0 83 [frmV f] [] = some ([.int .i64 (longS f.fields)], []) :=
  t_yLong f (by
    have e := c_yLongL f h f.fields 0 0 rfl (by omega) (by omega)
    simp only [Int.natCast_zero, Int.zero_add] at e
    simp [s_yLong, e])
def atS (l : List Fld) (id : Int) : Int := firstS (fun f : Fld => f.id == id) l
def fromS {α : Type} (p : α → Bool) (i : Nat) (l : List α) : LR := match l.findIdx? p with | some j => (0, [.int .i64 ((i + j : Nat) : Int)], []) | none => (1, [], [])
theorem fromS_nil {α : Type} (p : α → Bool) (i : Nat) : fromS p i [] = (1, [], []) := rfl
theorem fromS_cons {α : Type} (p : α → Bool) (i : Nat) (a : α) (l : List α) : fromS p i (a :: l) = if p a then (0, [.int .i64 (i : Int)], []) else fromS p (i + 1) l := by
  unfold fromS
  rw [List.findIdx?_cons]
  cases p a with
  | true => simp
  | false =>
    simp only [Bool.false_eq_true, if_false]
    cases l.findIdx? p with
    | none => rfl
    | some j => simp [Nat.add_assoc, Nat.add_comm 1 j]
theorem c_sAt1 (f : Fld) (id : Int) : tbl E0 94 [fldV f, .rp [.int .i64 id] 0] [] = some ([.bool (f.id == id)], []) := t_sAt1 f id (by simp [s_sAt1])
theorem c_IndexFuncL (l : List Fld) (id : Int) (hl : l.length ≤ 211106232532992) : ∀ (r : List Fld) (i : Nat), l.drop i = r →
    ltbl E0 93 0 2 [fldsV l, .clo 94 [.rp [.int .i64 id] 0], .int .i64 l.length, .int .i64 i] [] = some (fromS (fun f : Fld => f.id == id) i r) := by
  intro r
  induction r with
  | nil =>
    intro i hr
    have h : l.length ≤ i := by simpa using hr
    refine t_IndexFuncL _ _ _ _ ?_
    have : ¬ ((i : Int) < l.length) := by omega
    simp [s_IndexFuncL, this, fromS_nil]
  | cons f r ih =>
    intro i hr
    obtain ⟨hlt, hget, hr2⟩ := drop_c hr
    have h2 : (i : Int) < l.length := by omega
    have e1 := i64_succ (i := i) (by omega)
    have h := ih (i + 1) hr2
    have c := c_sAt1 f id
    refine t_IndexFuncL _ _ _ _ ?_
    rw [fromS_cons]
    simp only [s_IndexFuncL, h2, decide_true, cond_true, OA_chk, Int.natCast_nonneg, nthE, Int.toNat_natCast, List.getElem?_map, hget, Option.map_some, u_asA, u_asC, u_asI, u_asB, u_asN, OA_callx, c, Option.bind_some, e1, h]
    cases f.id == id <;> rfl
theorem c_sAt (f : Frm) (id : Int) (h : f.fields.length ≤ 211106232532992) : tbl E0 69 [frmV f, .int .i64 id] [] = some ([.int .i64 (atS f.fields id)], []) :=
  t_sAt f id (by
    have e : tbl E0 93 [fldsV f.fields, .clo 94 [.rp [.int .i64 id] 0]] [] = some ([.int .i64 (atS f.fields id)], []) := t_IndexFunc f.fields id (by
      have e := c_IndexFuncL f.fields id h f.fields 0 rfl
      simp only [Int.natCast_zero] at e
      simp only [s_IndexFunc, OA_asm, OA_loop, List.length_map, e, Option.bind_some, fromS, atS, firstS]
      cases f.fields.findIdx? (fun f : Fld => f.id == id) <;> simp)
    simp [s_sAt, e])
theorem c_yAtL (f : Frm) (id : Int) (hl : f.fields.length ≤ 211106232532992) : ∀ (r : List Fld) (i : Nat), f.fields.drop i = r →
    ltbl E0 42 0 2 [.int .i64 id, .int .i64 i] [[.int .i64 f.id, fldsV f.fields]] = some (fromS (fun f : Fld => f.id == id) i r) := by
  intro r
  induction r with
  | nil =>
    intro i hr
    have h : f.fields.length ≤ i := by simpa using hr
    refine t_yAtL _ _ _ ?_
    have : ¬ ((i : Int) < f.fields.length) := by omega
    simp [s_yAtL, this, fromS_nil]
  | cons x r ih =>
    intro i hr
    obtain ⟨hlt, hget, hr2⟩ := drop_c hr
    have h2 : (i : Int) < f.fields.length := by omega
    have e1 := i64_succ (i := i) (by omega)
    have h := ih (i + 1) hr2
    refine t_yAtL _ _ _ ?_
    rw [fromS_cons]
    simp only [s_yAtL, OA_asm, List.length_map, h2, decide_true, cond_true, OA_chk, Int.natCast_nonneg, nthE, Int.toNat_natCast, List.getElem?_map, hget, Option.map_some, u_asA, u_asC, u_asI, u_asB, u_asN, e1, h]
    cases x.id == id <;> rfl
theorem c_yAt (f : Frm) (id : Int) (h : f.fields.length ≤ 211106232532992) : tbl E0 42 [frmV f, .int .i64 id] [] = some ([.int .i64 (atS f.fields id)], []) :=
  t_yAt f id (by
    have e := c_yAtL f id h f.fields 0 rfl
    simp only [Int.natCast_zero] at e
    simp only [s_yAt, OA_chk, cond_true, OA_loop, e, Option.bind_some, fromS, atS, firstS]
    cases f.fields.findIdx? (fun f : Fld => f.id == id) <;> simp)
theorem setAt_bool (s : List Bool) (k : Nat) (b : Bool) : setAt (s.map AV.bool) k [AV.bool b] = (s.set k b).map AV.bool := by
  simp [setAt, List.map_set]
theorem all_flat_bool (s : List Bool) : (s.map AV.bool).all AV.flat1 = true := by
  simp [List.all_map, Function.comp_def, AV.flat1]
def freshS : List Bool → List Fld → Bool
  | _, [] => true
  | s, f :: l => rgtS f && !((s[f.id.toNat]?).getD false) && freshS (s.set f.id.toNat true) l
theorem c_sFineL (l : List Fld) (hl : l.length ≤ 211106232532992) : ∀ (r : List Fld) (i : Nat) (s : List Bool), l.drop i = r → s.length = 256 →
    ltbl E0 64 0 5 [fldsV l, .int .i64 l.length, .int .i64 i] [s.map AV.bool] = some (if freshS s r then (1, [], []) else (0, [.bool false], [])) := by
  intro r
  induction r with
  | nil =>
    intro i s hr hs
    have h : l.length ≤ i := by simpa using hr
    refine t_sFineL _ _ _ _ ?_
    have : ¬ ((i : Int) < l.length) := by omega
    simp [s_sFineL, this, freshS]
  | cons f r ih =>
    intro i s hr hs
    obtain ⟨hlt, hget, hr2⟩ := drop_c hr
    have h2 : (i : Int) < l.length := by omega
    have e1 := i64_succ (i := i) (by omega)
    have h := ih (i + 1) (s.set f.id.toNat true) hr2 (by simpa using hs)
    have c := c_fRight f
    refine t_sFineL _ _ _ _ ?_
    simp only [s_sFineL, h2, decide_true, cond_true, OA_chk, Int.natCast_nonneg, nthE, Int.toNat_natCast, List.getElem?_map, hget, Option.map_some, u_asA, u_asC, u_asI, u_asB, u_asN, OA_callx, OA_join, c, Option.bind_some, e1, freshS]
    by_cases hg : rgtS f = true
    · have rr := rgt_rng hg
      have hk : f.id.toNat < s.length := by omega
      have g : s[f.id.toNat]? = some s[f.id.toNat] := List.getElem?_eq_getElem hk
      have a1 : 0 ≤ f.id := rr.1
      have a2 : f.id < ((256 : Nat) : Int) := by omega
      have a3 : 0 + f.id.toNat * 1 = f.id.toNat := by omega
      have a4 : (f.id.toNat + 1).ble (List.map AV.bool s).length = true := by rw [Nat.ble_eq, List.length_map]; omega
      simp only [hg, a1, a2, a3, a4, decide_true, Bool.and_self, cond_true, g, Option.map_some, u_asB, Bool.not_true, cond_false, Option.bind_some, Tok.untok_tok, setAt_bool, all_flat_bool, h, Option.getD_some, Bool.true_and]
      by_cases hb : s[f.id.toNat] = true
      · simp [hb]
      · have hb : s[f.id.toNat] = false := by simpa using hb
        simp [hb]
    · have hg : rgtS f = false := by simpa using hg
      simp [hg]
theorem freshS_iff : ∀ (l : List Fld) (s : List Bool), s.length = 256 → (freshS s l = true ↔ (∀ f ∈ l, rgtS f = true ∧ s[f.id.toNat]? = some false) ∧ nodupI (l.map Fld.id) = true)
  | [], s, _ => by simp [freshS, nodupI]
  | f :: l, s, hs => by
    have ih := freshS_iff l (s.set f.id.toNat true) (by simpa using hs)
    simp only [freshS, Bool.and_eq_true, ih, List.map_cons, nodupI, Bool.not_eq_true', List.mem_cons, forall_eq_or_imp]
    have key : rgtS f = true → ((s[f.id.toNat]?).getD false = false ↔ s[f.id.toNat]? = some false) := by
      intro hg
      have rr := rgt_rng hg
      have hk : f.id.toNat < s.length := by omega
      rw [List.getElem?_eq_getElem hk]
      simp
    have key2 : rgtS f = true → ∀ g, rgtS g = true → ((s.set f.id.toNat true)[g.id.toNat]? = some false ↔ (s[g.id.toNat]? = some false ∧ g.id ≠ f.id)) := by
      intro hg g hgg
      have r1 := rgt_rng hg
      have r2 := rgt_rng hgg
      rw [List.getElem?_set]
      by_cases e : f.id.toNat = g.id.toNat
      · have e' : g.id = f.id := by omega
        rw [if_pos e, if_pos (by omega)]
        simp [e']
      · have e' : g.id ≠ f.id := by omega
        rw [if_neg e]
        simp [e']
    constructor
    · rintro ⟨⟨h1, h2⟩, h3, h4⟩
      refine ⟨⟨⟨h1, (key h1).1 h2⟩, fun g hg => ⟨(h3 g hg).1, ((key2 h1 g (h3 g hg).1).1 (h3 g hg).2).1⟩⟩, ?_, h4⟩
      simp only [List.any_map, List.any_eq_false, Function.comp_apply, beq_iff_eq]
      intro g hg
      exact ((key2 h1 g (h3 g hg).1).1 (h3 g hg).2).2
    · rintro ⟨⟨⟨h1, h2⟩, h3⟩, h4, h5⟩
      refine ⟨⟨h1, (key h1).2 h2⟩, fun g hg => ⟨(h3 g hg).1, (key2 h1 g (h3 g hg).1).2 ⟨(h3 g hg).2, ?_⟩⟩, h5⟩
      simp only [List.any_map, List.any_eq_false, Function.comp_apply, beq_iff_eq] at h4
      exact h4 g hg
theorem freshS_0 (l : List Fld) : freshS (List.replicate 256 false) l = (l.all rgtS && nodupI (l.map Fld.id)) := by
  rw [Bool.eq_iff_iff, freshS_iff _ _ List.length_replicate]
  simp only [Bool.and_eq_true, List.all_eq_true]
  constructor
  · rintro ⟨h1, h2⟩; exact ⟨fun f hf => (h1 f hf).1, h2⟩
  · rintro ⟨h1, h2⟩
    refine ⟨fun f hf => ⟨h1 f hf, ?_⟩, h2⟩
    have r := rgt_rng (h1 f hf)
    rw [List.getElem?_replicate, if_pos (by omega)]
set_option maxRecDepth 20000 in
theorem bools256 : (List.replicate 256 false).map AV.bool = [.bool false, .bool false, .bool false, .bool false, .bool false, .bool false, .bool false, .bool false, .bool false, .bool false, .bool false, .bool false, .bool false, .bool false, .bool false, .bool false, .bool false, .bool false, .bool false, .bool false, .bool false, .bool false, .bool false, .bool false, .bool false, .bool false, .bool false, .bool false, .bool false, .bool false, .bool false, .bool false, .bool false, .bool false, .bool false, .bool false, .bool false, .bool false, .bool false, .bool false, .bool false, .bool false, .bool false, .bool false, .bool false, .bool false, .bool false, .bool false, .bool false, .bool false, .bool false, .bool false, .bool false, .bool false, .bool false, .bool false, .bool false, .bool false, .bool false, .bool false, .bool false, .bool false, .bool false, .bool false, .bool false, .bool false, .bool false, .bool false, .bool false, .bool false, .bool false, .bool false, .bool false, .bool false, .bool false, .bool false, .bool false, .bool false, .bool false, .bool false, .bool false, .bool false, .bool false, .bool false, .bool false, .bool false, .bool false, .bool false, .bool false, .bool false, .bool false, .bool false, .bool false, .bool false, .bool false, .bool false, .bool false, .bool false, .bool false, .bool false, .bool false, .bool false, .bool false, .bool false, .bool false, .bool false, .bool false, .bool false, .bool false, .bool false, .bool false, .bool false, .bool false, .bool false, .bool false, .bool false, .bool false, .bool false, .bool false, .bool false, .bool false, .bool false, .bool false, .bool false, .bool false, .bool false, .bool false, .bool false, .bool false, .bool false, .bool false, .bool false, .bool false, .bool false, .bool false, .bool false, .bool false, .bool false, .bool false, .bool false, .bool false, .bool false, .bool false, .bool false, .bool false, .bool false, .bool false, .bool false, .bool false, .bool false, .bool false, .bool false, .bool false, .bool false, .bool false, .bool false, .bool false, .bool false, .bool false, .bool false, .bool false, .bool false, .bool false, .bool false, .bool false, .bool false, .bool false, .bool false, .bool false, .bool false, .bool false, .bool false, .bool false, .bool false, .bool false, .bool false, .bool false, .bool false, .bool false, .bool false, .bool false, .bool false, .bool false, .bool false, .bool false, .bool false, .bool false, .bool false, .bool false, .bool false, .bool false, .bool false, .bool false, .bool false, .bool false, .bool false, .bool false, .bool false, .bool false, .bool false, .bool false, .bool false, .bool false, .bool false, .bool false, .bool false, .bool false, .bool false, .bool false, .bool false, .bool false, .bool false, .bool false, .bool false, .bool false, .bool false, .bool false, .bool false, .bool false, .bool false, .bool false, .bool false, .bool false, .bool false, .bool false, .bool false, .bool false, .bool false, .bool false, .bool false, .bool false, .bool false, .bool false, .bool false, .bool false, .bool false, .bool false, .bool false, .bool false, .bool false, .bool false, .bool false, .bool false, .bool false, .bool false, .bool false, .bool false, .bool false, .bool false, .bool false, .bool false, .bool false, .bool false, .bool false, .bool false, .bool false] := rfl
set_option maxRecDepth 20000 in
theorem c_sFine (f : Frm) (h : f.fields.length ≤ 211106232532992) : tbl E0 64 [frmV f] [] = some ([.bool (fineS f)], []) :=
  t_sFine f (by
    have e := c_sFineL f.fields h f.fields 0 (List.replicate 256 false) rfl List.length_replicate
    simp only [Int.natCast_zero, freshS_0] at e
    rw [bools256] at e
    have c := c_sLong f h
    simp only [s_sFine, OA_chk, cond_true, OA_join, OA_asm, List.length_map, OA_callx, c, Option.bind_some, u_asC, u_asI, u_asB, u_asN, OA_loop, e]
    unfold fineS
    by_cases a1 : f.id < 0
    · have : ¬ (0 ≤ f.id) := by omega
      simp [a1, this]
    · by_cases a2 : f.id > 200
      · have : ¬ (f.id ≤ 200) := by omega
        simp [a1, a2, this]
      · by_cases a3 : (f.fields.length : Int) < 1
        · have : ¬ (1 ≤ f.fields.length) := by omega
          simp [a1, a2, a3, this]
        · by_cases a4 : (f.fields.length : Int) > 8
          · have : ¬ (f.fields.length ≤ 8) := by omega
            simp [a1, a2, a3, a4, this]
          · by_cases a5 : longS f.fields > 64
            · have : ¬ (longS f.fields ≤ 64) := by omega
              simp [a1, a2, a3, a4, a5, this]
            · have b1 : 0 ≤ f.id ∧ f.id ≤ 200 := by omega
              have b2 : 1 ≤ f.fields.length ∧ f.fields.length ≤ 8 := by omega
              have b3 : longS f.fields ≤ 64 := by omega
              simp only [a1, a2, a3, a4, a5, b1, b2, b3, decide_true, decide_false, cond_false, Option.bind_some, Tok.untok_tok, Bool.true_and, and_self]
              cases (f.fields.all rgtS && nodupI (f.fields.map Fld.id)) <;> simp)
def idxS (l : List Fld) : Nat → List Fld → Bool
  | _, [] => true
  | i, x :: r => rgtS x && decide (atS l x.id = i) && idxS l (i + 1) r
theorem atS_app (p r : List Fld) (x : Fld) : atS (p ++ x :: r) x.id = p.length ↔ ∀ f ∈ p, f.id ≠ x.id := by
  unfold atS firstS
  constructor
  · intro h f hf e
    have h1 : (p ++ x :: r).findIdx? (fun f : Fld => f.id == x.id) = (p.findIdx? (fun f : Fld => f.id == x.id)).or _ := List.findIdx?_append
    cases h2 : p.findIdx? (fun f : Fld => f.id == x.id) with
    | none =>
      rw [List.findIdx?_eq_none_iff] at h2
      have := h2 f hf
      simp [e] at this
    | some j =>
      rw [h1, h2] at h
      obtain ⟨hj, _⟩ := List.findIdx?_eq_some_iff_getElem.1 h2
      simp only [Option.some_or] at h
      omega
  · intro h
    have h2 : p.findIdx? (fun f : Fld => f.id == x.id) = none := by
      rw [List.findIdx?_eq_none_iff]
      intro f hf
      simpa using h f hf
    rw [List.findIdx?_append, h2, List.findIdx?_cons]
    simp
theorem idxS_iff : ∀ (r p : List Fld), idxS (p ++ r) p.length r = true ↔ (∀ x ∈ r, rgtS x = true ∧ ∀ f ∈ p, f.id ≠ x.id) ∧ nodupI (r.map Fld.id) = true
  | [], p => by simp [idxS, nodupI]
  | x :: r, p => by
    have ih := idxS_iff r (p ++ [x])
    simp only [List.append_assoc, List.singleton_append, List.length_append, List.length_singleton] at ih
    simp only [idxS, Bool.and_eq_true, ih, decide_eq_true_eq, atS_app, List.map_cons, nodupI, List.mem_cons, forall_eq_or_imp, Bool.not_eq_true', List.any_map, List.any_eq_false, Function.comp_apply, beq_iff_eq, List.mem_append, List.not_mem_nil, or_false]
    constructor
    · rintro ⟨⟨h1, h2⟩, h3, h4⟩
      refine ⟨⟨⟨h1, h2⟩, fun y hy => ⟨(h3 y hy).1, fun f hf => (h3 y hy).2 f (Or.inl hf)⟩⟩, fun y hy e => (h3 y hy).2 x (Or.inr rfl) e.symm, h4⟩
    · rintro ⟨⟨⟨h1, h2⟩, h3⟩, h4, h5⟩
      refine ⟨⟨h1, h2⟩, fun y hy => ⟨(h3 y hy).1, ?_⟩, h5⟩
      rintro f (hf | rfl)
      · exact (h3 y hy).2 f hf
      · exact fun e => h4 y hy e.symm
theorem idxS_0 (l : List Fld) : idxS l 0 l = (l.all rgtS && nodupI (l.map Fld.id)) := by
  rw [Bool.eq_iff_iff]
  have := idxS_iff l []
  simp only [List.nil_append, List.length_nil] at this
  rw [this]
  simp
theorem c_yFineL (f : Frm) (hl : f.fields.length ≤ 211106232532992) : ∀ (r : List Fld) (i : Nat), f.fields.drop i = r →
    ltbl E0 50 0 4 [.int .i64 i] [[.int .i64 f.id, fldsV f.fields]] = some (if idxS f.fields i r then (1, [], [[.int .i64 f.id, fldsV f.fields]]) else (0, [.bool false], [])) := by
  intro r
  induction r with
  | nil =>
    intro i hr
    have h : f.fields.length ≤ i := by simpa using hr
    refine t_yFineL _ _ ?_
    have : ¬ ((i : Int) < f.fields.length) := by omega
    simp [s_yFineL, this, idxS]
  | cons x r ih =>
    intro i hr
    obtain ⟨hlt, hget, hr2⟩ := drop_c hr
    have h2 : (i : Int) < f.fields.length := by omega
    have e1 := i64_succ (i := i) (by omega)
    have h := ih (i + 1) hr2
    have c := c_yRight x
    have c2 := c_yAt f x.id hl
    refine t_yFineL _ _ ?_
    simp only [s_yFineL, OA_asm, List.length_map, h2, decide_true, cond_true, OA_chk, Int.natCast_nonneg, nthE, Int.toNat_natCast, List.getElem?_map, hget, Option.map_some, u_asA, u_asC, u_asI, u_asB, u_asN, OA_callx, c, c2, Option.bind_some, e1, h, idxS]
    by_cases hg : rgtS x = true
    · by_cases ha : atS f.fields x.id = i
      · simp [hg, ha]
      · simp [hg, ha]
    · have hg : rgtS x = false := by simpa using hg
      simp [hg]
theorem c_yFine (f : Frm) (h : f.fields.length ≤ 211106232532992) : tbl E0 50 [frmV f] [] = some ([.bool (fineS f)], []) :=
  t_yFine f (by
    have e := c_yFineL f h f.fields 0 rfl
    simp only [Int.natCast_zero, idxS_0] at e
    have c := c_yLong f h
    simp only [s_yFine, OA_chk, cond_true, OA_join, OA_asm, List.length_map, OA_callx, c, Option.bind_some, u_asC, u_asI, u_asB, u_asL, u_asN, OA_loop, e]
    unfold fineS
    by_cases a1 : f.id < 0
    · have : ¬ (0 ≤ f.id) := by omega
      simp [a1, this]
    · by_cases a2 : f.id > 200
      · have : ¬ (f.id ≤ 200) := by omega
        simp [a1, a2, this]
      · by_cases a3 : (f.fields.length : Int) < 1
        · have : ¬ (1 ≤ f.fields.length) := by omega
          simp [a1, a2, a3, this]
        · by_cases a4 : (f.fields.length : Int) > 8
          · have : ¬ (f.fields.length ≤ 8) := by omega
            simp [a1, a2, a3, a4, this]
          · have b1 : 0 ≤ f.id ∧ f.id ≤ 200 := by omega
            have b2 : 1 ≤ f.fields.length ∧ f.fields.length ≤ 8 := by omega
            simp only [a1, a2, a3, a4, b1, b2, decide_true, decide_false, cond_false, Option.bind_some, Tok.untok_tok, Bool.true_and, and_self]
            cases f.fields.all rgtS <;> cases nodupI (f.fields.map Fld.id) <;> simp [c])
end Go.Proofs.Ytalpknofimglbaa.V
namespace Go.Proofs.Ytalpknofimglbaa.V
open Go
theorem bor (b : Bool) : b = true ∨ b = false := by cases b <;> simp
def Sml (s : Sch) : Prop := s.forms.length ≤ 211106232532992 ∧ ∀ f ∈ s.forms, f.fields.length ≤ 211106232532992
theorem mem_drop {α : Type} {l r : List α} {i : Nat} {a : α} (h : l.drop i = a :: r) : a ∈ l := List.mem_of_mem_drop (h ▸ List.mem_cons_self : a ∈ l.drop i)
theorem c_sRightL (l : List Frm) (hl : l.length ≤ 211106232532992) (hf : ∀ f ∈ l, f.fields.length ≤ 211106232532992) : ∀ (r : List Frm) (i : Nat) (last : Int), l.drop i = r →
    ltbl E0 32 0 5 [.int .i64 last, frmsV l, .int .i64 l.length, .int .i64 i] [] = some (if risingS last r then (1, [], []) else (0, [.bool false], [])) := by
  intro r
  induction r with
  | nil =>
    intro i last hr
    have h : l.length ≤ i := by simpa using hr
    refine t_sRightL _ _ _ _ ?_
    have : ¬ ((i : Int) < l.length) := by omega
    simp [s_sRightL, this, risingS]
  | cons f r ih =>
    intro i last hr
    obtain ⟨hlt, hget, hr2⟩ := drop_c hr
    have h2 : (i : Int) < l.length := by omega
    have e1 := i64_succ (i := i) (by omega)
    have h := ih (i + 1) f.id hr2
    have c := c_sFine f (hf f (mem_drop hr))
    refine t_sRightL _ _ _ _ ?_
    simp only [s_sRightL, h2, decide_true, cond_true, OA_chk, Int.natCast_nonneg, nthE, Int.toNat_natCast, List.getElem?_map, hget, Option.map_some, u_asA, u_asC, u_asI, u_asB, u_asL, u_asN, OA_callx, OA_join, c, Option.bind_some, e1, h, risingS]
    by_cases a : f.id ≤ last
    · have : ¬ (last < f.id) := by omega
      rcases bor (fineS f) with hb | hb <;> simp [hb, a, this]
    · have b : last < f.id := by omega
      rcases bor (fineS f) with hb | hb <;> simp [hb, a, b]
theorem c_sRight (s : Sch) (h : Sml s) : tbl E0 32 [schV s] [] = some ([.bool (schS s)], []) :=
  t_sRight s (by
    have e := c_sRightL s.forms h.1 h.2 s.forms 0 (-1) rfl
    simp only [Int.natCast_zero] at e
    simp only [s_sRight, OA_chk, cond_true, OA_join, OA_asm, List.length_map, Option.bind_some, u_asC, u_asI, u_asB, u_asN, OA_loop, e]
    unfold schS
    by_cases a1 : s.ver < 1
    · have : ¬ (1 ≤ s.ver) := by omega
      simp [a1, this]
    · by_cases a2 : s.ver > 65535
      · have : ¬ (s.ver ≤ 65535) := by omega
        simp [a1, a2, this]
      · by_cases a4 : (s.forms.length : Int) > 8
        · have : ¬ (s.forms.length ≤ 8) := by omega
          simp [a1, a2, a4, this]
        · have b1 : 1 ≤ s.ver ∧ s.ver ≤ 65535 := by omega
          have b2 : s.forms.length ≤ 8 := by omega
          simp only [a1, a2, a4, b1, b2, decide_true, decide_false, cond_false, Option.bind_some, Tok.untok_tok, Bool.true_and, and_self]
          rcases bor (risingS (-1) s.forms) with hb | hb <;> simp [hb])
def riseS (l : List Frm) : Nat → List Frm → Bool
  | _, [] => true
  | i, f :: r => fineS f && (i == 0 || (match l[i - 1]? with | some g => decide (g.id < f.id) | none => false)) && riseS l (i + 1) r
theorem riseS_eq : ∀ (r : List Frm) (p : List Frm) (g : Frm), riseS (p ++ g :: r) (p.length + 1) r = risingS g.id r
  | [], p, g => rfl
  | f :: r, p, g => by
    have ih := riseS_eq r (p ++ [g]) f
    simp only [List.append_assoc, List.singleton_append, List.length_append, List.length_singleton] at ih
    simp [riseS, risingS, ih]
theorem riseS_0 (l : List Frm) : riseS l 0 l = risingS (-1) l := by
  cases l with
  | nil => rfl
  | cons f r =>
    have h := riseS_eq r [] f
    simp only [List.nil_append, List.length_nil, Nat.zero_add] at h
    simp only [riseS, h, risingS, beq_self_eq_true, Bool.true_or, Bool.and_true, Nat.zero_add]
    by_cases hf : fineS f = true
    · have : -1 < f.id := by
        unfold fineS at hf
        simp only [Bool.and_eq_true, decide_eq_true_eq] at hf
        omega
      simp [this]
    · have hf : fineS f = false := by simpa using hf
      simp [hf]
theorem c_ysRightL (s : Sch) (hs : Sml s) : ∀ (r : List Frm) (i : Nat), s.forms.drop i = r →
    ltbl E0 17 0 4 [.int .i64 i] [[.int .i64 s.ver, frmsV s.forms]] = some (if riseS s.forms i r then (1, [], []) else (0, [.bool false], [])) := by
  have hl := hs.1
  intro r
  induction r with
  | nil =>
    intro i hr
    have h : s.forms.length ≤ i := by simpa using hr
    refine t_ysRightL _ _ ?_
    have : ¬ ((i : Int) < s.forms.length) := by omega
    simp [s_ysRightL, this, riseS]
  | cons f r ih =>
    intro i hr
    obtain ⟨hlt, hget, hr2⟩ := drop_c hr
    have h2 : (i : Int) < s.forms.length := by omega
    have e1 := i64_succ (i := i) (by omega)
    have h := ih (i + 1) hr2
    have c := c_yFine f (hs.2 f (mem_drop hr))
    refine t_ysRightL _ _ ?_
    by_cases i0 : i = 0
    · subst i0
      simp only [Int.natCast_zero] at h2
      simp only [s_ysRightL, OA_asm, List.length_map, Int.natCast_zero, h2, decide_true, cond_true, OA_chk, Int.natCast_nonneg, nthE, Int.toNat_natCast, Int.toNat_zero, Int.le_refl, List.getElem?_map, hget, Option.map_some, u_asA, u_asC, u_asI, u_asB, u_asL, u_asN, OA_callx, c, Option.bind_some, riseS]
      simp only [Int.natCast_zero] at e1
      rcases bor (fineS f) with hb | hb
      · simp only [Int.zero_add, Nat.zero_add] at e1 h
        simp [hb]
        rw [e1]
        exact h
      · simp [hb]
    · have g0 : (i : Int) > 0 := by omega
      have g1 : IntKind.i64.wrap ((i : Int) - 1) = ((i - 1 : Nat) : Int) := by rw [wrap_i64 _ (by omega) (by omega)]; omega
      have g2 : s.forms[i - 1]? = some (s.forms[i - 1]'(by omega)) := List.getElem?_eq_getElem _
      simp only [s_ysRightL, OA_asm, List.length_map, h2, decide_true, cond_true, OA_chk, Int.natCast_nonneg, nthE, Int.toNat_natCast, List.getElem?_map, hget, Option.map_some, u_asA, u_asC, u_asI, u_asB, u_asL, u_asN, OA_callx, c, Option.bind_some, riseS, g0, g1, g2, e1, h, beq_f i0, Bool.false_or]
      rcases bor (fineS f) with hb | hb
      rotate_left
      · simp [hb]
      · by_cases a : (s.forms[i - 1]'(by omega)).id ≥ f.id
        · have b : ¬ ((s.forms[i - 1]'(by omega)).id < f.id) := by omega
          simp [hb, a, b]
        · have b : (s.forms[i - 1]'(by omega)).id < f.id := by omega
          simp [hb, a, b]
theorem c_ysRight (s : Sch) (h : Sml s) : tbl E0 17 [schV s] [] = some ([.bool (schS s)], []) :=
  t_ysRight s (by
    have e := c_ysRightL s h s.forms 0 rfl
    simp only [Int.natCast_zero, riseS_0] at e
    simp only [s_ysRight, OA_chk, cond_true, OA_join, OA_asm, List.length_map, Option.bind_some, u_asC, u_asI, u_asB, u_asN, OA_loop, e]
    unfold schS
    by_cases a1 : s.ver < 1
    · have : ¬ (1 ≤ s.ver) := by omega
      simp [a1, this]
    · by_cases a2 : s.ver > 65535
      · have : ¬ (s.ver ≤ 65535) := by omega
        simp [a1, a2, this]
      · by_cases a4 : (s.forms.length : Int) > 8
        · have : ¬ (s.forms.length ≤ 8) := by omega
          simp [a1, a2, a4, this]
        · have b1 : 1 ≤ s.ver ∧ s.ver ≤ 65535 := by omega
          have b2 : s.forms.length ≤ 8 := by omega
          simp only [a1, a2, a4, b1, b2, decide_true, decide_false, cond_false, Option.bind_some, Tok.untok_tok, Bool.true_and, and_self]
          rcases bor (risingS (-1) s.forms) with hb | hb <;> simp [hb])
end Go.Proofs.Ytalpknofimglbaa.V
namespace Go.Proofs.Ytalpknofimglbaa.V
open Go
def big (f : Frm) : Bool := decide (40 < f.fields.length)
theorem c_yFindL (s : Sch) (id : Int) (hs : Sml s) : ∀ (r : List Frm) (i : Nat), s.forms.drop i = r →
    ltbl E0 18 0 2 [.int .i64 id, .int .i64 i] [[.int .i64 s.ver, frmsV s.forms]] = some (fromS (fun f : Frm => f.id == id) i r) := by
  have hl := hs.1
  intro r
  induction r with
  | nil =>
    intro i hr
    have h : s.forms.length ≤ i := by simpa using hr
    refine t_yFindL _ _ _ ?_
    have : ¬ ((i : Int) < s.forms.length) := by omega
    simp [s_yFindL, this, fromS_nil]
  | cons x r ih =>
    intro i hr
    obtain ⟨hlt, hget, hr2⟩ := drop_c hr
    have h2 : (i : Int) < s.forms.length := by omega
    have e1 := i64_succ (i := i) (by omega)
    have h := ih (i + 1) hr2
    refine t_yFindL _ _ _ ?_
    rw [fromS_cons]
    simp only [s_yFindL, OA_asm, List.length_map, h2, decide_true, cond_true, OA_chk, Int.natCast_nonneg, nthE, Int.toNat_natCast, List.getElem?_map, hget, Option.map_some, u_asA, u_asC, u_asI, u_asB, u_asL, u_asN, e1, h]
    cases x.id == id <;> rfl
def findS (l : List Frm) (id : Int) : Int := firstS (fun f : Frm => f.id == id) l
theorem c_yFind (s : Sch) (id : Int) (h : Sml s) : tbl E0 18 [schV s, .int .i64 id] [] = some ([.int .i64 (findS s.forms id)], []) :=
  t_yFind s id (by
    have e := c_yFindL s id h s.forms 0 rfl
    simp only [Int.natCast_zero] at e
    simp only [s_yFind, OA_chk, cond_true, OA_loop, e, Option.bind_some, fromS, findS, firstS]
    cases s.forms.findIdx? (fun f : Frm => f.id == id) <;> simp)
theorem fld_eq (a b : Fld) : (a.id == b.id && (a.kind == b.kind && (a.lo == b.lo && (a.hi == b.hi && (a.most == b.most && true))))) = decide (a = b) := by
  rw [Bool.eq_iff_iff]
  cases a; cases b
  simp
theorem frm_eq (a b : Frm) : decide (a = b) = (decide (a.id = b.id) && decide (a.fields = b.fields)) := by
  rw [Bool.eq_iff_iff]
  cases a; cases b
  simp
theorem sch_eq (a b : Sch) : decide (a = b) = (decide (a.ver = b.ver) && decide (a.forms = b.forms)) := by
  rw [Bool.eq_iff_iff]
  cases a; cases b
  simp
theorem c_ySameFormL (a b : Frm) (hl : a.fields.length ≤ 211106232532992) (hab : a.fields.length = b.fields.length) : ∀ (r r' : List Fld) (i : Nat), a.fields.drop i = r → b.fields.drop i = r' →
    ltbl E0 19 0 4 [.int .i64 i] [[.int .i64 a.id, fldsV a.fields], [.int .i64 b.id, fldsV b.fields]] = some (if r = r' then (1, [], []) else (0, [.bool false], [])) := by
  intro r
  induction r with
  | nil =>
    intro r' i hr hr'
    have h : a.fields.length ≤ i := by simpa using hr
    have : r' = [] := by rw [← hr']; simp; omega
    subst this
    refine t_ySameFormL _ _ _ ?_
    have : ¬ ((i : Int) < a.fields.length) := by omega
    simp [s_ySameFormL, this]
  | cons x r ih =>
    intro r' i hr hr'
    obtain ⟨hlt, hget, hr2⟩ := drop_c hr
    cases r' with
    | nil => simp at hr'; omega
    | cons y r' =>
      obtain ⟨_, hget', hr2'⟩ := drop_c hr'
      have h2 : (i : Int) < a.fields.length := by omega
      have e1 := i64_succ (i := i) (by omega)
      have h := ih r' (i + 1) hr2 hr2'
      refine t_ySameFormL _ _ _ ?_
      simp only [s_ySameFormL, OA_asm, List.length_map, h2, decide_true, cond_true, OA_chk, Int.natCast_nonneg, nthE, Int.toNat_natCast, List.getElem?_map, hget, hget', Option.map_some, u_asA, u_asC, u_asI, u_asB, u_asL, u_asN, e1, h, fld_eq]
      by_cases e : x = y
      · simp [e]
      · simp [e]
theorem c_ySameForm (a b : Frm) (h : a.fields.length ≤ 211106232532992) : tbl E0 19 [frmV a, frmV b] [] = some ([.bool (decide (a = b))], []) :=
  t_ySameForm a b (by
    rw [frm_eq]
    simp only [s_ySameForm, OA_chk, cond_true, OA_join, OA_asm, List.length_map, OA_loop]
    by_cases i0 : a.id = b.id
    · rw [show (a.id != b.id) = false by simp [i0], cond_false]
      by_cases hab : a.fields.length = b.fields.length
      · have e := c_ySameFormL a b h hab a.fields b.fields 0 rfl rfl
        simp only [Int.natCast_zero] at e
        rw [show ((a.fields.length : Int) != (b.fields.length : Int)) = false by rw [hab]; simp]
        simp only [Option.bind_some, Tok.untok_tok, cond_false, e]
        by_cases e2 : a.fields = b.fields <;> simp [i0, e2]
      · have : ¬ (a.fields = b.fields) := fun e => hab (by rw [e])
        rw [show ((a.fields.length : Int) != (b.fields.length : Int)) = true from bne_t (by omega)]
        simp [i0, this]
    · simp [i0])
theorem c_EqualFL (a b : List Fld) (hl : a.length ≤ 211106232532992) (hab : a.length = b.length) : ∀ (r r' : List Fld) (i : Nat), a.drop i = r → b.drop i = r' →
    ltbl E0 85 0 4 [fldsV a, fldsV b, .int .i64 a.length, .int .i64 i] [] = some (if r = r' then (1, [], []) else (0, [.bool false], [])) := by
  intro r
  induction r with
  | nil =>
    intro r' i hr hr'
    have h : a.length ≤ i := by simpa using hr
    have : r' = [] := by rw [← hr']; simp; omega
    subst this
    refine t_EqualFL _ _ _ _ ?_
    have : ¬ ((i : Int) < a.length) := by omega
    simp [s_EqualFL, this]
  | cons x r ih =>
    intro r' i hr hr'
    obtain ⟨hlt, hget, hr2⟩ := drop_c hr
    cases r' with
    | nil => simp at hr'; omega
    | cons y r' =>
      obtain ⟨_, hget', hr2'⟩ := drop_c hr'
      have h2 : (i : Int) < a.length := by omega
      have e1 := i64_succ (i := i) (by omega)
      have h := ih r' (i + 1) hr2 hr2'
      refine t_EqualFL _ _ _ _ ?_
      simp only [s_EqualFL, OA_asm, List.length_map, h2, decide_true, cond_true, OA_chk, Int.natCast_nonneg, nthE, Int.toNat_natCast, List.getElem?_map, hget, hget', Option.map_some, u_asA, u_asC, u_asI, u_asB, u_asL, u_asN, e1, h, fld_eq]
      by_cases e : x = y
      · simp [e]
      · simp [e]
theorem c_EqualF (a b : List Fld) (h : a.length ≤ 211106232532992) : tbl E0 85 [fldsV a, fldsV b] [] = some ([.bool (decide (a = b))], []) :=
  t_EqualF a b (by
    simp only [s_EqualF, OA_asm, List.length_map, OA_loop]
    by_cases hab : a.length = b.length
    · have e := c_EqualFL a b h hab a b 0 rfl rfl
      simp only [Int.natCast_zero] at e
      have h' : ((a.length : Int) != (b.length : Int)) = false := by rw [hab]; simp
      rw [h', cond_false, e]
      by_cases e2 : a = b <;> simp [e2]
    · have : ¬ (a = b) := fun e => hab (by rw [e])
      have h' : ((a.length : Int) != (b.length : Int)) = true := bne_t (by omega)
      rw [h']
      simp [this])
theorem c_ySameL (a b : Sch) (hs : Sml a) (hab : a.forms.length = b.forms.length) : ∀ (r r' : List Frm) (i : Nat), a.forms.drop i = r → b.forms.drop i = r' →
    ltbl E0 13 0 4 [.int .i64 i] [[.int .i64 a.ver, frmsV a.forms], [.int .i64 b.ver, frmsV b.forms]] = some (if r = r' then (1, [], []) else (0, [.bool false], [])) := by
  have hl := hs.1
  intro r
  induction r with
  | nil =>
    intro r' i hr hr'
    have h : a.forms.length ≤ i := by simpa using hr
    have : r' = [] := by rw [← hr']; simp; omega
    subst this
    refine t_ySameL _ _ _ ?_
    have : ¬ ((i : Int) < a.forms.length) := by omega
    simp [s_ySameL, this]
  | cons x r ih =>
    intro r' i hr hr'
    obtain ⟨hlt, hget, hr2⟩ := drop_c hr
    cases r' with
    | nil => simp at hr'; omega
    | cons y r' =>
      obtain ⟨_, hget', hr2'⟩ := drop_c hr'
      have h2 : (i : Int) < a.forms.length := by omega
      have e1 := i64_succ (i := i) (by omega)
      have h := ih r' (i + 1) hr2 hr2'
      have c := c_ySameForm x y (hs.2 x (mem_drop hr))
      refine t_ySameL _ _ _ ?_
      simp only [s_ySameL, OA_asm, List.length_map, h2, decide_true, cond_true, OA_chk, Int.natCast_nonneg, nthE, Int.toNat_natCast, List.getElem?_map, hget, hget', Option.map_some, u_asA, u_asC, u_asI, u_asB, u_asL, u_asN, OA_callx, c, Option.bind_some, e1, h]
      by_cases e : x = y
      · simp [e]
      · simp [e]
theorem c_ySame (a b : Sch) (h : Sml a) : tbl E0 13 [schV a, schV b] [] = some ([.bool (decide (a = b))], []) :=
  t_ySame a b (by
    rw [sch_eq]
    simp only [s_ySame, OA_chk, cond_true, OA_join, OA_asm, List.length_map, OA_loop]
    by_cases i0 : a.ver = b.ver
    · rw [show (a.ver != b.ver) = false by simp [i0], cond_false]
      by_cases hab : a.forms.length = b.forms.length
      · have e := c_ySameL a b h hab a.forms b.forms 0 rfl rfl
        simp only [Int.natCast_zero] at e
        rw [show ((a.forms.length : Int) != (b.forms.length : Int)) = false by rw [hab]; simp]
        simp only [Option.bind_some, Tok.untok_tok, cond_false, e]
        by_cases e2 : a.forms = b.forms <;> simp [i0, e2]
      · have : ¬ (a.forms = b.forms) := fun e => hab (by rw [e])
        rw [show ((a.forms.length : Int) != (b.forms.length : Int)) = true from bne_t (by omega)]
        simp [i0, this]
    · simp [i0])
end Go.Proofs.Ytalpknofimglbaa.V
namespace Go.Proofs.Ytalpknofimglbaa.V
open Go
end Go.Proofs.Ytalpknofimglbaa.V
namespace Go.Proofs.Ytalpknofimglbaa.V
open Go
def fldB (f : Fld) : List UInt8 := cnt f.id.toNat ++ cnt f.kind.toNat ++ (if f.kind = 1 then cnt (zz f.lo) ++ cnt (zz f.hi) else if f.kind = 3 ∨ f.kind = 4 then cnt f.most.toNat else [])
def fldsB (l : List Fld) : List UInt8 := (l.map fldB).flatten
def frmB (f : Frm) : List UInt8 := cnt f.id.toNat ++ cnt f.fields.length ++ fldsB f.fields
def frmsB (l : List Frm) : List UInt8 := (l.map frmB).flatten
def schB (s : Sch) : List UInt8 := cnt s.ver.toNat ++ cnt s.forms.length ++ frmsB s.forms
theorem fineS_iff (f : Frm) : fineS f = true ↔ (0 ≤ f.id ∧ f.id ≤ 200) ∧ (1 ≤ f.fields.length ∧ f.fields.length ≤ 8) ∧ longS f.fields ≤ 64 ∧ (∀ x ∈ f.fields, rgtS x = true) ∧ nodupI (f.fields.map Fld.id) = true := by
  unfold fineS
  simp only [Bool.and_eq_true, decide_eq_true_eq, List.all_eq_true, and_assoc]
theorem risingS_all : ∀ (l : List Frm) (n : Int), risingS n l = true → ∀ f ∈ l, fineS f = true
  | [], n, _, f, hf => by cases hf
  | g :: l, n, h, f, hf => by
    simp only [risingS, Bool.and_eq_true] at h
    rcases List.mem_cons.1 hf with rfl | hf
    · exact h.1.1
    · exact risingS_all l _ h.2 f hf
theorem schS_iff (s : Sch) : schS s = true ↔ (1 ≤ s.ver ∧ s.ver ≤ 65535) ∧ s.forms.length ≤ 8 ∧ risingS (-1) s.forms = true := by
  unfold schS
  simp only [Bool.and_eq_true, decide_eq_true_eq, and_assoc]
def FldsOK (l : List Fld) : Prop := ∀ f ∈ l, f.ok ∧ rgtS f = true
end Go.Proofs.Ytalpknofimglbaa.V
namespace Go.Proofs.Ytalpknofimglbaa.V
open Go
end Go.Proofs.Ytalpknofimglbaa.V
namespace Go.Proofs.Ytalpknofimglbaa.V
open Go
def Stp.ok (x : Stp) : Prop := i64 x.op ∧ i64 x.form ∧ i64 x.field ∧ i64 x.place ∧ i64 x.to ∧ i64 x.a ∧ i64 x.b ∧ x.f.ok ∧ i64 x.n ∧ (∀ n ∈ x.t, i64 n) ∧ ∀ f ∈ x.fields, f.ok
def Stp.sml (x : Stp) : Prop := x.t.length ≤ 211106232532992 ∧ x.fields.length ≤ 211106232532992
def opsL : List Int := [1, 2, 3, 4, 5, 6, 7, 8, 9, 10, 21, 22, 23, 24, 25, 26, 27, 28, 29, 30]
def usesS (op : Int) : List Int :=
  if op = 1 then [0, 2, 6, 7] else if op = 22 then [0, 2, 6, 7] else if op = 2 then [0, 1, 7] else if op = 3 then [0, 1, 6] else if op = 23 then [0, 1, 6]
  else if op = 4 then [0, 1, 5] else if op = 24 then [0, 1, 5, 6] else if op = 5 then [0, 1, 4, 8] else if op = 25 then [0, 1, 8] else if op = 6 then [0, 1, 4, 3]
  else if op = 26 then [0, 1, 4, 3, 6] else if op = 7 then [0, 1, 2] else if op = 27 then [0, 1, 2] else if op = 8 then [0, 1, 3] else if op = 28 then [0, 1, 3]
  else if op = 9 then [0, 9] else if op = 30 then [0, 9] else if op = 10 then [0] else if op = 29 then [0] else if op = 21 then [0, 1] else []
def hasS (op p : Int) : Bool := (usesS op).contains p
def inS (n lo hi : Int) : Bool := decide (lo ≤ n) && decide (n ≤ hi)
def longestS (f : Fld) : Int := if f.kind = 4 then f.most else 0
def hasV (f : Fld) (n : Int) (s : List UInt8) : Bool := rgtS f && (inS n (loS f) (hiS f) && decide ((s.length : Int) ≤ longestS f))
def apartS (l : List Int) (below : Int) : Bool := (l.all fun n => inS n 0 (below - 1)) && nodupI l && decide (1 ≤ l.length ∧ l.length ≤ 64)
def fitsS (x : Stp) (p : Int) : Bool :=
  if p = 0 then inS x.form 0 200 else if p = 1 then inS x.field 0 255 else if p = 2 then inS x.place 0 8 else if p = 3 then inS x.to 0 255 && x.to != x.field
  else if p = 4 then (if x.op = 5 then inS x.a 1 1000 else inS x.a 2 1048576)
  else if p = 5 then inS x.a (-1048576) 1048576 && (x.a != 0 && inS x.b (-1099511627776) 1099511627776)
  else if p = 6 then rgtS x.f && (x.op == 1 || (x.op == 22 || x.f.id == x.field))
  else if p = 7 then (if x.op = 2 then inS x.n (-1099511627776) 1099511627776 && decide ((x.s.length : Int) ≤ 32) else hasV x.f x.n x.s)
  else if p = 8 then apartS x.t (if x.op = 5 then x.a else 1000)
  else fineS ⟨x.form, x.fields⟩
def fld0 : Fld := ⟨0, 0, 0, 0, 0⟩
def onlyS (x : Stp) : Stp :=
  ⟨x.op, if hasS x.op 0 then x.form else 0, if hasS x.op 1 then x.field else 0, if hasS x.op 2 then x.place else 0, if hasS x.op 3 then x.to else 0,
    if hasS x.op 4 || hasS x.op 5 then x.a else 0, if hasS x.op 5 then x.b else 0, if hasS x.op 6 then x.f else fld0, if hasS x.op 7 then x.n else 0, if hasS x.op 7 then x.s else [],
    if hasS x.op 8 then x.t else [], if hasS x.op 9 then x.fields else []⟩
def tRightS (x : Stp) : Bool := (usesS x.op).all (fitsS x) && (!(usesS x.op).isEmpty && decide (x = onlyS x))
def zeroS (x : Stp) : Bool :=
  (hasS x.op 1 || x.field == 0) && ((hasS x.op 2 || x.place == 0) && ((hasS x.op 3 || x.to == 0) && ((hasS x.op 4 || (hasS x.op 5 || x.a == 0)) && ((hasS x.op 5 || x.b == 0) &&
    ((hasS x.op 6 || decide (x.f = fld0)) && ((hasS x.op 7 || (x.n == 0 && x.s == [])) && ((hasS x.op 8 || x.t.isEmpty) && (hasS x.op 9 || x.fields.isEmpty))))))))
def numbersS (x : Stp) : Bool :=
  if x.op = 4 ∨ x.op = 24 then inS x.a (-1048576) 1048576 && (x.a != 0 && inS x.b (-1099511627776) 1099511627776)
  else if x.op = 6 ∨ x.op = 26 then inS x.a 2 1048576
  else if x.op = 5 then inS x.a 1 1000 && apartS x.t x.a
  else if x.op = 25 then apartS x.t 1000 else true
def ytRightS (x : Stp) : Bool :=
  !(usesS x.op).isEmpty && (zeroS x && (inS x.form 0 200 && (inS x.field 0 255 && (inS x.place 0 8 && (inS x.to 0 255 && (numbersS x &&
    (!(hasS x.op 3 && x.to == x.field) && (!(hasS x.op 6 && !rgtS x.f) && (!(hasS x.op 6 && (hasS x.op 1 && x.f.id != x.field)) &&
      (!(x.op == 2 && !(inS x.n (-1099511627776) 1099511627776 && decide ((x.s.length : Int) ≤ 32))) && (!(hasS x.op 2 && (hasS x.op 7 && !hasV x.f x.n x.s)) && (!hasS x.op 9 || fineS ⟨x.form, x.fields⟩))))))))))))
theorem op_in (op : Int) : op ∈ opsL ∨ (op ∉ opsL ∧ usesS op = []) := by
  by_cases h : op ∈ opsL
  · exact .inl h
  · refine .inr ⟨h, ?_⟩
    simp only [opsL, List.mem_cons, List.not_mem_nil, or_false, not_or] at h
    obtain ⟨h1, h2, h3, h4, h5, h6, h7, h8, h9, h10, h11, h12, h13, h14, h15, h16, h17, h18, h19, h20⟩ := h
    simp only [usesS, h1, h2, h3, h4, h5, h6, h7, h8, h9, h10, h11, h12, h13, h14, h15, h16, h17, h18, h19, h20, if_false]
theorem op_all {p : Int → Prop} (op : Int) (h : ∀ o ∈ opsL, p o) (h0 : op ∉ opsL → usesS op = [] → p op) : p op := by
  rcases op_in op with h1 | ⟨h1, h2⟩
  · exact h op h1
  · exact h0 h1 h2
theorem tRight_eq (x : Stp) : tRightS x = ytRightS x := by
  obtain ⟨op, form, field, place, to, a, b, f, n, s, t, fields⟩ := x
  refine op_all (p := fun op => tRightS ⟨op, form, field, place, to, a, b, f, n, s, t, fields⟩ = ytRightS ⟨op, form, field, place, to, a, b, f, n, s, t, fields⟩) op ?_ ?_
  · intro o ho
    simp only [opsL, List.mem_cons, List.not_mem_nil, or_false] at ho
    rcases ho with rfl | rfl | rfl | rfl | rfl | rfl | rfl | rfl | rfl | rfl | rfl | rfl | rfl | rfl | rfl | rfl | rfl | rfl | rfl | rfl <;>
    · simp [tRightS, ytRightS, usesS, fitsS, onlyS, zeroS, numbersS, hasS, inS, List.isEmpty_iff]
      rw [Bool.eq_iff_iff]
      simp only [Bool.and_eq_true, Bool.or_eq_true, decide_eq_true_eq, Bool.not_eq_true', beq_iff_eq, bne_iff_ne, ne_eq]
      constructor <;> (intro h; simp_all) <;> (try omega) <;> grind
  · intro _ h
    simp [tRightS, ytRightS, h]
theorem uses_bound (x : Stp) : ∀ (i : Nat) (p : Int), (usesS x.op)[i]? = some p → p = 8 → ((usesS x.op).take i).all (fitsS x) = true → 1 ≤ (if x.op = 5 then x.a else 1000) ∧ (if x.op = 5 then x.a else 1000) ≤ 1000 := by
  intro i p h1 h2 h3
  by_cases ho : x.op = 5
  · subst h2
    have hu : usesS x.op = [0, 1, 4, 8] := by rw [ho]; rfl
    rw [hu] at h1 h3
    match i, h1, h3 with
    | 3, _, h3 =>
      simp [fitsS, ho, inS] at h3
      simp only [ho, if_true]
      omega
    | 0, h1, _ => simp at h1
    | 1, h1, _ => simp at h1
    | 2, h1, _ => simp at h1
    | n + 4, h1, _ => simp at h1
  · simp [ho]
theorem uses_len (op : Int) : (usesS op).length ≤ 5 := by
  refine op_all (p := fun op => (usesS op).length ≤ 5) op ?_ ?_
  · decide
  · intro _ h; simp [h]
end Go.Proofs.Ytalpknofimglbaa.V
namespace Go.Proofs.Ytalpknofimglbaa.V
open Go
theorem fineS_fld {x : Stp} (h : fineS ⟨x.form, x.fields⟩ = true) : x.fields.length ≤ 8 ∧ ∀ f ∈ x.fields, rgtS f = true := by
  obtain ⟨_, h2, _, h4, _⟩ := (fineS_iff _).1 h
  exact ⟨h2.2, h4⟩
def Fits (x : Stp) (p : Int) : Prop := (0 ≤ p ∧ p ≤ 9) ∧ fitsS x p = true ∧ (p = 8 → (if x.op = 5 then x.a else 1000) ≤ 1000)
theorem uses_rng (op : Int) : ∀ p ∈ usesS op, 0 ≤ p ∧ p ≤ 9 := by
  refine op_all (p := fun op => ∀ p ∈ usesS op, 0 ≤ p ∧ p ≤ 9) op ?_ ?_
  · decide
  · intro _ h; simp [h]
theorem right_fits {x : Stp} (h : tRightS x = true) : (∀ p ∈ usesS x.op, Fits x p) ∧ x.op ∈ opsL ∧ x = onlyS x := by
  simp only [tRightS, Bool.and_eq_true, List.all_eq_true, decide_eq_true_eq, Bool.not_eq_true', List.isEmpty_eq_false_iff] at h
  obtain ⟨h1, h2, h3⟩ := h
  refine ⟨fun p hp => ⟨uses_rng _ p hp, h1 p hp, fun h8 => ?_⟩, ?_, h3⟩
  · obtain ⟨i, hi, e⟩ := List.mem_iff_getElem.1 hp
    exact (uses_bound x i p (by rw [← e]; exact List.getElem?_eq_getElem hi) h8 (List.all_eq_true.2 fun q hq => h1 q (List.mem_of_mem_take hq))).2
  · rcases op_in x.op with h | ⟨_, h⟩
    · exact h
    · exact absurd h h2
end Go.Proofs.Ytalpknofimglbaa.V
namespace Go.Proofs.Ytalpknofimglbaa.V
open Go
set_option maxRecDepth 20000 in
theorem c_tuses (op : Int) : tbl E0 65 [.int .i64 op] [] = some ([intsV (usesS op)], []) := by
  refine op_all (p := fun op => tbl E0 65 [.int .i64 op] [] = some ([intsV (usesS op)], [])) op ?_ ?_
  · intro o ho
    simp only [opsL, List.mem_cons, List.not_mem_nil, or_false] at ho
    rcases ho with rfl | rfl | rfl | rfl | rfl | rfl | rfl | rfl | rfl | rfl | rfl | rfl | rfl | rfl | rfl | rfl | rfl | rfl | rfl | rfl <;> exact tbl_iff.2 ⟨12, by kernel_rfl⟩
  · intro h hu
    simp only [opsL, List.mem_cons, List.not_mem_nil, or_false, not_or] at h
    obtain ⟨h1, h2, h3, h4, h5, h6, h7, h8, h9, h10, h11, h12, h13, h14, h15, h16, h17, h18, h19, h20⟩ := h
    have cB : ltbl E0 65 0 1000009 [.int .i64 op, .bool false] [] = some (50001, [], []) := t_tusesB op false (by simp [s_tusesB, h1, h2, h3, h4, h5, h6, h7, h8, h9, h10, h11, h12, h13, h14, h15, h16, h17, h18, h19, h20])
    have cA : ltbl E0 65 0 1000004 [.int .i64 op, .bool false] [] = some (50001, [], []) := t_tusesA op false (by
      have : (op == 23) = false := beq_f h13
      simp [s_tusesA, h1, h2, h3, this, cB])
    have : (op == 22) = false := beq_f h12
    exact t_tuses op (by simp [s_tuses, h1, this, cA, hu])
set_option maxRecDepth 20000 in
theorem c_yuses (op : Int) : ∃ s : List UInt8, tbl E0 57 [.int .i64 op] [] = some ([.str s], []) ∧ s = (usesS op).map (fun p => if p = 0 then 102 else if p = 1 then 100 else if p = 2 then 112 else if p = 3 then 116 else if p = 4 then 97 else if p = 5 then 98 else if p = 6 then 70 else if p = 7 then 86 else if p = 8 then 84 else 76) := by
  refine ⟨_, ?_, rfl⟩
  refine op_all (p := fun op => tbl E0 57 [.int .i64 op] [] = some ([.str ((usesS op).map (fun p => if p = 0 then 102 else if p = 1 then 100 else if p = 2 then 112 else if p = 3 then 116 else if p = 4 then 97 else if p = 5 then 98 else if p = 6 then 70 else if p = 7 then 86 else if p = 8 then 84 else 76))], [])) op ?_ ?_
  · intro o ho
    simp only [opsL, List.mem_cons, List.not_mem_nil, or_false] at ho
    rcases ho with rfl | rfl | rfl | rfl | rfl | rfl | rfl | rfl | rfl | rfl | rfl | rfl | rfl | rfl | rfl | rfl | rfl | rfl | rfl | rfl <;> exact tbl_iff.2 ⟨12, by kernel_rfl⟩
  · intro h hu
    simp only [opsL, List.mem_cons, List.not_mem_nil, or_false, not_or] at h
    obtain ⟨h1, h2, h3, h4, h5, h6, h7, h8, h9, h10, h11, h12, h13, h14, h15, h16, h17, h18, h19, h20⟩ := h
    have cB : ltbl E0 57 0 1000009 [.int .i64 op, .bool false] [] = some (50001, [], []) := t_yusesB op false (by simp [s_yusesB, h1, h2, h3, h4, h5, h6, h7, h8, h9, h10, h11, h12, h13, h14, h15, h16, h17, h18, h19, h20])
    have cA : ltbl E0 57 0 1000004 [.int .i64 op, .bool false] [] = some (50001, [], []) := t_yusesA op false (by
      have : (op == 23) = false := beq_f h13
      simp [s_yusesA, h1, h2, h3, this, cB])
    have : (op == 22) = false := beq_f h12
    exact t_yuses op (by simp [s_yuses, h1, this, cA, hu])
theorem c_tin (n lo hi : Int) : tbl E0 90 [.int .i64 n, .int .i64 lo, .int .i64 hi] [] = some ([.bool (inS n lo hi)], []) := t_tin n lo hi (by
  by_cases h : lo ≤ n <;> simp [s_tin, inS, h])
theorem c_ybetween (n lo hi : Int) : tbl E0 59 [.int .i64 n, .int .i64 lo, .int .i64 hi] [] = some ([.bool (inS n lo hi)], []) := t_ybetween n lo hi (by
  by_cases h : lo ≤ n <;> simp [s_ybetween, inS, h])
theorem c_fboundsG (f : Fld) : ∃ hi, tbl E0 104 [fldV f] [] = some ([.int .i64 (loS f), .int .i64 hi], []) ∧ (rgtS f = true → hi = hiS f) := by
  by_cases h : f.kind = 3 → rgtS f = true
  · exact ⟨_, c_fbounds f h, fun _ => rfl⟩
  · rw [Classical.not_imp] at h
    refine ⟨_, t_fbounds f (by simp [s_fbounds, h.1, loS]; rfl), fun hr => absurd hr h.2⟩
theorem c_fHas (f : Fld) (n : Int) (s : List UInt8) : tbl E0 91 [fldV f, .agg [.int .i64 n, .str s]] [] = some ([.bool (hasV f n s)], []) := by
  obtain ⟨hi, hb, hh⟩ := c_fboundsG f
  have c := c_fRight f
  refine t_fHas f n s ?_
  simp only [s_fHas, OA_chk, cond_true, OA_callx, hb, c, Option.bind_some, u_asC, u_asI, u_asB, u_asN, OA_join, OA_asm, hasV, longestS, inS]
  by_cases hr : rgtS f = true
  · have := hh hr
    subst this
    by_cases k : f.kind = 4 <;> by_cases a : loS f ≤ n <;> by_cases b : n ≤ hiS f <;> simp [hr, k, a, b]
  · have hr : rgtS f = false := by simpa using hr
    by_cases k : f.kind = 4 <;> simp [hr, k]
theorem c_yHas (f : Fld) (n : Int) (s : List UInt8) : tbl E0 63 [fldV f, .agg [.int .i64 n, .str s]] [] = some ([.bool (hasV f n s)], []) := by
  obtain ⟨lo, hi, most, hb, hh⟩ := c_ySpan f
  refine t_yHas f n s ?_
  simp only [s_yHas, OA_chk, cond_true, OA_callx, hb, Option.bind_some, u_asC, u_asI, u_asB, u_asN, OA_join, OA_asm, hasV, longestS, inS]
  by_cases hr : rgtS f = true
  · obtain ⟨rfl, rfl, rfl⟩ := hh hr
    by_cases k : f.kind = 4 <;> by_cases a : loS f ≤ n <;> by_cases b : n ≤ hiS f <;> simp [hr, k, a, b]
  · have hr : rgtS f = false := by simpa using hr
    simp [hr]
theorem c_EqualIL (a b : List Int) (hl : a.length ≤ 211106232532992) (hab : a.length = b.length) : ∀ (r r' : List Int) (i : Nat), a.drop i = r → b.drop i = r' →
    ltbl E0 84 0 4 [intsV a, intsV b, .int .i64 a.length, .int .i64 i] [] = some (if r = r' then (1, [], []) else (0, [.bool false], [])) := by
  intro r
  induction r with
  | nil =>
    intro r' i hr hr'
    have h : a.length ≤ i := by simpa using hr
    have : r' = [] := by rw [← hr']; simp; omega
    subst this
    refine t_EqualIL _ _ _ _ ?_
    have : ¬ ((i : Int) < a.length) := by omega
    simp [s_EqualIL, this]
  | cons x r ih =>
    intro r' i hr hr'
    obtain ⟨hlt, hget, hr2⟩ := drop_c hr
    cases r' with
    | nil => simp at hr'; omega
    | cons y r' =>
      obtain ⟨_, hget', hr2'⟩ := drop_c hr'
      have h2 : (i : Int) < a.length := by omega
      have e1 := i64_succ (i := i) (by omega)
      have h := ih r' (i + 1) hr2 hr2'
      refine t_EqualIL _ _ _ _ ?_
      simp only [s_EqualIL, OA_asm, List.length_map, h2, decide_true, cond_true, OA_chk, Int.natCast_nonneg, nthE, Int.toNat_natCast, List.getElem?_map, hget, hget', Option.map_some, u_asA, u_asC, u_asI, u_asB, u_asL, u_asN, e1, h]
      by_cases e : x = y
      · simp [e]
      · simp [e]
theorem c_EqualI (a b : List Int) (h : a.length ≤ 211106232532992) : tbl E0 84 [intsV a, intsV b] [] = some ([.bool (decide (a = b))], []) :=
  t_EqualI a b (by
    simp only [s_EqualI, OA_asm, List.length_map, OA_loop]
    by_cases hab : a.length = b.length
    · have e := c_EqualIL a b h hab a b 0 rfl rfl
      simp only [Int.natCast_zero] at e
      have h' : ((a.length : Int) != (b.length : Int)) = false := by rw [hab]; simp
      rw [h', cond_false, e]
      by_cases e2 : a = b <;> simp [e2]
    · have : ¬ (a = b) := fun e => hab (by rw [e])
      have h' : ((a.length : Int) != (b.length : Int)) = true := bne_t (by omega)
      rw [h']
      simp [this])
def freshI (below : Int) : List Bool → List Int → Bool
  | _, [] => true
  | s, n :: l => inS n 0 (below - 1) && !((s[n.toNat]?).getD false) && freshI below (s.set n.toNat true) l
theorem c_tapartL (l : List Int) (below : Int) (hb : 1 ≤ below ∧ below ≤ 1000) (hl : l.length ≤ 211106232532992) : ∀ (r : List Int) (i : Nat) (s : List Bool), l.drop i = r → s.length = 1000 →
    ltbl E0 92 0 3 [intsV l, .int .i64 below, intsV l, .int .i64 l.length, .int .i64 i] [s.map AV.bool] = some (if freshI below s r then (1, [intsV l], []) else (0, [.bool false], [])) := by
  intro r
  induction r with
  | nil =>
    intro i s hr hs
    have h : l.length ≤ i := by simpa using hr
    refine t_tapartL _ _ _ _ _ ?_
    have : ¬ ((i : Int) < l.length) := by omega
    simp [s_tapartL, this, freshI]
  | cons f r ih =>
    intro i s hr hs
    obtain ⟨hlt, hget, hr2⟩ := drop_c hr
    have h2 : (i : Int) < l.length := by omega
    have e1 := i64_succ (i := i) (by omega)
    have h := ih (i + 1) (s.set f.toNat true) hr2 (by simpa using hs)
    have w : IntKind.i64.wrap (below - 1) = below - 1 := wrap_i64 _ (by omega) (by omega)
    have c := c_tin f 0 (below - 1)
    refine t_tapartL _ _ _ _ _ ?_
    simp only [s_tapartL, h2, decide_true, cond_true, OA_chk, Int.natCast_nonneg, nthE, Int.toNat_natCast, List.getElem?_map, hget, Option.map_some, u_asA, u_asC, u_asI, u_asB, u_asN, OA_callx, OA_join, w, c, Option.bind_some, e1, freshI]
    by_cases hg : inS f 0 (below - 1) = true
    · have rr : 0 ≤ f ∧ f ≤ below - 1 := by simpa [inS] using hg
      have hk : f.toNat < s.length := by omega
      have g : s[f.toNat]? = some s[f.toNat] := List.getElem?_eq_getElem hk
      have a1 : 0 ≤ f := rr.1
      have a2 : f < ((1000 : Nat) : Int) := by omega
      have a3 : 0 + f.toNat * 1 = f.toNat := by omega
      have a4 : (f.toNat + 1).ble (List.map AV.bool s).length = true := by rw [Nat.ble_eq, List.length_map]; omega
      simp only [hg, a1, a2, a3, a4, decide_true, Bool.and_self, cond_true, g, Option.map_some, u_asB, Bool.not_true, cond_false, Option.bind_some, Tok.untok_tok, setAt_bool, all_flat_bool, h, Option.getD_some, Bool.true_and]
      by_cases hb : s[f.toNat] = true
      · simp [hb]
      · have hb : s[f.toNat] = false := by simpa using hb
        simp [hb]
    · have hg : inS f 0 (below - 1) = false := by simpa using hg
      simp [hg]
theorem freshI_iff (below : Int) (hb : below ≤ 1000) : ∀ (l : List Int) (s : List Bool), s.length = 1000 → (freshI below s l = true ↔ (∀ n ∈ l, inS n 0 (below - 1) = true ∧ s[n.toNat]? = some false) ∧ nodupI l = true)
  | [], s, _ => by simp [freshI, nodupI]
  | f :: l, s, hs => by
    have ih := freshI_iff below hb l (s.set f.toNat true) (by simpa using hs)
    simp only [freshI, Bool.and_eq_true, ih, nodupI, Bool.not_eq_true', List.mem_cons, forall_eq_or_imp]
    have rng : ∀ {n : Int}, inS n 0 (below - 1) = true → 0 ≤ n ∧ n < 1000 := fun {n} h => by
      have : 0 ≤ n ∧ n ≤ below - 1 := by simpa [inS] using h
      omega
    have key : inS f 0 (below - 1) = true → ((s[f.toNat]?).getD false = false ↔ s[f.toNat]? = some false) := by
      intro hg
      have rr := rng hg
      have hk : f.toNat < s.length := by omega
      rw [List.getElem?_eq_getElem hk]
      simp
    have key2 : inS f 0 (below - 1) = true → ∀ g, inS g 0 (below - 1) = true → ((s.set f.toNat true)[g.toNat]? = some false ↔ (s[g.toNat]? = some false ∧ g ≠ f)) := by
      intro hg g hgg
      have r1 := rng hg
      have r2 := rng hgg
      rw [List.getElem?_set]
      by_cases e : f.toNat = g.toNat
      · have e' : g = f := by omega
        rw [if_pos e, if_pos (by omega)]
        simp [e']
      · have e' : g ≠ f := by omega
        rw [if_neg e]
        simp [e']
    constructor
    · rintro ⟨⟨h1, h2⟩, h3, h4⟩
      refine ⟨⟨⟨h1, (key h1).1 h2⟩, fun g hg => ⟨(h3 g hg).1, ((key2 h1 g (h3 g hg).1).1 (h3 g hg).2).1⟩⟩, ?_, h4⟩
      simp only [List.any_eq_false, beq_iff_eq]
      intro g hg
      exact ((key2 h1 g (h3 g hg).1).1 (h3 g hg).2).2
    · rintro ⟨⟨⟨h1, h2⟩, h3⟩, h4, h5⟩
      refine ⟨⟨h1, (key h1).2 h2⟩, fun g hg => ⟨(h3 g hg).1, (key2 h1 g (h3 g hg).1).2 ⟨(h3 g hg).2, ?_⟩⟩, h5⟩
      simp only [List.any_eq_false, beq_iff_eq] at h4
      exact h4 g hg
theorem freshI_0 (below : Int) (hb : below ≤ 1000) (l : List Int) : freshI below (List.replicate 1000 false) l = ((l.all fun n => inS n 0 (below - 1)) && nodupI l) := by
  rw [Bool.eq_iff_iff, freshI_iff _ hb _ _ List.length_replicate]
  simp only [Bool.and_eq_true, List.all_eq_true]
  constructor
  · rintro ⟨h1, h2⟩; exact ⟨fun f hf => (h1 f hf).1, h2⟩
  · rintro ⟨h1, h2⟩
    refine ⟨fun f hf => ⟨h1 f hf, ?_⟩, h2⟩
    have r : 0 ≤ f ∧ f ≤ below - 1 := by simpa [inS] using h1 f hf
    rw [List.getElem?_replicate, if_pos (by omega)]
theorem c_tapart (l : List Int) (below : Int) (hb : 1 ≤ below ∧ below ≤ 1000) (hl : l.length ≤ 211106232532992) : tbl E0 92 [intsV l, .int .i64 below] [] = some ([.bool (apartS l below)], []) :=
  t_tapart l below (by
    have e := c_tapartL l below hb hl l 0 (List.replicate 1000 false) rfl List.length_replicate
    simp only [Int.natCast_zero, freshI_0 _ hb.2] at e
    have c := c_tin (l.length : Int) 1 64
    have e2 : inS (l.length : Int) 1 64 = decide (1 ≤ l.length ∧ l.length ≤ 64) := by
      simp only [inS, Bool.decide_and]
      congr 1 <;> exact decide_eq_decide.2 (by omega)
    simp only [List.map_replicate] at e
    simp only [s_tapart, OA_asm, OA_chk, cond_true, OA_loop, List.length_map, e]
    · unfold apartS
      cases hx : ((l.all fun n => inS n 0 (below - 1)) && nodupI l) with
      | true => simp [c, e2]
      | false => simp)
end Go.Proofs.Ytalpknofimglbaa.V
namespace Go.Proofs.Ytalpknofimglbaa.V
open Go
set_option maxRecDepth 20000 in
theorem c_tonly (x : Stp) : tbl E0 67 [stpV x] [] = some ([stpV (onlyS x)], []) := by
  obtain ⟨op, form, field, place, to, a, b, f, n, s, t, fields⟩ := x
  refine op_all (p := fun op => tbl E0 67 [stpV ⟨op, form, field, place, to, a, b, f, n, s, t, fields⟩] [] = some ([stpV (onlyS ⟨op, form, field, place, to, a, b, f, n, s, t, fields⟩)], [])) op ?_ ?_
  · intro o ho
    simp only [opsL, List.mem_cons, List.not_mem_nil, or_false] at ho
    rcases ho with rfl | rfl | rfl | rfl | rfl | rfl | rfl | rfl | rfl | rfl | rfl | rfl | rfl | rfl | rfl | rfl | rfl | rfl | rfl | rfl <;> exact tbl_iff.2 ⟨20, by kernel_rfl⟩
  · intro h hu
    have c := c_tuses op
    rw [hu] at c
    have e2 : ltbl E0 67 0 3 [intsV [], .int .i64 0, .int .i64 0] [stpC ⟨op, form, field, place, to, a, b, f, n, s, t, fields⟩, stpC ⟨0, 0, 0, 0, 0, 0, 0, fld0, 0, [], [], []⟩, stpC ⟨op, 0, 0, 0, 0, 0, 0, fld0, 0, [], [], []⟩] = some (1, [], [stpC ⟨0, 0, 0, 0, 0, 0, 0, fld0, 0, [], [], []⟩, stpC ⟨op, 0, 0, 0, 0, 0, 0, fld0, 0, [], [], []⟩]) := t_tonlyL _ _ _ [] 0 0 (by simp [s_tonlyL])
    refine t_tonly _ ?_
    simp only [s_tonly, OA_chk, cond_true, OA_callx, c, Option.bind_some, u_asC, u_asL, u_asN, OA_asm, OA_loop, List.map_nil, List.length_nil, Int.natCast_zero, stpC, fld0, intsV, fldsV] at e2 ⊢
    rw [e2]
    simp [onlyS, hasS, hu, fld0]
theorem wrap0 {a b : Int} (ha : i64 a) (hb : i64 b) : (IntKind.i64.wrap (a - b) == 0) = (a == b) := by
  have : IntKind.i64.wrap (a - b) = (a - b + 9223372036854775808) % 18446744073709551616 - 9223372036854775808 := by rw [IntKind.wrap_i64]
  rw [this, Bool.eq_iff_iff, beq_iff_eq, beq_iff_eq]
  unfold i64 at ha hb
  omega
theorem stp_eq (x y : Stp) : decide (x = y) = ((decide (x.t = y.t) && decide (x.fields = y.fields)) && ((x.op == y.op && (x.form == y.form && (x.field == y.field && (x.place == y.place && (x.to == y.to && (x.a == y.a && x.b == y.b)))))) && (decide (x.f = y.f) && (x.n == y.n && x.s == y.s)))) := by
  obtain ⟨op, form, field, place, to, a, b, f, n, s, t, fields⟩ := x
  obtain ⟨op', form', field', place', to', a', b', f', n', s', t', fields'⟩ := y
  rw [Bool.eq_iff_iff]
  simp only [decide_eq_true_eq, Bool.and_eq_true, beq_iff_eq, Stp.mk.injEq]
  constructor
  · rintro ⟨rfl, rfl, rfl, rfl, rfl, rfl, rfl, rfl, rfl, rfl, rfl, rfl⟩; simp
  · rintro ⟨⟨rfl, rfl⟩, ⟨rfl, rfl, rfl, rfl, rfl, rfl, rfl⟩, rfl, rfl, rfl⟩; simp
theorem c_tSame (x y : Stp) (hx : x.ok) (hy : y.ok) (hs : x.sml) : tbl E0 56 [stpV x, stpV y] [] = some ([.bool (decide (x = y))], []) :=
  t_tSame x y (by
    obtain ⟨h1, h2, h3, h4, h5, h6, h7, _⟩ := hx
    obtain ⟨g1, g2, g3, g4, g5, g6, g7, _⟩ := hy
    have c1 := c_EqualI x.t y.t hs.1
    have c2 := c_EqualF x.fields y.fields hs.2
    simp only [s_tSame, OA_chk, cond_true, OA_callx, c1, c2, Option.bind_some, u_asC, u_asB, u_asN, OA_join, wrap0 h1 g1, wrap0 h2 g2, wrap0 h3 g3, wrap0 h4 g4, wrap0 h5 g5, wrap0 h6 g6, wrap0 h7 g7, fld_eq]
    simp only [Bool.and_true, stp_eq]
    generalize (x.op == y.op && (x.form == y.form && (x.field == y.field && (x.place == y.place && (x.to == y.to && (x.a == y.a && x.b == y.b)))))) = p
    generalize (x.n == y.n && x.s == y.s) = q
    cases decide (x.t = y.t) <;> cases decide (x.fields = y.fields) <;> cases p <;> cases decide (x.f = y.f) <;> simp)
theorem c_tfits (x : Stp) (p : Int) (hp : p = 8 → 1 ≤ (if x.op = 5 then x.a else 1000) ∧ (if x.op = 5 then x.a else 1000) ≤ 1000) (hs : x.sml) : tbl E0 66 [stpV x, .int .i64 p] [] = some ([.bool (fitsS x p)], []) := by
  have i1 := c_tin
  have i2 := c_fRight x.f
  have i3 := c_fHas x.f x.n x.s
  have i4 := c_sFine ⟨x.form, x.fields⟩ hs.2
  refine t_tfits x p ?_
  unfold s_tfits fitsS
  simp only [OA_chk, cond_true, cond_beq, OA_callx, OA_join, OA_asm]
  by_cases h0 : p = 0
  · simp only [h0, if_true, i1, Option.bind_some, u_asC, u_asB, u_asN]
  by_cases h1 : p = 1
  · simp [h1, i1]
  by_cases h2 : p = 2
  · simp [h2, i1]
  by_cases h3 : p = 3
  · simp only [h3, i1]
    cases inS x.to 0 255 <;> by_cases e : x.to = x.field <;> simp [e]
  by_cases h4 : p = 4
  · by_cases ho : x.op = 5
    · cases hi : inS x.a 1 1000 <;> simp [h4, i1, ho, hi]
    · simp [h4, i1, ho]
  by_cases h5 : p = 5
  · cases hi : inS x.a (-1048576) 1048576
    · simp [h5, i1, hi]
    · by_cases ha : x.a = 0
      · rw [ha] at hi; simp [h5, i1, hi, ha]
      · simp [h5, i1, hi, ha]
  by_cases h6 : p = 6
  · by_cases o1 : x.op = 1
    · cases hr : rgtS x.f <;> simp [h6, o1, i2, hr]
    · by_cases o2 : x.op = 22
      · cases hr : rgtS x.f <;> simp [h6, o2, i2, hr]
      · cases hr : rgtS x.f <;> simp [h6, o1, o2, beq_f o2, i2, hr]
  by_cases h7 : p = 7
  · by_cases ho : x.op = 2
    · cases hi : inS x.n (-1099511627776) 1099511627776 <;> simp [h7, ho, i1, hi]
    · simp [h7, ho, i3]
  by_cases h8 : p = 8
  · have hb := hp h8
    simp only [h8]
    by_cases ho : x.op = 5
    · simp only [ho, if_true] at hb ⊢
      have c := c_tapart x.t x.a hb hs.1
      simp [c]
    · simp only [ho, if_false] at hb ⊢
      have c := c_tapart x.t 1000 (by omega) hs.1
      simp [c]
  · simp [h0, h1, h2, h3, h4, h5, h6, h7, h8, i4]
end Go.Proofs.Ytalpknofimglbaa.V
namespace Go.Proofs.Ytalpknofimglbaa.V
open Go
theorem c_tRightL (x : Stp) (hs : x.sml) (l : List Int) (q : List Int) (hl : l.length ≤ 5) (hb : ∀ (i : Nat) (p : Int), l[i]? = some p → p = 8 → (l.take i).all (fitsS x) = true → 1 ≤ (if x.op = 5 then x.a else 1000) ∧ (if x.op = 5 then x.a else 1000) ≤ 1000) : ∀ (r : List Int) (i : Nat), l.drop i = r → (l.take i).all (fitsS x) = true →
    ltbl E0 33 0 3 [intsV q, intsV l, .int .i64 l.length, .int .i64 i] [stpC x] = some (if r.all (fitsS x) then (1, [intsV q], [stpC x]) else (0, [.bool false], [])) := by
  intro r
  induction r with
  | nil =>
    intro i hr ht
    have h : l.length ≤ i := by simpa using hr
    refine t_tRightL _ _ _ _ _ ?_
    have : ¬ ((i : Int) < l.length) := by omega
    simp [s_tRightL, this]
  | cons p r ih =>
    intro i hr ht
    obtain ⟨hlt, hget, hr2⟩ := drop_c hr
    have h2 : (i : Int) < l.length := by omega
    have e1 := i64_succ (i := i) (by omega)
    have c := c_tfits x p (fun h8 => hb i p hget h8 ht) hs
    refine t_tRightL _ _ _ _ _ ?_
    simp only [s_tRightL, h2, decide_true, cond_true, OA_chk, Int.natCast_nonneg, nthE, Int.toNat_natCast, List.getElem?_map, hget, Option.map_some, u_asA, u_asC, u_asI, u_asB, u_asN, OA_callx, c, Option.bind_some, e1]
    cases hf : fitsS x p with
    | false => simp [hf]
    | true =>
      have ht2 : (l.take (i + 1)).all (fitsS x) = true := by
        rw [List.take_add_one, hget]
        simp [hf]
        simpa using ht
      have h := ih (i + 1) hr2 ht2
      simp only [Bool.not_true, cond_false, h, List.all_cons, hf, Bool.true_and]
theorem only_ok {x : Stp} (hx : x.ok) : (onlyS x).ok := by
  obtain ⟨h1, h2, h3, h4, h5, h6, h7, h8, h9, h10, h11⟩ := hx
  have z : i64 0 := by unfold i64; omega
  unfold onlyS
  refine ⟨h1, ?_, ?_, ?_, ?_, ?_, ?_, ?_, ?_, ?_, ?_⟩ <;> dsimp only <;> split
  all_goals first
    | assumption
    | exact ⟨z, z, z, z, z⟩
    | simp
theorem c_tRight (x : Stp) (hx : x.ok) (hs : x.sml) : tbl E0 33 [stpV x] [] = some ([.bool (tRightS x)], []) := by
  have c := c_tuses x.op
  have e := c_tRightL x hs (usesS x.op) (usesS x.op) (uses_len _) (uses_bound x) (usesS x.op) 0 rfl rfl
  have c2 := c_tonly x
  have c3 := c_tSame x (onlyS x) hx (only_ok hx) hs
  simp only [Int.natCast_zero] at e
  refine t_tRight x ?_
  simp only [s_tRight, OA_chk, cond_true, OA_callx, c, Option.bind_some, u_asC, u_asL, u_asN, OA_asm, OA_loop, List.length_map, tRightS]
  simp only [stpC] at e
  rw [e]
  cases hf : (usesS x.op).all (fitsS x) with
  | false => simp
  | true =>
    cases hu : usesS x.op with
    | nil => simp
    | cons p l =>
      simp only [stpV, stpC] at c2 c3
      simp [c2, c3]
end Go.Proofs.Ytalpknofimglbaa.V
namespace Go.Proofs.Ytalpknofimglbaa.V
open Go
def letterS (p : Int) : Int := if p = 0 then 102 else if p = 1 then 100 else if p = 2 then 112 else if p = 3 then 116 else if p = 4 then 97 else if p = 5 then 98 else if p = 6 then 70 else if p = 7 then 86 else if p = 8 then 84 else 76
set_option maxRecDepth 50000 in
theorem yhas_all : (opsL.map fun o => [(0 : Int), 1, 2, 3, 4, 5, 6, 7, 8, 9].map fun p => (G E0 12).1 61 [.int .i64 o, .int .u8 (letterS p)] []) = (opsL.map fun o => [(0 : Int), 1, 2, 3, 4, 5, 6, 7, 8, 9].map fun p => some ([.bool (hasS o p)], [])) := by kernel_rfl
theorem c_yhas (op p : Int) (hp : p ∈ [(0 : Int), 1, 2, 3, 4, 5, 6, 7, 8, 9]) : tbl E0 61 [.int .i64 op, .int .u8 (letterS p)] [] = some ([.bool (hasS op p)], []) := by
  refine op_all (p := fun op => tbl E0 61 [.int .i64 op, .int .u8 (letterS p)] [] = some ([.bool (hasS op p)], [])) op ?_ ?_
  · intro o ho
    have h1 := List.map_inj_left.1 yhas_all o ho
    exact tbl_iff.2 ⟨12, List.map_inj_left.1 h1 p hp⟩
  · intro h hu
    obtain ⟨s, c, hs⟩ := c_yuses op
    rw [hu] at hs
    simp only [List.map_nil] at hs
    subst hs
    have e : ltbl E0 61 0 3 [.int .u8 (letterS p), .str [], .int .i64 0] [] = some (1, [], []) := t_yhasL _ _ _ (by simp [s_yhasL])
    exact t_yhas _ _ (by simp [s_yhas, c, e, hasS, hu])
theorem c_yh (op : Int) : (tbl E0 61 [.int .i64 op, .int .u8 100] [] = some ([.bool (hasS op 1)], []) ∧ tbl E0 61 [.int .i64 op, .int .u8 112] [] = some ([.bool (hasS op 2)], []) ∧ tbl E0 61 [.int .i64 op, .int .u8 116] [] = some ([.bool (hasS op 3)], [])) ∧
    (tbl E0 61 [.int .i64 op, .int .u8 97] [] = some ([.bool (hasS op 4)], []) ∧ tbl E0 61 [.int .i64 op, .int .u8 98] [] = some ([.bool (hasS op 5)], []) ∧ tbl E0 61 [.int .i64 op, .int .u8 70] [] = some ([.bool (hasS op 6)], [])) ∧
    (tbl E0 61 [.int .i64 op, .int .u8 86] [] = some ([.bool (hasS op 7)], []) ∧ tbl E0 61 [.int .i64 op, .int .u8 84] [] = some ([.bool (hasS op 8)], []) ∧ tbl E0 61 [.int .i64 op, .int .u8 76] [] = some ([.bool (hasS op 9)], [])) :=
  ⟨⟨c_yhas op 1 (by simp), c_yhas op 2 (by simp), c_yhas op 3 (by simp)⟩, ⟨c_yhas op 4 (by simp), c_yhas op 5 (by simp), c_yhas op 6 (by simp)⟩, ⟨c_yhas op 7 (by simp), c_yhas op 8 (by simp), c_yhas op 9 (by simp)⟩⟩
theorem cond_tt (a b : Bool) : (bif a then true else b) = (a || b) := by cases a <;> rfl
theorem cond_ff (a b : Bool) : (bif a then b else false) = (a && b) := by cases a <;> rfl
theorem cond_or (a b x : Bool) : (bif a then x else (b && x)) = ((a || b) && x) := by cases a <;> simp
theorem cond_nt (a b : Bool) : (bif !a then true else b) = (!a || b) := by cases a <;> rfl
theorem c_yzero (x : Stp) : tbl E0 58 [stpV x] [] = some ([.bool (zeroS x)], []) := by
  obtain ⟨⟨h1, h2, h3⟩, ⟨h4, h5, h6⟩, ⟨h7, h8, h9⟩⟩ := c_yh x.op
  refine t_yzero x ?_
  have ft : decide (x.f = fld0) = (x.f.id == 0 && (x.f.kind == 0 && (x.f.lo == 0 && (x.f.hi == 0 && (x.f.most == 0 && true))))) := (fld_eq x.f fld0).symm
  simp only [s_yzero, OA_chk, cond_true, OA_callx, h1, h2, h3, h4, h5, h6, h7, h8, h9, Option.bind_some, u_asC, u_asB, u_asN, OA_join, OA_asm, List.length_map, zeroS, ft]
  generalize (x.f.id == 0 && (x.f.kind == 0 && (x.f.lo == 0 && (x.f.hi == 0 && (x.f.most == 0 && true))))) = bf
  have ht : ((x.t.length : Int) == 0) = x.t.isEmpty := by cases x.t <;> simp; omega
  have hl : ((x.fields.length : Int) == 0) = x.fields.isEmpty := by cases x.fields <;> simp; omega
  simp only [tok_cond, Option.bind_some, Tok.untok_tok, cond_tt, cond_ff, cond_or, ht, hl, Bool.and_true, Bool.and_assoc]
end Go.Proofs.Ytalpknofimglbaa.V
namespace Go.Proofs.Ytalpknofimglbaa.V
open Go
theorem c_ytableK (l : List Int) (below : Int) (i : Nat) (n : Int) (hn : l[i]? = some n) (hl : l.length ≤ 211106232532992) : ∀ (d k : Nat), k + d = i →
    ltbl E0 86 0 7 [intsV l, .int .i64 below, .int .i64 i, .int .i64 k] [] = some (if ((l.take i).drop k).any (fun y => y == n) then (0, [.bool false], []) else (3, [intsV l, .int .i64 below, .int .i64 i], [])) := by
  obtain ⟨hi, _⟩ := List.getElem?_eq_some_iff.1 hn
  intro d
  induction d with
  | zero =>
    intro k hk
    have h1 : ¬ ((k : Int) < i) := by omega
    have h2 : (l.take i).drop k = [] := by rw [List.drop_eq_nil_iff, List.length_take]; omega
    exact t_ytableK _ _ _ _ (by simp [s_ytableK, h1, h2])
  | succ d ih =>
    intro k hk
    have h := ih (k + 1) (by omega)
    have h1 : (k : Int) < i := by omega
    have hk2 : k < l.length := by omega
    have e1 := i64_succ (i := k) (by omega)
    have hg : l[k]? = some l[k] := List.getElem?_eq_getElem hk2
    have h2 : (l.take i).drop k = l[k] :: (l.take i).drop (k + 1) := by
      rw [List.drop_eq_getElem_cons (by rw [List.length_take]; omega), List.getElem_take]
    refine t_ytableK _ _ _ _ ?_
    simp only [s_ytableK, h1, decide_true, cond_true, OA_chk, Int.natCast_nonneg, nthE, Int.toNat_natCast, List.getElem?_map, hg, hn, Option.map_some, u_asI, e1, h, h2, List.any_cons]
    by_cases hq : l[k] = n <;> simp [hq]
def idxI (below : Int) (l : List Int) : Nat → List Int → Bool
  | _, [] => true
  | i, n :: r => (inS n 0 (below - 1) && !((l.take i).any fun y => y == n)) && idxI below l (i + 1) r
theorem c_ytableL (l : List Int) (below : Int) (hb : 1 ≤ below ∧ below ≤ 1000) (hl : l.length ≤ 211106232532992) : ∀ (r : List Int) (i : Nat), l.drop i = r →
    ltbl E0 86 0 2 [intsV l, .int .i64 below, .int .i64 i] [] = some (if idxI below l i r then (1, [intsV l], []) else (0, [.bool false], [])) := by
  intro r
  induction r with
  | nil =>
    intro i hr
    have h : l.length ≤ i := by simpa using hr
    refine t_ytableL _ _ _ ?_
    have : ¬ ((i : Int) < l.length) := by omega
    simp [s_ytableL, this, idxI]
  | cons n r ih =>
    intro i hr
    obtain ⟨hlt, hget, hr2⟩ := drop_c hr
    have h2 : (i : Int) < l.length := by omega
    have e1 := i64_succ (i := i) (by omega)
    have h := ih (i + 1) hr2
    have ew : IntKind.i64.wrap (below - 1) = below - 1 := wrap_i64 _ (by omega) (by omega)
    have c := c_ybetween n 0 (below - 1)
    have c2 := c_ytableK l below i n hget hl i 0 (by omega)
    simp only [Int.natCast_zero, List.drop_zero] at c2
    refine t_ytableL _ _ _ ?_
    simp only [s_ytableL, OA_asm, List.length_map, h2, decide_true, cond_true, OA_chk, Int.natCast_nonneg, nthE, Int.toNat_natCast, List.getElem?_map, hget, Option.map_some, u_asC, u_asI, u_asB, u_asN, OA_callx, c, ew, Option.bind_some, OA_loop, c2, e1, h, idxI]
    rcases bor (inS n 0 (below - 1)) with hq | hq
    · rcases bor ((l.take i).any (fun y => y == n)) with hp | hp
      · simp [hq, hp]
      · simpa [hq, hp, e1] using h
    · simp [hq]
theorem idxI_iff (below : Int) : ∀ (r p : List Int), idxI below (p ++ r) p.length r = true ↔ (∀ n ∈ r, inS n 0 (below - 1) = true ∧ ∀ y ∈ p, y ≠ n) ∧ nodupI r = true
  | [], p => by simp [idxI, nodupI]
  | n :: r, p => by
    have ih := idxI_iff below r (p ++ [n])
    simp only [List.append_assoc, List.singleton_append, List.length_append, List.length_singleton] at ih
    simp only [idxI, Bool.and_eq_true, ih, nodupI, List.mem_cons, forall_eq_or_imp, Bool.not_eq_true', List.any_eq_false, beq_iff_eq, List.mem_append, List.not_mem_nil, or_false, List.take_left']
    constructor
    · rintro ⟨⟨h1, h2⟩, h3, h4⟩
      refine ⟨⟨⟨h1, h2⟩, fun y hy => ⟨(h3 y hy).1, fun f hf => (h3 y hy).2 f (Or.inl hf)⟩⟩, fun y hy e => (h3 y hy).2 n (Or.inr rfl) e.symm, h4⟩
    · rintro ⟨⟨⟨h1, h2⟩, h3⟩, h4, h5⟩
      refine ⟨⟨h1, h2⟩, fun y hy => ⟨(h3 y hy).1, ?_⟩, h5⟩
      rintro f (hf | rfl)
      · exact (h3 y hy).2 f hf
      · exact fun e => h4 y hy e.symm
theorem idxI_0 (below : Int) (l : List Int) : idxI below l 0 l = ((l.all fun n => inS n 0 (below - 1)) && nodupI l) := by
  rw [Bool.eq_iff_iff]
  have := idxI_iff below l []
  simp only [List.nil_append, List.length_nil] at this
  rw [this]
  simp
theorem c_ytable (l : List Int) (below : Int) (hb : 1 ≤ below ∧ below ≤ 1000) (hl : l.length ≤ 211106232532992) : tbl E0 86 [intsV l, .int .i64 below] [] = some ([.bool (apartS l below)], []) :=
  t_ytable l below (by
    have e := c_ytableL l below hb hl l 0 rfl
    simp only [Int.natCast_zero, idxI_0] at e
    simp only [s_ytable, OA_loop, e, apartS]
    cases ((l.all fun n => inS n 0 (below - 1)) && nodupI l) with
    | false => simp
    | true =>
      by_cases a : 1 ≤ l.length
      · have a2 : (l.length : Int) ≥ 1 := by omega
        by_cases b : l.length ≤ 64
        · have b2 : (l.length : Int) ≤ 64 := by omega
          simp [a, a2, b, b2]
        · have b2 : ¬ ((l.length : Int) ≤ 64) := by omega
          simp [a, a2, b, b2]
      · have a2 : ¬ ((l.length : Int) ≥ 1) := by omega
        simp [a, a2])
theorem c_ynumbers (x : Stp) (hs : x.t.length ≤ 211106232532992) : tbl E0 60 [stpV x] [] = some ([.bool (numbersS x)], []) :=
  t_ynumbers x (by
    have i1 := c_ybetween
    have i3 := c_ytable x.t 1000 (by omega) hs
    simp only [s_ynumbers, OA_chk, cond_true, OA_callx, OA_join, i1, i3, Option.bind_some, u_asC, u_asB, u_asN, numbersS]
    by_cases h4 : x.op = 4
    · simp only [h4]
      cases inS x.a (-1048576) 1048576 <;> cases inS x.b (-1099511627776) 1099511627776 <;> by_cases ha : x.a = 0 <;> simp [ha]
    · by_cases h24 : x.op = 24
      · simp only [h24]
        cases inS x.a (-1048576) 1048576 <;> cases inS x.b (-1099511627776) 1099511627776 <;> by_cases ha : x.a = 0 <;> simp [ha]
      · have f4 : (x.op == 4) = false := beq_f h4
        have f24 : (x.op == 24) = false := beq_f h24
        by_cases h6 : x.op = 6
        · simp [h6]
        · have f6 : (x.op == 6) = false := beq_f h6
          by_cases h26 : x.op = 26
          · simp [h26]
          · have f26 : (x.op == 26) = false := beq_f h26
            by_cases h5 : x.op = 5
            · cases hi : inS x.a 1 1000 with
              | false => simp [h5, hi]
              | true =>
                have hb : 1 ≤ x.a ∧ x.a ≤ 1000 := by simpa [inS] using hi
                have i2 := c_ytable x.t x.a hb hs
                simp [h5, hi, i2]
            · have f5 : (x.op == 5) = false := beq_f h5
              by_cases h25 : x.op = 25 <;> simp [h4, h24, h6, h26, h5, h25, f4, f24, f6, f26, f5])
theorem ret_ff (p q : Bool) : (bif p then some ([AV.bool false], []) else some ([AV.bool q], []) : Option CR) = some ([AV.bool (!p && q)], []) := by cases p <;> rfl
theorem cond_or2 (p a b : Bool) : (bif p then a || b else b) = ((p && a) || b) := by cases p <;> rfl
theorem c_ytRight (x : Stp) (hs : x.sml) : tbl E0 31 [stpV x] [] = some ([.bool (ytRightS x)], []) := by
  obtain ⟨⟨h1, h2, h3⟩, ⟨h4, h5, h6⟩, ⟨h7, h8, h9⟩⟩ := c_yh x.op
  obtain ⟨s, cu, hu⟩ := c_yuses x.op
  have cz := c_yzero x
  have cn := c_ynumbers x hs.1
  have cr := c_yRight x.f
  have ch := c_yHas x.f x.n x.s
  have cf := c_yFine ⟨x.form, x.fields⟩ hs.2
  have he : (s == []) = (usesS x.op).isEmpty := by rw [hu]; cases usesS x.op <;> simp
  refine t_ytRight x ?_
  simp only [stpV, stpC, fldV, fldC, frmV, intsV, fldsV] at cz cn cr ch cf
  simp only [s_ytRight, OA_chk, cond_true, OA_callx, cu, cz, cn, cr, ch, cf, h1, h2, h3, h4, h5, h6, h7, h8, h9, c_ybetween, Option.bind_some, u_asC, u_asB, u_asS, u_asN, OA_join, OA_asm, he, ytRightS]
  simp only [tok_cond, Option.bind_some, Tok.untok_tok, cond_tt, cond_ff, cond_or, cond_nt]
  have e32 : decide ((x.s.length : Int) > 32) = !decide ((x.s.length : Int) ≤ 32) := by
    rw [← decide_not]; exact decide_eq_decide.2 (by omega)
  simp only [cond_or2, e32, ret_ff, Bool.not_or, Bool.not_not, Bool.and_assoc, Bool.not_and]
def bigT (x : Stp) : Bool := decide (100 < x.t.length) || decide (40 < x.fields.length)
theorem c_yGreatL (l : List Stp) : ∀ (m : Nat) (r : List Stp) (i : Nat), l.drop i = r → i + m = 61 →
    ltbl E0 21 0 2 [stpsV l, .int .i64 i] [] = some (if (r.take m).any bigT then (0, [.bool true], []) else (1, [stpsV l], [])) := by
  intro d
  induction d with
  | zero =>
    intro r i hr hm
    have : ¬ ((i : Int) < 61) := by omega
    refine t_yGreatL _ _ ?_
    by_cases h : (i : Int) < l.length <;> simp [s_yGreatL, this, h]
  | succ d ih =>
    intro r i hr hm
    cases r with
    | nil =>
      have h : l.length ≤ i := by simpa using hr
      have : ¬ ((i : Int) < l.length) := by omega
      exact t_yGreatL _ _ (by simp [s_yGreatL, this])
    | cons x r =>
      obtain ⟨hlt, hget, hr2⟩ := drop_c hr
      have h2 : (i : Int) < l.length := by omega
      have h3 : (i : Int) < 61 := by omega
      have e1 := i64_succ (i := i) (by omega)
      have h := ih r (i + 1) hr2 (by omega)
      refine t_yGreatL _ _ ?_
      simp only [s_yGreatL, OA_asm, OA_join, List.length_map, h2, h3, decide_true, cond_true, OA_chk, Int.natCast_nonneg, nthE, Int.toNat_natCast, List.getElem?_map, hget, Option.map_some, u_asA, u_asC, u_asI, u_asS, u_asL, u_asB, u_asN, Option.bind_some, Tok.untok_tok, e1, h, List.take_succ_cons, List.any_cons]
      by_cases a : 100 < x.t.length
      · have a2 : (x.t.length : Int) > 100 := by omega
        simp [a2, bigT, a]
      · have a2 : ¬ ((x.t.length : Int) > 100) := by omega
        by_cases b : 40 < x.fields.length
        · have b2 : (x.fields.length : Int) > 40 := by omega
          simp [a2, b2, bigT, a, b]
        · have b2 : ¬ ((x.fields.length : Int) > 40) := by omega
          have : bigT x = false := by simp [bigT, a, b]
          simp [a2, b2, this]
def greatT (l : List Stp) : Bool := (l.take 61).any bigT || decide (60 < l.length)
theorem c_yGreat (l : List Stp) : tbl E0 21 [stpsV l] [] = some ([.bool (greatT l)], []) :=
  t_yGreat l (by
    have e := c_yGreatL l 61 l 0 rfl rfl
    simp only [Int.natCast_zero] at e
    simp only [s_yGreat, OA_loop, e, greatT]
    rcases bor ((l.take 61).any bigT) with hb | hb
    · simp [hb]
    · by_cases h : 60 < l.length
      · have : (l.length : Int) > 60 := by omega
        simp [hb, h, this]
      · have : ¬ ((l.length : Int) > 60) := by omega
        simp [hb, h, this])
end Go.Proofs.Ytalpknofimglbaa.V
namespace Go.Proofs.Ytalpknofimglbaa.V
open Go
end Go.Proofs.Ytalpknofimglbaa.V
namespace Go.Proofs.Ytalpknofimglbaa.V
open Go
theorem flat_flds (l : List Fld) : (l.map fldV).all AV.flat = true := by
  rw [List.all_eq_true]
  intro x hx
  obtain ⟨f, _, rfl⟩ := List.mem_map.1 hx
  rfl
theorem flat_frms (l : List Frm) : (l.map frmV).all AV.flat = true := by
  rw [List.all_eq_true]
  intro x hx
  obtain ⟨f, _, rfl⟩ := List.mem_map.1 hx
  rfl
theorem flat_ints (l : List Int) : (l.map fun n => AV.int .i64 n).all AV.flat = true := by
  rw [List.all_eq_true]
  intro x hx
  obtain ⟨f, _, rfl⟩ := List.mem_map.1 hx
  rfl
theorem fit_mad (x : Stp) (v : Int) (l : List Frm) (p e : Int) : fitI [((0 : Nat), madO x v l p e)] = true := by
  have h1 := flat_frms l
  have h2 := flat_flds x.fields
  have h3 := flat_ints x.t
  simp only [fitI, fitC, AV.flat, AV.flat1, h1, List.all_cons, List.all_nil, Bool.and_self, Bool.and_true]
  rfl
theorem c_gClone (l : List Fld) (h : l.length ≤ 1000) : tbl E0 37 [fldsV l] [] = some ([fldsU l], []) := t_gClone l (by
  have hf := flat_flds l
  have h2 : (0 + (l.map fldV).length) * 40 ≤ 211106232532992 := by rw [List.length_map]; omega
  cases l with
  | nil =>
    simp only [s_gClone, List.map_nil]
    exact OA_amb_same (fun b => by cases b <;> rfl)
  | cons f l =>
    simp only [List.map_cons] at hf h2
    simp only [s_gClone, List.map_cons, u_nil_cons, cond_false, h2, decide_true, OA_chk, cond_true, List.nil_append, hf]
    rfl)
theorem oshE : (nodupN (List.map (fun x => x.fst) (oshOf T0 0 [AV.ref 0 0] Try.f68.params.toList)) && (oshOf T0 0 [AV.ref 0 0] Try.f68.params.toList).all fun p => p.fst.blt 64) = true := by kernel_rfl
def posS (id : Int) : List Frm → Nat
  | [] => 0
  | f :: l => if f.id < id then posS id l + 1 else 0
theorem pos_le (id : Int) : ∀ l : List Frm, posS id l ≤ l.length
  | [] => Nat.le_refl _
  | f :: l => by
    have := pos_le id l
    unfold posS
    split <;> simp only [List.length_cons] <;> omega
def hereS (id : Int) (l : List Frm) : Bool := match l[posS id l]? with | some f => f.id == id | none => false
theorem c_gcopiedL (l : List Frm) (v : Int) (hl : l.length ≤ 1000) (hf : ∀ f ∈ l, f.fields.length ≤ 1000) : ∀ (r : List Frm) (i : Nat) (d : List Frm), l.drop i = r → d.length = i →
    ltbl E0 34 0 3 [frmsV l, .int .i64 l.length, .int .i64 i] [[.int .i64 0, frmsV []], [.int .i64 v, frmsU d]] = some (1, [], [[.int .i64 0, frmsV []], [.int .i64 v, frmsU (d ++ r)]]) := by
  intro r
  induction r with
  | nil =>
    intro i d hr hd
    have h : l.length ≤ i := by simpa using hr
    refine t_gcopiedL _ _ _ _ _ ?_
    have : ¬ ((i : Int) < l.length) := by omega
    have := flat_frms d
    simp [s_gcopiedL, *]
  | cons f r ih =>
    intro i d hr hd
    obtain ⟨hlt, hget, hr2⟩ := drop_c hr
    have h2 : (i : Int) < l.length := by omega
    have e1 := i64_succ (i := i) (by omega)
    have h := ih (i + 1) (d ++ [f]) hr2 (by simp [hd])
    have c := c_gClone f.fields (hf f (mem_drop hr))
    have q1 := flat_flds f.fields
    have q2 := flat_frms (d ++ [f])
    have q3 : ((d.map frmV).length + 1) * 32 ≤ 211106232532992 := by rw [List.length_map]; omega
    refine t_gcopiedL _ _ _ _ _ ?_
    have e3 : d.map frmV ++ [frmV f] = (d ++ [f]).map frmV := by simp
    have e4 : d ++ f :: r = d ++ [f] ++ r := by simp
    simp only [frmV, fldsV, fldsU, frmsV, frmsU, List.map_nil] at c h e3 q2 ⊢
    simp only [s_gcopiedL, h2, decide_true, cond_true, OA_chk, Int.natCast_nonneg, nthE, Int.toNat_natCast, List.getElem?_map, hget, Option.map_some, u_asA, u_asC, u_asI, u_asB, u_asL, u_asUq, u_asN, OA_call, c, Option.bind_some, q1, List.length_cons, List.length_nil, Nat.zero_add, q3, e3, q2, e1, h, e4, OA_dbl, OA_both_id]
theorem c_gcopied (s : Sch) (hl : s.forms.length ≤ 1000) (hf : ∀ f ∈ s.forms, f.fields.length ≤ 1000) : tbl E0 34 [schV s] [] = some ([.agg [.int .i64 s.ver, frmsU s.forms]], []) := t_gcopied s (by
  have h := c_gcopiedL s.forms s.ver hl hf s.forms 0 [] rfl rfl
  have q := flat_frms s.forms
  simp only [Int.natCast_zero, frmsV, frmsU, List.map_nil, List.nil_append] at h
  simp only [s_gcopied, OA_chk, cond_true, OA_asm, List.length_map, OA_loop, h, Option.bind_some, nbeq, decide_true, u_asN, u_asC, u_asI, u_asL, u_asUq, q])
theorem bin_lss {α : Type} {A : Alg α} (td : TD) (a b : Int) (k : AV → α) : bin A td .lss (.int .i64 a) (.int .i64 b) k = k (.bool (decide (a < b))) := Eq.trans rfl rfl
theorem bin_eql {α : Type} {A : Alg α} (td : TD) (a b : Int) (k : AV → α) : bin A td .eql (.int .i64 a) (.int .i64 b) k = k (.bool (a == b)) := Eq.trans rfl rfl
theorem c_gfindL (x : Stp) (v : Int) (l : List Frm) (e : Int) (hl : l.length ≤ 1000) : ∀ (r : List Frm) (i : Nat), l.drop i = r →
    ltbl E0 68 0 2 [] [madO x v l i e] = some (1, [], [madO x v l (i + posS x.form r : Nat) e]) := by
  intro r
  have q := flat_frms l
  induction r with
  | nil =>
    intro i hr
    have h : l.length ≤ i := by simpa using hr
    refine t_gfindL _ _ _ _ _ ?_
    have h2 : ¬ ((i : Int) < l.length) := by omega
    simp only [s_gfindL, OA_join, OA_asm, List.length_map, h2, decide_false, cond_false, Option.bind_some, Tok.untok_tok, q, cond_true, posS, Nat.add_zero]
  | cons f r ih =>
    intro i hr
    obtain ⟨hlt, hget, hr2⟩ := drop_c hr
    have h2 : (i : Int) < l.length := by omega
    have e1 := i64_succ (i := i) (by omega)
    have h := ih (i + 1) hr2
    refine t_gfindL _ _ _ _ _ ?_
    simp only [s_gfindL, OA_join, OA_asm, List.length_map, h2, Int.natCast_nonneg, decide_true, cond_true, Bool.and_self, OA_chk, nthE, Int.toNat_natCast, List.getElem?_map, hget, Option.map_some, AV.cells, List.getElem?_cons_zero, u_asB, Option.bind_some, Tok.untok_tok, q, e1, h, bin_lss]
    by_cases c : f.id < x.form
    · simp [c, posS, Nat.add_assoc, Nat.add_comm 1]
    · simp [c, posS]
theorem pos_get {id : Int} {l : List Frm} (h : posS id l < l.length) : ∃ f, l[posS id l]? = some f := ⟨_, List.getElem?_eq_getElem h⟩
theorem c_gfind (x : Stp) (v : Int) (l : List Frm) (p e : Int) (hl : l.length ≤ 1000) : tbl E0 68 [.ref 0 0] [(0, madO x v l p e)] = some ([.bool (hereS x.form l)], [(0, madO x v l (posS x.form l) e)]) := t_gfind x v l p e (by
  have q := flat_frms l
  have h := c_gfindL x v l e hl l 0 rfl
  have hp := pos_le x.form l
  have o := oshE
  simp only [Int.natCast_zero, Nat.zero_add] at h
  rw [Bool.and_eq_true] at o
  simp only [s_gfind, fit_mad, o.1, o.2, List.all_cons, List.all_nil, fitA, Bool.and_self, cond_true, OA_chk, q, OA_loop, h, Option.bind_some, nbeq, decide_true, u_asN, u_asC, u_asI, u_asS, u_asL, u_asUq, OA_join, OA_asm, List.length_map]
  by_cases c : posS x.form l < l.length
  · obtain ⟨f, hf⟩ := pos_get c
    have c2 : ((posS x.form l : Nat) : Int) < l.length := by omega
    simp only [c2, decide_true, cond_true, Int.natCast_nonneg, Bool.and_self, nthE, Int.toNat_natCast, List.getElem?_map, hf, Option.map_some, AV.cells, List.getElem?_cons_zero, bin_eql, u_asB, Option.bind_some, Tok.untok_tok, hereS]
  · have c2 : ¬ (((posS x.form l : Nat) : Int) < l.length) := by omega
    have c3 : l[posS x.form l]? = none := List.getElem?_eq_none (by omega)
    simp only [c2, decide_false, cond_false, Option.bind_some, Tok.untok_tok, hereS, c3])
theorem oshE2 : (nodupN (List.map (fun x => x.fst) (oshOf T0 0 [AV.ref 0 0] Try.f72.params.toList)) && (oshOf T0 0 [AV.ref 0 0] Try.f72.params.toList).all fun p => p.fst.blt 64) = true := by kernel_rfl
theorem oshE3 : (nodupN (List.map (fun x => x.fst) (oshOf T0 0 [AV.ref 0 0] Try.f73.params.toList)) && (oshOf T0 0 [AV.ref 0 0] Try.f73.params.toList).all fun p => p.fst.blt 64) = true := by kernel_rfl
theorem exp0_lst {α : Type} {A : Alg α} (w : Nat) (nm : Nm) (l : List AV) (cl : Cl) (k : AV → Cl → α) : exp0 A (.lst w) nm (.lst .ro w l) cl k = k (.lst .ro w l) cl := by simp [exp0, lit]
theorem c_gfields (x : Stp) (v : Int) (l : List Frm) (p : Nat) (e : Int) (g : Frm) (hg : l[p]? = some g) : tbl E0 72 [.ref 0 0] [(0, madO x v l p e)] = some ([fldsV g.fields], [(0, madO x v l p e)]) := t_gfields x v l p e (by
  have q := flat_frms l
  have hp : p < l.length := (List.getElem?_eq_some_iff.1 hg).1
  have hp2 : (p : Int) < l.length := by omega
  have o := oshE2
  rw [Bool.and_eq_true] at o
  simp only [s_gfields, fit_mad, o.1, o.2, List.all_cons, List.all_nil, fitA, Bool.and_self, cond_true, OA_chk, q, List.length_map, hp2, decide_true, Int.natCast_nonneg, nthE, Int.toNat_natCast, List.getElem?_map, hg, Option.map_some, AV.cells, List.getElem?_cons_succ, List.getElem?_cons_zero, exp0_lst])
theorem c_gown (x : Stp) (v : Int) (l : List Frm) (p e : Nat) (g : Frm) (f : Fld) (hg : l[p]? = some g) (hf : g.fields[e]? = some f) : tbl E0 73 [.ref 0 0] [(0, madO x v l p e)] = some ([fldV f], [(0, madO x v l p e)]) := t_gown x v l p e (by
  have q := flat_frms l
  have c := c_gfields x v l p e g hg
  have o := oshE3
  rw [Bool.and_eq_true] at o
  simp only [s_gown, s_gown_k1, fit_mad, o.1, o.2, List.all_cons, List.all_nil, fitA, Bool.and_self, cond_true, OA_chk, q, OA_call, c, Option.bind_some, nbeq, decide_true, u_asN, u_asC, u_asI, u_asS, u_asL, u_asUq, Int.natCast_nonneg, nthE, Int.toNat_natCast, List.getElem?_map, hf, Option.map_some, u_asA, OA_both_id])
def widerS (f g : Fld) : Bool := rgtS f && rgtS g && f.kind == g.kind && decide (loS g ≤ loS f) && decide (hiS f ≤ hiS g) && decide (f.most ≤ g.most)
theorem c_gWider (f g : Fld) : tbl E0 98 [fldV f, fldV g] [] = some ([.bool (widerS f g)], []) := t_gWider f g (by
  have c1 := c_fRight f
  have c2 := c_fRight g
  simp only [s_gWider, OA_chk, cond_true, OA_join, OA_callx, c1, c2, Option.bind_some, u_asC, u_asB, u_asN]
  rcases bor (rgtS f) with h1 | h1
  · have d1 := c_fbounds f (fun _ => h1)
    rcases bor (rgtS g) with h2 | h2
    · have d2 := c_fbounds g (fun _ => h2)
      simp only [h1, h2, Bool.not_true, cond_false, Option.bind_some, Tok.untok_tok]
      rcases bor (f.kind != g.kind) with h3 | h3
      · have : (f.kind == g.kind) = false := by simpa using h3
        simp [h3, widerS, h1, h2, this]
      · have : (f.kind == g.kind) = true := by simpa using h3
        simp only [h3, cond_false, OA_chk, cond_true, OA_callx, d1, d2, Option.bind_some, u_asC, u_asI, u_asN, OA_join]
        by_cases a : loS g ≤ loS f <;> by_cases b : hiS f ≤ hiS g <;> simp [widerS, h1, h2, this, a, b]
    · simp [h1, h2, widerS]
  · simp [h1, widerS])
end Go.Proofs.Ytalpknofimglbaa.V
namespace Go.Proofs.Ytalpknofimglbaa.V
open Go
def minS (a b : Int) : Int := if b < a then b else a
def maxS (a b : Int) : Int := if a < b then b else a
def affS (a b n : Int) : Int := IntKind.i64.wrap (IntKind.i64.wrap (a * n) + b)
def scaledS (f : Fld) (a b : Int) : Fld := ⟨f.id, f.kind, minS (affS a b f.lo) (affS a b f.hi), maxS (affS a b f.lo) (affS a b f.hi), f.most⟩
def scaleS (f : Fld) (a b : Int) : Fld := ⟨f.id, 1, minS (affS a b f.lo) (affS a b f.hi), maxS (affS a b f.lo) (affS a b f.hi), 0⟩
def typesS (f : Fld) (x : Stp) : List Fld × Bool :=
  if x.op = 2 then ([], hasV f x.n x.s)
  else if x.op = 3 then ([x.f], widerS f x.f)
  else if x.op = 4 then ([scaleS f x.a x.b], f.kind == 1 && rgtS (scaleS f x.a x.b))
  else if x.op = 5 then ([⟨f.id, 3, 0, 0, x.a⟩], f.kind == 3 && f.most == (x.t.length : Int))
  else if x.op = 6 then ([⟨f.id, 1, 0, IntKind.i64.wrap (f.hi.tdiv x.a), 0⟩, ⟨x.to, 1, 0, minS f.hi (IntKind.i64.wrap (x.a - 1)), 0⟩], f.kind == 1 && f.lo == 0)
  else if x.op = 8 then ([⟨x.to, f.kind, f.lo, f.hi, f.most⟩], true) else ([f], true)
def turnedS (f : Fld) (x : Stp) : List Fld × Bool :=
  if x.op = 2 then ([], hasV f x.n x.s)
  else if x.op = 3 then ([x.f], widerS f x.f)
  else if x.op = 4 then (if f.kind = 1 then ([scaledS f x.a x.b], rgtS (scaledS f x.a x.b)) else ([f], false))
  else if x.op = 5 then ([⟨f.id, f.kind, f.lo, f.hi, x.a⟩], f.kind == 3 && f.most == (x.t.length : Int))
  else if x.op = 6 then ([⟨f.id, f.kind, f.lo, IntKind.i64.wrap (f.hi.tdiv x.a), f.most⟩, ⟨x.to, 1, 0, minS (IntKind.i64.wrap (x.a - 1)) f.hi, 0⟩], f.kind == 1 && f.lo == 0)
  else ([⟨x.to, f.kind, f.lo, f.hi, f.most⟩], true)
theorem minS_comm (a b : Int) : minS a b = minS b a := by unfold minS; split <;> split <;> omega
theorem rgt1 {f : Fld} (h : rgtS f = true) (k : f.kind = 1) : f.most = 0 := by
  simp only [rgtS, k, if_true, Bool.and_eq_true, decide_eq_true_eq] at h
  omega
theorem rgt3 {f : Fld} (h : rgtS f = true) (k : f.kind = 3) : f.lo = 0 ∧ f.hi = 0 := by
  simp [rgtS, k] at h
  omega
theorem turned_types {f : Fld} {x : Stp} (h : rgtS f = true) (h7 : x.op ≠ 7) (hop : x.op = 2 ∨ x.op = 3 ∨ x.op = 4 ∨ x.op = 5 ∨ x.op = 6 ∨ x.op = 8) : (turnedS f x).2 = (typesS f x).2 ∧ ((typesS f x).2 = true → (turnedS f x).1 = (typesS f x).1) := by
  rcases hop with h1 | h1 | h1 | h1 | h1 | h1
  · simp [turnedS, typesS, h1]
  · simp [turnedS, typesS, h1]
  · by_cases k : f.kind = 1
    · have := rgt1 h k
      simp [turnedS, typesS, h1, k, scaledS, scaleS, this]
    · simp [turnedS, typesS, h1, k]
  · by_cases k : f.kind = 3
    · obtain ⟨k1, k2⟩ := rgt3 h k
      simp [turnedS, typesS, h1, k, k1, k2]
    · simp [turnedS, typesS, h1, k]
  · by_cases k : f.kind = 1
    · have := rgt1 h k
      by_cases k2 : f.lo = 0
      · simp [turnedS, typesS, h1, k, k2, this, minS_comm]
      · simp [turnedS, typesS, h1, k, k2]
    · simp [turnedS, typesS, h1, k]
  · simp [turnedS, typesS, h1]
def fieldS (op : Int) : Bool := op != 1 && (op != 9 && op != 10)
def namesS (s : Sch) (x : Stp) : Int :=
  if x.op = 9 then (if 0 ≤ findS s.forms x.form then 9 else 0)
  else if findS s.forms x.form < 0 then 8
  else match s.forms[(findS s.forms x.form).toNat]? with
    | none => 0
    | some f =>
      if fieldS x.op && decide (atS f.fields x.field < 0) then 8
      else if (x.op == 1 && decide (0 ≤ atS f.fields x.f.id)) || ((x.op == 6 || x.op == 8) && decide (0 ≤ atS f.fields x.to)) then 9
      else if (x.op == 1 && decide ((f.fields.length : Int) < x.place)) || (x.op == 7 && decide ((f.fields.length : Int) ≤ x.place)) then 3 else 0
def putS (l : List Fld) (n : Nat) (m : List Fld) : List Fld := l.take n ++ m ++ l.drop n
def cutS (l : List Fld) (n : Nat) : List Fld := l.take n ++ l.drop (n + 1)
def bodyS (f : Frm) : Bool → List Frm → List Frm
  | _, [] => []
  | b, g :: l => (if !b && decide (f.id ≤ g.id) then [f] else []) ++ ((if g.id ≠ f.id then [g] else []) ++ bodyS f (b || decide (f.id ≤ g.id)) l)
def doneS (f : Frm) : Bool → List Frm → Bool
  | b, [] => b
  | b, g :: l => doneS f (b || decide (f.id ≤ g.id)) l
def formsS (f : Frm) (b : Bool) (l : List Frm) : List Frm := bodyS f b l ++ (if doneS f b l then [] else [f])
theorem body_len (f : Frm) : ∀ (l : List Frm) (b : Bool), (bodyS f b l).length ≤ 2 * l.length
  | [], b => by simp [bodyS]
  | g :: l, b => by
    have := body_len f l (b || decide (f.id ≤ g.id))
    simp only [bodyS, List.length_append, List.length_cons]
    split <;> split <;> simp <;> omega
def sch0 : Sch := ⟨0, []⟩
def outS (s : Sch) (f : Frm) : Sch × Int :=
  if schS ⟨s.ver, formsS f f.fields.isEmpty s.forms⟩ then (⟨s.ver, formsS f f.fields.isEmpty s.forms⟩, 0) else (sch0, 7)
def oldS (s : Sch) (x : Stp) : List Fld := match s.forms[(findS s.forms x.form).toNat]? with | some g => g.fields | none => []
def newS (l : List Fld) (x : Stp) (more : List Fld) : List Fld := putS (cutS l (atS l x.field).toNat) (if x.op = 7 then x.place.toNat else (atS l x.field).toNat) more
def onS (s : Sch) (x : Stp) : Sch × Int :=
  if !(schS s) || (!(tRightS x) || decide (10 < x.op)) then (sch0, 2)
  else if namesS s x ≠ 0 then (sch0, namesS s x)
  else if x.op = 9 then outS s ⟨x.form, x.fields⟩
  else if x.op = 1 then outS s ⟨x.form, putS (oldS s x) x.place.toNat [x.f]⟩
  else if x.op = 10 then outS s ⟨x.form, []⟩
  else match (oldS s x)[(atS (oldS s x) x.field).toNat]? with
    | none => (sch0, 17)
    | some g => if (typesS g x).2 then (if (newS (oldS s x) x (typesS g x).1).isEmpty then (sch0, 7) else outS s ⟨x.form, newS (oldS s x) x (typesS g x).1⟩) else (sch0, 17)
def allS (s : Sch) : Nat → List Stp → Sch × Nat × Int
  | _, [] => (s, 0, 0)
  | i, x :: l => if (onS s x).2 = 0 then allS (onS s x).1 (i + 1) l else (sch0, i, (onS s x).2)
end Go.Proofs.Ytalpknofimglbaa.V
namespace Go.Proofs.Ytalpknofimglbaa.V
open Go
theorem c_zWider (f g : Fld) (hf : f.kind = 3 → rgtS f = true) : tbl E0 79 [fldV f, fldV g] [] = some ([.bool (widerS f g)], []) := by
  obtain ⟨lo, hi, most, hb, hh⟩ := c_ySpan f
  obtain ⟨lo2, hi2, most2, hb2, hh2⟩ := c_ySpan g
  refine t_zWider f g ?_
  simp only [s_zWider, OA_chk, cond_true, OA_join, OA_callx, hb, hb2, Option.bind_some, u_asC, u_asI, u_asB, u_asN]
  rcases bor (rgtS f) with h1 | h1
  · rcases bor (rgtS g) with h2 | h2
    · obtain ⟨rfl, rfl, rfl⟩ := hh h1
      obtain ⟨rfl, rfl, rfl⟩ := hh2 h2
      by_cases k : f.kind = g.kind
      · have key : ((decide (loS g ≤ loS f) && (decide (hiS f ≤ hiS g) && decide ((if f.kind = 4 then f.most else 0) ≤ (if g.kind = 4 then g.most else 0)))) = (decide (loS g ≤ loS f) && (decide (hiS f ≤ hiS g) && decide (f.most ≤ g.most)))) := by
          have q1 := h1
          have q2 := h2
          simp only [rgtS, ← k, Bool.and_eq_true, decide_eq_true_eq] at q1 q2
          by_cases k1 : f.kind = 1
          · simp only [k1, if_true, decide_eq_true_eq] at q1 q2
            have : f.most ≤ g.most := by omega
            simp [k1, ← k, this]
          · by_cases k2 : f.kind = 2
            · simp [k2] at q1 q2
              have : f.most ≤ g.most := by omega
              simp [k2, ← k, this]
            · by_cases k3 : f.kind = 3
              · have : (hiS f ≤ hiS g) ↔ f.most ≤ g.most := by simp [hiS, k3, ← k]
                simp [k3, ← k, this]
              · by_cases k4 : f.kind = 4
                · simp [k4, ← k]
                · simp [k1, k2, k3, k4] at q1
        have k' : (f.kind == g.kind) = true := by simpa using k
        simp only [widerS, h1, h2, k', cond_true, Bool.true_and, Bool.and_assoc, ← key]
        by_cases a : loS g ≤ loS f <;> by_cases b : hiS f ≤ hiS g <;> simp [a, b]
      · simp [h1, h2, widerS, k]
    · simp [h1, h2, widerS]
  · simp [h1, widerS]
theorem c_zput (l : List Fld) (n : Nat) (f : Fld) (hn : n ≤ l.length) (hl : l.length ≤ 1000) : tbl E0 41 [fldsV l, .int .i64 n, fldV f] [] = some ([fldsV (putS l n [f])], []) := t_zput l n f (by
  have h1 : (n : Int) ≤ l.length := by omega
  have h2 : (((l.map fldV).take n).length) * 40 ≤ 211106232532992 := by rw [List.length_take, List.length_map]; omega
  have h3 : (((l.map fldV).take n).length + 1) * 40 ≤ 211106232532992 := by rw [List.length_take, List.length_map]; omega
  have h4 : (((l.map fldV).take n ++ [fldV f]).length + ((l.map fldV).drop n).length) * 40 ≤ 211106232532992 := by rw [List.length_append, List.length_take, List.length_drop, List.length_map]; simp; omega
  have h5 : ((l.map fldV).take l.length) = l.map fldV := List.take_of_length_le (by simp)
  simp only [fldV, fldC] at h2 h3 h4 h5
  simp only [s_zput, OA_chk, List.length_map, Int.le_refl, Int.natCast_nonneg, h1, decide_true, Bool.and_self, cond_true, List.drop_zero, Int.toNat_natCast, List.length_cons, List.length_nil, Nat.zero_add, h2, h3, h4, h5]
  simp only [fldsV, fldV, fldC, putS, List.map_append, List.map_take, List.map_drop, List.map_cons, List.map_nil])
theorem c_zcut (l : List Fld) (n : Nat) (hn : n < l.length) (hl : l.length ≤ 1000) : tbl E0 44 [fldsV l, .int .i64 n] [] = some ([fldsV (cutS l n)], []) := t_zcut l n (by
  have h1 : (n : Int) ≤ l.length := by omega
  have e1 := i64_succ (i := n) (by omega)
  have h0 : ((n + 1 : Nat) : Int) ≤ l.length := by omega
  have h2 : (0 + ((l.map fldV).take n).length) * 40 ≤ 211106232532992 := by rw [List.length_take, List.length_map]; omega
  have h4 : (((l.map fldV).take n).length + ((l.map fldV).drop (n + 1)).length) * 40 ≤ 211106232532992 := by rw [List.length_take, List.length_drop, List.length_map]; omega
  have h5 : ((l.map fldV).take l.length) = l.map fldV := List.take_of_length_le (by simp)
  simp only [s_zcut, OA_chk, List.length_map, Int.le_refl, Int.natCast_nonneg, h1, h0, e1, decide_true, Bool.and_self, cond_true, List.drop_zero, Int.toNat_natCast, h2, h4, h5]
  simp only [fldsV, fldV, fldC, cutS, List.map_append, List.map_take, List.map_drop])
theorem c_zfield (op : Int) : tbl E0 78 [.int .i64 op] [] = some ([.bool (fieldS op)], []) := t_zfield op (by
  simp only [s_zfield, OA_join]
  by_cases h1 : op = 1
  · simp [h1, fieldS]
  · have h1' := bne_t h1
    by_cases h2 : op = 9
    · simp [h2, fieldS]
    · have h2' := bne_t h2
      simp only [h1', h2', cond_true, Option.bind_some, Tok.untok_tok, fieldS, Bool.true_and])
def Few (s : Sch) : Prop := s.forms.length ≤ 1000 ∧ ∀ f ∈ s.forms, f.fields.length ≤ 1000
theorem Few.sml {s : Sch} (h : Few s) : Sml s := ⟨by have := h.1; omega, fun f hf => by have := h.2 f hf; omega⟩
theorem first_get {α : Type} {p : α → Bool} {l : List α} : (∃ (j : Nat) (f : α), firstS p l = (j : Int) ∧ l[j]? = some f ∧ p f = true) ∨ firstS p l = -1 := by
  unfold firstS
  cases h : l.findIdx? p with
  | none => exact .inr rfl
  | some j =>
    obtain ⟨h1, h2, h3⟩ := List.findIdx?_eq_some_iff_getElem.1 h
    exact .inl ⟨j, l[j], rfl, List.getElem?_eq_getElem h1, h2⟩
theorem c_znames (s : Sch) (x : Stp) (hs : Few s) : tbl E0 40 [schV s, stpV x] [] = some ([.int .i64 (namesS s x)], []) := t_znames s x (by
  have c := c_yFind s x.form hs.sml
  simp only [s_znames, OA_chk, cond_true, OA_callx, c, Option.bind_some, u_asC, u_asI, u_asN]
  by_cases h9 : x.op = 9
  · by_cases h : 0 ≤ findS s.forms x.form <;> simp [namesS, h9, h]
  · have h9' : (x.op == 9) = false := by simpa using h9
    rcases first_get (p := fun f : Frm => f.id == x.form) (l := s.forms) with ⟨j, f, e1, e2, e3⟩ | e1
    · have e1 : findS s.forms x.form = (j : Int) := e1
      have hf : f.fields.length ≤ 1000 := hs.2 f (List.mem_of_getElem? e2)
      have a1 := c_yAt f x.field (by omega)
      have a2 := c_yAt f x.f.id (by omega)
      have a3 := c_yAt f x.to (by omega)
      have n1 : ¬ ((j : Int) < 0) := by omega
      simp only [h9', cond_false, e1, n1, decide_false, Int.natCast_nonneg, decide_true, OA_chk, cond_true, nthE, Int.toNat_natCast, List.getElem?_map, e2, Option.map_some, u_asA, u_asC, u_asI, u_asL, u_asN, OA_join, OA_callx, c_zfield, Option.bind_some, u_asB, a1, a2, a3, OA_asm, List.length_map, s_znames_k1]
      have en : namesS s x = (if fieldS x.op && decide (atS f.fields x.field < 0) then 8
        else if (x.op == 1 && decide (0 ≤ atS f.fields x.f.id)) || ((x.op == 6 || x.op == 8) && decide (0 ≤ atS f.fields x.to)) then 9
        else if (x.op == 1 && decide ((f.fields.length : Int) < x.place)) || (x.op == 7 && decide ((f.fields.length : Int) ≤ x.place)) then 3 else 0) := by
        simp only [namesS, h9, if_false, e1, n1, Int.toNat_natCast, e2]
      rw [en]
      have key : ∀ A B : Bool, (bif A then some ([AV.int .i64 9], []) else bif B then some ([AV.int .i64 3], []) else some ([AV.int .i64 0], [])) = (some ([AV.int .i64 (if A = true then 9 else if B = true then 3 else 0)], []) : Option CR) := by
        intro A B
        cases A <;> cases B <;> rfl
      simp only [tok_cond, Option.bind_some, Tok.untok_tok, cond_tt, cond_ff, cond_or, cond_nt]
      rcases bor (fieldS x.op) with g1 | g1 <;> by_cases g2 : atS f.fields x.field < 0 <;> simp only [g1, g2, decide_true, decide_false, cond_true, cond_false, Option.bind_some, Tok.untok_tok, Bool.and_true, Bool.and_false, Bool.true_and, Bool.false_and, if_true, if_false]
      all_goals try (simp only [Bool.false_eq_true, if_false]; done)
      all_goals simp only [cond_or2, ge_iff_le, gt_iff_lt, Bool.false_eq_true, if_false]
      all_goals exact key _ _
    · have e1 : findS s.forms x.form = -1 := e1
      simp [h9', e1, namesS, h9])
theorem c_zTypes (f : Fld) (x : Stp) (hf : f.kind = 3 → rgtS f = true) (hx : x.op = 6 → x.a ≠ 0) : tbl E0 43 [fldV f, stpV x] [] = some ([fldsV (typesS f x).1, .bool (typesS f x).2], []) := t_zTypes f x (by
  have c1 := c_yHas f x.n x.s
  have c2 := c_zWider f x.f hf
  have c3 := c_yRight (scaleS f x.a x.b)
  simp only [fldV, fldC, stpV, stpC] at c1 c2
  have e4 : x.op = 4 → typesS f x = ([scaleS f x.a x.b], f.kind == 1 && rgtS (scaleS f x.a x.b)) := fun h => by simp [typesS, h]
  have m1 : (if IntKind.i64.wrap (IntKind.i64.wrap (x.a * f.hi) + x.b) < IntKind.i64.wrap (IntKind.i64.wrap (x.a * f.lo) + x.b) then IntKind.i64.wrap (IntKind.i64.wrap (x.a * f.hi) + x.b) else IntKind.i64.wrap (IntKind.i64.wrap (x.a * f.lo) + x.b)) = minS (affS x.a x.b f.lo) (affS x.a x.b f.hi) := rfl
  have m2 : (if IntKind.i64.wrap (IntKind.i64.wrap (x.a * f.lo) + x.b) < IntKind.i64.wrap (IntKind.i64.wrap (x.a * f.hi) + x.b) then IntKind.i64.wrap (IntKind.i64.wrap (x.a * f.hi) + x.b) else IntKind.i64.wrap (IntKind.i64.wrap (x.a * f.lo) + x.b)) = maxS (affS x.a x.b f.lo) (affS x.a x.b f.hi) := rfl
  simp only [fldV, fldC, scaleS] at c3
  by_cases h2 : x.op = 2
  · simp only [s_zTypes, h2, beq_self_eq_true, OA_chk, cond_true, OA_callx, c1, Option.bind_some, u_asC, u_asB, u_asN]
    simp [typesS, h2]
  · have g2 := beq_f h2
    by_cases h3 : x.op = 3
    · simp only [s_zTypes, s_zTypes_k5, h3, g2, beq_self_eq_true, OA_chk, cond_true, cond_false, OA_callx, c2, Option.bind_some, u_asC, u_asB, u_asN, OA_both_id, OA_dbl, (by decide : ((3 : Int) == 2) = false)]
      simp [typesS, h3]
    · have g3 := beq_f h3
      by_cases h4 : x.op = 4
      · rcases bor (f.kind == 1) with k | k
        · simp only [s_zTypes, s_zTypes_k2, s_zTypes_k3, s_zTypes_k4, h4, k, beq_self_eq_true, OA_chk, cond_true, cond_false, OA_callx, m1, m2, c3, Option.bind_some, u_asC, u_asB, u_asN, OA_both_id, OA_dbl, (by decide : ((4 : Int) == 2) = false), (by decide : ((4 : Int) == 3) = false)]
          rw [e4 h4, k]
          rfl
        · simp only [s_zTypes, s_zTypes_k2, s_zTypes_k3, s_zTypes_k4, h4, k, beq_self_eq_true, OA_chk, cond_true, cond_false, OA_callx, m1, m2, c3, Option.bind_some, u_asC, u_asB, u_asN, OA_both_id, OA_dbl, (by decide : ((4 : Int) == 2) = false), (by decide : ((4 : Int) == 3) = false)]
          rw [e4 h4, k]
          rfl
      · have g4 := beq_f h4
        by_cases h5 : x.op = 5
        · rcases bor (f.kind == 3) with k | k
          · simp only [s_zTypes, h5, k, beq_self_eq_true, OA_chk, OA_asm, cond_true, cond_false, OA_both_id, OA_dbl, List.length_map, (by decide : ((5 : Int) == 2) = false), (by decide : ((5 : Int) == 3) = false), (by decide : ((5 : Int) == 4) = false)]
            simp [typesS, h5, (by simpa using k : f.kind = 3)]
          · simp only [s_zTypes, h5, k, beq_self_eq_true, OA_chk, OA_asm, cond_true, cond_false, OA_both_id, OA_dbl, List.length_map, (by decide : ((5 : Int) == 2) = false), (by decide : ((5 : Int) == 3) = false), (by decide : ((5 : Int) == 4) = false)]
            simp [typesS, h5, (by simpa using k : f.kind ≠ 3)]
        · have g5 := beq_f h5
          by_cases h6 : x.op = 6
          · have ha : (!(x.a == (0 : Int))) = true := by simpa using hx h6
            rcases bor (f.kind == 1) with k | k
            · simp only [s_zTypes, s_zTypes_k1, h6, ha, k, beq_self_eq_true, OA_chk, OA_asm, cond_true, cond_false, OA_both_id, OA_dbl, (by decide : ((6 : Int) == 2) = false), (by decide : ((6 : Int) == 3) = false), (by decide : ((6 : Int) == 4) = false), (by decide : ((6 : Int) == 5) = false)]
              simp [typesS, h6, (by simpa using k : f.kind = 1), minS]
            · simp only [s_zTypes, s_zTypes_k1, h6, ha, k, beq_self_eq_true, OA_chk, OA_asm, cond_true, cond_false, OA_both_id, OA_dbl, (by decide : ((6 : Int) == 2) = false), (by decide : ((6 : Int) == 3) = false), (by decide : ((6 : Int) == 4) = false), (by decide : ((6 : Int) == 5) = false)]
              simp [typesS, h6, (by simpa using k : f.kind ≠ 1), minS]
          · have g6 := beq_f h6
            by_cases h8 : x.op = 8
            · simp [s_zTypes, typesS, h8]
            · simp [s_zTypes, typesS, h2, h3, h4, h5, h6, h8])
theorem q32 {n : Nat} (h : n ≤ 3000) : n * 32 ≤ 211106232532992 := by omega
theorem c_zformsL (s : Sch) (f : Frm) (v : Int) (hs : Few s) : ∀ (r : List Frm) (i : Nat) (b : Bool) (d : List Frm), s.forms.drop i = r → d.length ≤ 2 * i →
    ltbl E0 45 0 4 [.bool b, .int .i64 i] [[.int .i64 s.ver, frmsV s.forms], [.int .i64 f.id, fldsV f.fields], [.int .i64 0, frmsV []], [.int .i64 v, .lst (.own (.O 1005 1)) 2 (d.map frmV)]] =
      some (1, [.bool (doneS f b r)], [[.int .i64 f.id, fldsV f.fields], [.int .i64 0, frmsV []], [.int .i64 v, .lst (.own (.O 1005 1)) 2 ((d ++ bodyS f b r).map frmV)]]) := by
  intro r
  have hl := hs.1
  induction r with
  | nil =>
    intro i b d hr hd
    have h : s.forms.length ≤ i := by simpa using hr
    refine t_zformsL _ _ _ _ _ _ ?_
    have : ¬ ((i : Int) < s.forms.length) := by omega
    simp [s_zformsL, this, bodyS, doneS]
  | cons g r ih =>
    intro i b d hr hd
    obtain ⟨hlt, hget, hr2⟩ := drop_c hr
    have h2 : (i : Int) < s.forms.length := by omega
    have e1 := i64_succ (i := i) (by omega)
    have q0 : d.length + 1 ≤ 3000 ∧ d.length + 1 + 1 ≤ 3000 := by omega
    have q1 := q32 q0.1
    have q2 := q32 q0.2
    have m : ∀ (x : Frm) (d : List Frm), d.map frmV ++ [frmV x] = (d ++ [x]).map frmV := fun x d => by simp
    simp only [frmV, fldsV] at m
    refine t_zformsL _ _ _ _ _ _ ?_
    simp only [s_zformsL, OA_asm, List.length_map, h2, decide_true, cond_true, OA_join, OA_chk, Int.natCast_nonneg, nthE, Int.toNat_natCast, List.getElem?_map, hget, Option.map_some, u_asA, u_asC, u_asI, u_asB, u_asL, u_asN, e1, OA_dbl, List.length_cons, List.length_nil, List.length_append, Nat.zero_add]
    cases b with
    | true =>
      simp only [Bool.not_true, cond_false, Option.bind_some, Tok.untok_tok]
      by_cases n : g.id = f.id
      · have n' : (g.id != f.id) = false := by simpa using n
        have h := ih (i + 1) true d hr2 (by omega)
        simp only [frmV, fldsV, frmsV, List.map_nil] at h ⊢
        simp only [n', cond_false, h]
        simp [bodyS, doneS, n]
      · have n' := bne_t n
        have h := ih (i + 1) true (d ++ [g]) hr2 (by simp; omega)
        simp only [frmV, fldsV, frmsV, List.map_nil] at h ⊢
        simp only [n', cond_true, q1, decide_true, m, h]
        simp [bodyS, doneS, n]
    | false =>
      simp only [Bool.not_false, cond_true, Option.bind_some, Tok.untok_tok, ge_iff_le]
      by_cases a : f.id ≤ g.id
      · simp only [a, decide_true, cond_true, q1]
        by_cases n : g.id = f.id
        · have n' : (g.id != f.id) = false := by simpa using n
          have h := ih (i + 1) true (d ++ [f]) hr2 (by simp; omega)
          simp only [frmV, fldsV, frmsV, List.map_nil] at h ⊢
          simp only [n', cond_false, m, h]
          simp [bodyS, doneS, n, a]
        · have n' := bne_t n
          have h := ih (i + 1) true (d ++ [f] ++ [g]) hr2 (by simp; omega)
          simp only [frmV, fldsV, frmsV, List.map_nil] at h ⊢
          simp only [n', cond_true, q2, decide_true, m, h]
          simp [bodyS, doneS, n, a]
      · simp only [a, decide_false, cond_false]
        by_cases n : g.id = f.id
        · omega
        · have n' := bne_t n
          have h := ih (i + 1) false (d ++ [g]) hr2 (by simp; omega)
          simp only [frmV, fldsV, frmsV, List.map_nil] at h ⊢
          simp only [n', cond_true, q1, decide_true, m, h]
          simp [bodyS, doneS, n, a]
theorem c_zforms (s : Sch) (f : Frm) (hs : Few s) : tbl E0 45 [schV s, frmV f] [] = some ([schV ⟨s.ver, formsS f f.fields.isEmpty s.forms⟩], []) := t_zforms s f (by
  have h := c_zformsL s f s.ver hs s.forms 0 f.fields.isEmpty [] rfl (by simp)
  have e : ((f.fields.length : Int) == 0) = f.fields.isEmpty := by cases f.fields <;> simp; omega
  have hb := body_len f s.forms f.fields.isEmpty
  have hl := hs.1
  have q1 : ((bodyS f f.fields.isEmpty s.forms).length + 1) * 32 ≤ 211106232532992 := by omega
  simp only [Int.natCast_zero, List.map_nil, List.nil_append, frmV, fldsV, frmsV] at h
  simp only [s_zforms, OA_chk, cond_true, OA_asm, List.length_map, e, OA_loop, h, Option.bind_some, nbeq, decide_true, u_asN, u_asC, u_asI, u_asL, u_asB, u_asOwn, Nm_beq_self, List.length_cons, List.length_nil, Nat.zero_add, q1]
  rcases bor (doneS f f.fields.isEmpty s.forms) with d | d
  · simp [d, formsS]
  · simp [d, formsS])
end Go.Proofs.Ytalpknofimglbaa.V
namespace Go.Proofs.Ytalpknofimglbaa.V
open Go
theorem right_op {x : Stp} (h : tRightS x = true) (p : Int) (hp : p ∈ usesS x.op) : fitsS x p = true := ((right_fits h).1 p hp).2.1
theorem right_1 {x : Stp} (h : tRightS x = true) (o : x.op = 1) : (0 ≤ x.place ∧ x.place ≤ 8) ∧ rgtS x.f = true := by
  have h2 := right_op h 2 (by rw [o]; decide)
  have h6 := right_op h 6 (by rw [o]; decide)
  simp [fitsS, inS] at h2 h6
  exact ⟨h2, h6.1⟩
theorem right_6 {x : Stp} (h : tRightS x = true) (o : x.op = 6) : (2 ≤ x.a ∧ x.a ≤ 1048576) ∧ 0 ≤ x.to := by
  have h2 := right_op h 4 (by rw [o]; decide)
  have h6 := right_op h 3 (by rw [o]; decide)
  simp [fitsS, inS, o] at h2 h6
  exact ⟨h2, h6.1.1⟩
theorem right_8 {x : Stp} (h : tRightS x = true) (o : x.op = 8) : 0 ≤ x.to := by
  have h6 := right_op h 3 (by rw [o]; decide)
  simp [fitsS, inS] at h6
  exact h6.1.1
theorem right_7 {x : Stp} (h : tRightS x = true) (o : x.op = 7) : 0 ≤ x.place ∧ x.place ≤ 8 := by
  have h6 := right_op h 2 (by rw [o]; decide)
  simpa [fitsS, inS] using h6
theorem right_9 {x : Stp} (h : tRightS x = true) (o : x.op = 9) : fineS ⟨x.form, x.fields⟩ = true := by
  have h6 := right_op h 9 (by rw [o]; decide)
  simpa [fitsS] using h6
theorem right_10 {x : Stp} (h : tRightS x = true) (h10 : x.op ≤ 10) : x.op = 1 ∨ x.op = 2 ∨ x.op = 3 ∨ x.op = 4 ∨ x.op = 5 ∨ x.op = 6 ∨ x.op = 7 ∨ x.op = 8 ∨ x.op = 9 ∨ x.op = 10 := by
  have := (right_fits h).2.1
  simp only [opsL, List.mem_cons, List.not_mem_nil, or_false] at this
  omega
theorem bor' (b : Bool) : b = false ∨ b = true := by cases b <;> simp
theorem put_put (l t : List Fld) (n : Nat) (x : Fld) (hn : n ≤ l.length) : putS (putS l n t) (n + t.length) [x] = putS l n (t ++ [x]) := by
  have e1 : (l.take n ++ t).length = n + t.length := by simp; omega
  unfold putS
  rw [List.take_append_of_le_length (by omega), List.drop_append_of_le_length (by omega), ← e1, List.take_length, List.drop_length]
  simp
theorem put_len (l t : List Fld) (n : Nat) : (putS l n t).length = l.length + t.length := by
  unfold putS
  simp
  omega
theorem c_zOnL (s : Sch) (l : List Fld) (n id : Int) (k : Nat) (hn : n = k) (more : List Fld) (hk : k ≤ l.length) (hl : l.length ≤ 500) (hm : more.length ≤ 8) : ∀ (r : List Fld) (i : Nat), more.drop i = r →
    ltbl E0 12 0 17 [.int .i64 n, fldsV more, .int .i64 i] [[.int .i64 s.ver, frmsV s.forms], [.int .i64 0, frmsV []], [.int .i64 id, fldsV (putS l k (more.take i))]] =
      some (2, [], [[.int .i64 s.ver, frmsV s.forms], [.int .i64 0, frmsV []], [.int .i64 id, fldsV (putS l k more)]]) := by
  intro r
  subst hn
  induction r with
  | nil =>
    intro i hr
    have h : more.length ≤ i := by simpa using hr
    refine t_zOnL _ _ _ _ ⟨id, putS l k (more.take i)⟩ ?_
    have : ¬ ((i : Int) < more.length) := by omega
    simp [s_zOnL, this, List.take_of_length_le h]
  | cons f r ih =>
    intro i hr
    obtain ⟨hlt, hget, hr2⟩ := drop_c hr
    have h2 : (i : Int) < more.length := by omega
    have e1 := i64_succ (i := i) (by omega)
    have e2 : IntKind.i64.wrap ((k : Int) + i) = ((k + i : Nat) : Int) := by rw [wrap_i64 _ (by omega) (by omega)]; omega
    have hlen : (more.take i).length = i := by rw [List.length_take]; omega
    have h := ih (i + 1) hr2
    have c := c_zput (putS l k (more.take i)) (k + i) f (by rw [put_len]; omega) (by rw [put_len]; omega)
    have e3 : putS (putS l k (more.take i)) (k + i) [f] = putS l k (more.take (i + 1)) := by
      have := put_put l (more.take i) k f hk
      rw [hlen] at this
      rw [this, List.take_add_one, hget]
      rfl
    rw [e3] at c
    refine t_zOnL _ _ _ _ ⟨id, putS l k (more.take i)⟩ ?_
    simp only [fldV, fldC, fldsV, frmsV, List.map_nil] at c h ⊢
    simp only [s_zOnL, OA_asm, List.length_map, h2, decide_true, cond_true, OA_chk, Int.natCast_nonneg, nthE, Int.toNat_natCast, List.getElem?_map, hget, Option.map_some, u_asA, u_asC, u_asI, u_asL, u_asN, OA_callx, e2, c, Option.bind_some, e1, h]
theorem c_zOnM (s : Sch) (f : Frm) (hs : Few s) (hf : f.fields.length ≤ 1000) : ltbl E0 12 0 1000028 [] [[.int .i64 s.ver, frmsV s.forms], [.int .i64 0, frmsV []], [.int .i64 f.id, fldsV f.fields]] =
    some (0, [.int .i64 (outS s f).2], [[.int .i64 (outS s f).1.ver, frmsV (outS s f).1.forms]]) := by
  have c := c_zforms s f hs
  have hb := body_len f s.forms f.fields.isEmpty
  have hl := hs.1
  have mem : ∀ (l : List Frm) (b : Bool), ∀ g ∈ bodyS f b l, g = f ∨ g ∈ l := by
    intro l
    induction l with
    | nil => intro b g hg; simp [bodyS] at hg
    | cons a l ih =>
      intro b g hg
      simp only [bodyS, List.mem_append] at hg
      rcases hg with hg | hg | hg
      · split at hg
        · simp at hg; exact .inl hg
        · simp at hg
      · split at hg
        · simp at hg; exact .inr (by simp [hg])
        · simp at hg
      · rcases ih _ g hg with h | h
        · exact .inl h
        · exact .inr (by simp [h])
  have sm : Sml ⟨s.ver, formsS f f.fields.isEmpty s.forms⟩ := by
    refine ⟨?_, fun g hg => ?_⟩
    · have : (formsS f f.fields.isEmpty s.forms).length ≤ 3000 := by
        unfold formsS
        rw [List.length_append]
        split <;> simp <;> omega
      exact Nat.le_trans this (by decide)
    · have : g = f ∨ g ∈ s.forms := by
        simp only [formsS, List.mem_append] at hg
        rcases hg with hg | hg
        · exact mem _ _ g hg
        · split at hg
          · simp at hg
          · simp at hg; exact .inl hg
      rcases this with rfl | h
      · exact Nat.le_trans hf (by decide)
      · exact Nat.le_trans (hs.2 g h) (by decide)
  have d := c_ysRight _ sm
  refine t_zOnM s f ?_
  simp only [frmV, fldsV, frmsV, schV] at c d ⊢
  simp only [s_zOnM, OA_chk, cond_true, OA_callx, c, d, Option.bind_some, u_asC, u_asA, u_asI, u_asL, u_asB, u_asN, outS]
  rcases bor (schS ⟨s.ver, formsS f f.fields.isEmpty s.forms⟩) with b | b
  · simp [b]
  · simp [b, sch0]
theorem names0 {s : Sch} {x : Stp} (h : namesS s x = 0) (h9 : x.op ≠ 9) : ∃ (j : Nat) (g : Frm), findS s.forms x.form = (j : Int) ∧ s.forms[j]? = some g ∧ g.id = x.form ∧ oldS s x = g.fields ∧
    (fieldS x.op = true → ∃ (k : Nat) (f : Fld), atS g.fields x.field = (k : Int) ∧ g.fields[k]? = some f) ∧ (x.op = 1 → x.place ≤ g.fields.length ∧ atS g.fields x.f.id < 0) ∧ (x.op = 7 → x.place < g.fields.length) ∧ (x.op = 6 ∨ x.op = 8 → atS g.fields x.to < 0) := by
  rcases first_get (p := fun f : Frm => f.id == x.form) (l := s.forms) with ⟨j, g, e1, e2, e3⟩ | e1
  · have e1 : findS s.forms x.form = (j : Int) := e1
    refine ⟨j, g, e1, e2, by simpa using e3, by simp [oldS, e1, e2], ?_⟩
    have n1 : ¬ ((j : Int) < 0) := by omega
    simp only [namesS, h9, if_false, e1, n1, Int.toNat_natCast, e2] at h
    have a1 : ¬ ((fieldS x.op && decide (atS g.fields x.field < 0)) = true) := by
      intro a; simp [a] at h
    rw [if_neg a1] at h
    have a2 : ¬ (((x.op == 1 && decide (0 ≤ atS g.fields x.f.id)) || ((x.op == 6 || x.op == 8) && decide (0 ≤ atS g.fields x.to))) = true) := by
      intro a; simp [a] at h
    rw [if_neg a2] at h
    have a3 : ¬ (((x.op == 1 && decide ((g.fields.length : Int) < x.place)) || (x.op == 7 && decide ((g.fields.length : Int) ≤ x.place))) = true) := by
      intro a; simp [a] at h
    refine ⟨fun hf => ?_, fun o => ?_, fun o => ?_, fun o => ?_⟩
    · rcases first_get (p := fun f : Fld => f.id == x.field) (l := g.fields) with ⟨k, f, q1, q2, q3⟩ | q1
      · exact ⟨k, f, q1, q2⟩
      · exfalso
        have q1 : atS g.fields x.field = -1 := q1
        apply a1
        simp [hf, q1]
    · simp [o] at a2 a3
      omega
    · simp [o] at a3
      omega
    · simp at a2
      have := a2.2 o
      omega
  · have e1 : findS s.forms x.form = -1 := e1
    simp [namesS, h9, e1] at h
theorem cut_len {l : List Fld} {n : Nat} (h : n < l.length) : (cutS l n).length + 1 = l.length := by
  unfold cutS
  simp
  omega
theorem schS_few {s : Sch} (h : schS s = true) : s.forms.length ≤ 8 ∧ ∀ f ∈ s.forms, f.fields.length ≤ 8 ∧ ∀ x ∈ f.fields, rgtS x = true := by
  simp only [schS, Bool.and_eq_true, decide_eq_true_eq] at h
  refine ⟨h.1.2, fun f hf => ?_⟩
  have := risingS_all _ _ h.2 f hf
  rw [fineS_iff] at this
  exact ⟨this.2.1.2, this.2.2.2.1⟩
theorem types_len (f : Fld) (x : Stp) : (typesS f x).1.length ≤ 2 := by
  unfold typesS
  repeat' split
  all_goals simp
theorem c_zOn (s : Sch) (x : Stp) (hs : Few s) (hx : x.sml) : tbl E0 12 [schV s, stpV x] [] = some ([schV (onS s x).1, .int .i64 (onS s x).2], []) := t_zOn s x (by
  have c1 := c_ysRight s hs.sml
  have c2 := c_ytRight x hx
  rw [← tRight_eq] at c2
  have cn := c_znames s x hs
  have cF := c_yFind s x.form hs.sml
  simp only [schV, stpV, stpC, intsV, frmsV, fldsV] at c1 c2 cn cF
  have gate : onS s x = if !(schS s) || (!(tRightS x) || decide (10 < x.op)) then (sch0, 2) else onS s x := by
    by_cases h : (!(schS s) || (!(tRightS x) || decide (10 < x.op))) = true
    · rw [if_pos h]; unfold onS; rw [if_pos h]
    · rw [if_neg h]
  simp only [s_zOn, OA_chk, cond_true, OA_join, OA_callx, c1, Option.bind_some, u_asC, u_asB, u_asN]
  rcases bor' (schS s) with h1 | h1
  · simp [h1, gate, sch0]
  simp only [h1, Bool.not_true, cond_false, c2, Option.bind_some, u_asC, u_asB, u_asN]
  rcases bor' (tRightS x) with h2 | h2
  · simp [h1, h2, gate, sch0]
  simp only [h2, Bool.not_true, cond_false, Option.bind_some, Tok.untok_tok, gt_iff_lt]
  by_cases h3 : 10 < x.op
  · simp [h1, h2, h3, gate, sch0]
  simp only [h3, decide_false, cond_false, cn, Option.bind_some, u_asC, u_asI, u_asN]
  have g0 : ¬ ((!(schS s) || (!(tRightS x) || decide (10 < x.op))) = true) := by simp [h1, h2, h3]
  by_cases h4 : ¬ (namesS s x = 0)
  · have h4' := bne_t h4
    simp only [h4', cond_true, onS, if_neg g0, ne_eq, h4, not_false_eq_true, if_true, sch0, schV, frmsV, List.map_nil]
  have h4 : namesS s x = 0 := Classical.not_not.1 h4
  have h4' : (namesS s x != 0) = false := by simp [h4]
  simp only [h4', cond_false]
  have M := fun (f : Frm) (hf : f.fields.length ≤ 1000) => c_zOnM s f hs hf
  simp only [frmsV, fldsV, List.map_nil] at M
  by_cases h9 : x.op = 9
  · have f9 := right_9 h2 h9
    have l9 : x.fields.length ≤ 8 := (fineS_fld f9).1
    have q : (0 + (x.fields.map fldV).length) * 40 ≤ 211106232532992 := by rw [List.length_map]; omega
    have m := M ⟨x.form, x.fields⟩ (by simp; omega)
    simp only at m
    simp only [h9, beq_self_eq_true, cond_true, q, decide_true, OA_loop, m, Option.bind_some, s_zOn_k1, nbeq, u_asN, u_asC, u_asI, u_asL, OA_chk]
    have eo : onS s x = outS s ⟨x.form, x.fields⟩ := by unfold onS; rw [if_neg g0, if_neg (by simp [h4]), if_pos h9]
    rw [eo]
  have h9' : (x.op == 9) = false := by simpa using h9
  simp only [h9', cond_false]
  obtain ⟨j, g, e1, e2, e3, e4, e5, e6, e7, e8⟩ := names0 h4 h9
  have hg : g.fields.length ≤ 8 := ((schS_few h1).2 g (List.mem_of_getElem? e2)).1
  rw [e1] at cF
  by_cases o1 : x.op = 1
  · obtain ⟨p1, p2⟩ := right_1 h2 o1
    have p3 := (e6 o1).1
    obtain ⟨k, hk⟩ : ∃ k : Nat, x.place = (k : Int) := ⟨x.place.toNat, by omega⟩
    have c := c_zput g.fields k x.f (by omega) (by omega)
    have m := M ⟨x.form, putS g.fields k [x.f]⟩ (by rw [put_len]; simp; omega)
    simp only [fldsV, fldV, fldC] at c
    simp only at m
    simp only [o1, beq_self_eq_true, cond_true, OA_callx, cF, Option.bind_some, u_asC, u_asI, u_asN, u_asA, u_asL, Int.natCast_nonneg, decide_true, nthE, Int.toNat_natCast, List.getElem?_map, e2, Option.map_some, hk, c, OA_loop, m, s_zOn_k1, nbeq, OA_chk]
    have eo : onS s x = outS s ⟨x.form, putS g.fields k [x.f]⟩ := by unfold onS; rw [if_neg g0, if_neg (by simp [h4]), if_neg h9, if_pos o1, e4, hk, Int.toNat_natCast]
    rw [eo]
  have o1' : (x.op == 1) = false := by simpa using o1
  simp only [o1', cond_false]
  by_cases o10 : x.op = 10
  · have m := M ⟨x.form, []⟩ (by simp)
    simp only [List.map_nil] at m
    simp only [o10, beq_self_eq_true, cond_true, OA_loop, m, Option.bind_some, s_zOn_k1, nbeq, u_asN, u_asC, u_asI, u_asL, OA_chk, decide_true]
    have eo : onS s x = outS s ⟨x.form, []⟩ := by unfold onS; rw [if_neg g0, if_neg (by simp [h4]), if_neg h9, if_neg o1, if_pos o10]
    rw [eo]
  have o10' : (x.op == 10) = false := by simpa using o10
  have hfield : fieldS x.op = true := by simp [fieldS, o1, h9, o10]
  obtain ⟨k, f, q1, q2⟩ := e5 hfield
  have hk : k < g.fields.length := (List.getElem?_eq_some_iff.1 q2).1
  have hf : rgtS f = true := ((schS_few h1).2 g (List.mem_of_getElem? e2)).2 f (List.mem_of_getElem? q2)
  have cA := c_yAt ⟨0, g.fields⟩ x.field (by simp; omega)
  simp only [frmV, fldsV, q1] at cA
  have cT := c_zTypes f x (fun _ => hf) (fun o6 => by have := right_6 h2 o6; omega)
  have cC := c_zcut g.fields k hk (by omega)
  have hC := cut_len hk
  have hT := types_len f x
  simp only [fldV, fldC, stpV, stpC, intsV, fldsV] at cT cC
  simp only [o10', cond_false, OA_callx, cF, cA, Option.bind_some, u_asC, u_asI, u_asN, u_asA, u_asL, Int.natCast_nonneg, decide_true, nthE, Int.toNat_natCast, List.getElem?_map, e2, q2, Option.map_some, cT, cond_true, u_asB, OA_chk]
  have eo : onS s x = if (typesS f x).2 then (if (newS g.fields x (typesS f x).1).isEmpty then (sch0, 7) else outS s ⟨x.form, newS g.fields x (typesS f x).1⟩) else (sch0, 17) := by
    simp only [onS, if_neg g0, ne_eq, h4, not_true_eq_false, if_false, h9, o1, o10, e4, q1, Int.toNat_natCast, q2]
  rw [eo]
  rcases bor' ((typesS f x).2) with t | t
  · simp [t, sch0]
  simp only [t, Bool.not_true, cond_false, OA_callx, cC, Option.bind_some, u_asC, u_asL, u_asN, OA_chk, cond_true, if_true]
  have fin : ∀ (n : Nat), n ≤ (cutS g.fields k).length → newS g.fields x (typesS f x).1 = putS (cutS g.fields k) n (typesS f x).1 →
      ltbl E0 12 0 17 [.int .i64 n, .lst .ro 5 ((typesS f x).1.map fldV), .int .i64 0] [[.int .i64 s.ver, .lst .ro 2 (s.forms.map frmV)], [.int .i64 0, .lst .ro 2 []], [.int .i64 x.form, .lst .ro 5 ((cutS g.fields k).map fldV)]] =
        some (2, [], [[.int .i64 s.ver, .lst .ro 2 (s.forms.map frmV)], [.int .i64 0, .lst .ro 2 []], [.int .i64 x.form, .lst .ro 5 ((newS g.fields x (typesS f x).1).map fldV)]]) := by
    intro n hn e
    have h := c_zOnL s (cutS g.fields k) (n : Int) x.form n rfl (typesS f x).1 hn (by omega) (by omega) (typesS f x).1 0 rfl
    have z : putS (cutS g.fields k) n ((typesS f x).1.take 0) = cutS g.fields k := by simp [putS]
    rw [z] at h
    rw [e]
    simpa only [Int.natCast_zero, fldsV, frmsV, List.map_nil] using h
  have fm := M ⟨x.form, newS g.fields x (typesS f x).1⟩ (by
    unfold newS
    rw [put_len, q1, Int.toNat_natCast]
    omega)
  have tail : ∀ (j0 : Nat) (a : List AV) (b : List (List AV)), (j0, a, b) = (2, [], [[AV.int .i64 s.ver, AV.lst .ro 2 (s.forms.map frmV)], [AV.int .i64 0, AV.lst .ro 2 []], [AV.int .i64 x.form, AV.lst .ro 5 ((newS g.fields x (typesS f x).1).map fldV)]]) →
      s_zOn_k2 (OA (tbl E0) (ltbl E0 12 0)) s x (fun r o => some (r, o)) j0 a b = some ([schV (if (newS g.fields x (typesS f x).1).isEmpty then (sch0, 7) else outS s ⟨x.form, newS g.fields x (typesS f x).1⟩).1, .int .i64 (if (newS g.fields x (typesS f x).1).isEmpty then (sch0, 7) else outS s ⟨x.form, newS g.fields x (typesS f x).1⟩).2], []) := by
    intro j0 a b e
    injection e with a1 e
    injection e with a2 a3
    subst a1 a2 a3
    simp only [s_zOn_k2, nbeq, decide_true, cond_true, u_asN, u_asC, u_asI, u_asL, OA_asm, List.length_map]
    cases hN : newS g.fields x (typesS f x).1 with
    | nil => simp [sch0]
    | cons y l =>
      have z : (((y :: l).length : Int) == 0) = false := by simp; omega
      rw [hN] at fm
      simp only [z, cond_false, OA_loop, fm, Option.bind_some, s_zOn_k1, nbeq, decide_true, cond_true, u_asN, u_asC, u_asI, u_asL, OA_chk]
      simp [schV, frmsV]
  by_cases o7 : x.op = 7
  · have p := right_7 h2 o7
    have p2 := e7 o7
    obtain ⟨n, hn⟩ : ∃ n : Nat, x.place = (n : Int) := ⟨x.place.toNat, by omega⟩
    have h := fin n (by omega) (by simp only [newS, o7, if_true, hn, Int.toNat_natCast, q1])
    simp only [o7, beq_self_eq_true, cond_true, OA_loop, hn, h, Option.bind_some]
    exact tail _ _ _ rfl
  · have o7' : (x.op == 7) = false := by simpa using o7
    have h := fin k (by omega) (by simp only [newS, o7, if_false, Int.toNat_natCast, q1])
    simp only [o7', cond_false, OA_loop, h, Option.bind_some]
    exact tail _ _ _ rfl)
theorem out_right {s : Sch} {f : Frm} (h : (outS s f).2 = 0) : schS (outS s f).1 = true ∧ (outS s f).1 = ⟨s.ver, formsS f f.fields.isEmpty s.forms⟩ := by
  unfold outS at h ⊢
  split at h
  · rename_i c; rw [if_pos c]; exact ⟨c, rfl⟩
  · simp at h
theorem on_out {s : Sch} {x : Stp} (h : (onS s x).2 = 0) : ∃ f : Frm, f.id = x.form ∧ onS s x = outS s f ∧ (x.op ≠ 10 → f.fields.isEmpty = false) ∧ schS s = true ∧ namesS s x = 0 ∧ tRightS x = true ∧ x.op ≤ 10 := by
  by_cases g0 : (!(schS s) || (!(tRightS x) || decide (10 < x.op))) = true
  · unfold onS at h; rw [if_pos g0] at h; simp at h
  · have g1 : schS s = true ∧ tRightS x = true ∧ x.op ≤ 10 := by
      simp at g0
      exact ⟨g0.1, g0.2.1, by omega⟩
    by_cases h4 : namesS s x = 0
    · by_cases h9 : x.op = 9
      · have eo : onS s x = outS s ⟨x.form, x.fields⟩ := by unfold onS; rw [if_neg g0, if_neg (by simp [h4]), if_pos h9]
        refine ⟨_, rfl, eo, fun _ => ?_, g1.1, h4, g1.2.1, g1.2.2⟩
        have f9 := right_9 g1.2.1 h9
        rw [fineS_iff] at f9
        have := f9.2.1.1
        cases hx : x.fields with
        | nil => simp [hx] at this
        | cons a l => rfl
      · by_cases o1 : x.op = 1
        · have eo : onS s x = outS s ⟨x.form, putS (oldS s x) x.place.toNat [x.f]⟩ := by unfold onS; rw [if_neg g0, if_neg (by simp [h4]), if_neg h9, if_pos o1]
          exact ⟨_, rfl, eo, fun _ => by simp [putS], g1.1, h4, g1.2.1, g1.2.2⟩
        · by_cases o10 : x.op = 10
          · have eo : onS s x = outS s ⟨x.form, []⟩ := by unfold onS; rw [if_neg g0, if_neg (by simp [h4]), if_neg h9, if_neg o1, if_pos o10]
            exact ⟨_, rfl, eo, fun h => absurd o10 h, g1.1, h4, g1.2.1, g1.2.2⟩
          · unfold onS at h ⊢
            rw [if_neg g0, if_neg (by simp [h4]), if_neg h9, if_neg o1, if_neg o10] at h ⊢
            split at h
            · simp at h
            · rename_i g hg
              split at h
              · rename_i t
                rw [if_pos t]
                split at h
                · simp at h
                · rename_i e
                  rw [if_neg e]
                  exact ⟨_, rfl, rfl, fun _ => by simpa using e, g1.1, h4, g1.2.1, g1.2.2⟩
              · simp at h
    · unfold onS at h
      rw [if_neg g0, if_pos h4] at h
      exact absurd h h4
theorem on_right {s : Sch} {x : Stp} (h : (onS s x).2 = 0) : schS (onS s x).1 = true := by
  obtain ⟨f, _, e, _⟩ := on_out h
  rw [e] at h ⊢
  exact (out_right h).1
theorem few_of {s : Sch} (h : schS s = true) : Few s := by
  have := schS_few h
  exact ⟨by omega, fun f hf => by have := (this.2 f hf).1; omega⟩
theorem c_zAllL (l : List Stp) (hl : l.length ≤ 1000) (hx : ∀ x ∈ l, x.sml) : ∀ (r : List Stp) (i : Nat) (s : Sch), l.drop i = r → Few s →
    ltbl E0 15 0 2 [stpsV l, .int .i64 i] [[.int .i64 s.ver, frmsV s.forms], [.int .i64 0, frmsV []]] =
      some (if (allS s i r).2.2 = 0 then (1, [], [[.int .i64 (allS s i r).1.ver, frmsV (allS s i r).1.forms], [.int .i64 0, frmsV []]]) else (0, [.int .i64 ((allS s i r).2.1 : Nat), .int .i64 (allS s i r).2.2], [[.int .i64 0, frmsV []]])) := by
  intro r
  induction r with
  | nil =>
    intro i s hr hs
    have h : l.length ≤ i := by simpa using hr
    refine t_zAllL _ _ _ ?_
    have : ¬ ((i : Int) < l.length) := by omega
    simp [s_zAllL, this, allS]
  | cons x r ih =>
    intro i s hr hs
    obtain ⟨hlt, hget, hr2⟩ := drop_c hr
    have h2 : (i : Int) < l.length := by omega
    have e1 := i64_succ (i := i) (by omega)
    have c := c_zOn s x hs (hx x (mem_drop hr))
    simp only [schV, frmsV, stpV, stpC, intsV, fldsV] at c
    refine t_zAllL _ _ _ ?_
    simp only [stpV, stpC, intsV, fldsV, frmsV, List.map_nil] at ih ⊢
    simp only [s_zAllL, s_zAllL_k1, OA_asm, List.length_map, h2, decide_true, cond_true, OA_chk, Int.natCast_nonneg, nthE, Int.toNat_natCast, List.getElem?_map, hget, Option.map_some, u_asA, u_asC, u_asI, u_asS, u_asL, u_asN, OA_callx, c, Option.bind_some, e1, OA_dbl, OA_both_id]
    by_cases h : (onS s x).2 = 0
    · have h' : ((onS s x).2 != 0) = false := by simp [h]
      have e := ih (i + 1) (onS s x).1 hr2 (few_of (on_right h))
      simp only [h', cond_false, e, allS, if_pos h]
    · have h' := bne_t h
      simp only [h', cond_true, allS, if_neg h]
theorem c_zAll (s : Sch) (l : List Stp) (hs : Few s) (hl : l.length ≤ 1000) (hx : ∀ x ∈ l, x.sml) : tbl E0 15 [schV s, stpsV l] [] = some ([schV (allS s 0 l).1, .int .i64 ((allS s 0 l).2.1 : Nat), .int .i64 (allS s 0 l).2.2], []) := t_zAll s l (by
  have c := c_zAllL l hl hx l 0 s rfl hs
  have z : ∀ (l : List Stp) (i : Nat) (s : Sch), ((allS s i l).2.2 = 0 → (allS s i l).2.1 = 0) ∧ ((allS s i l).2.2 ≠ 0 → (allS s i l).1 = sch0) := by
    intro l
    induction l with
    | nil => intro i s; simp [allS]
    | cons x l ih =>
      intro i s
      unfold allS
      by_cases h : (onS s x).2 = 0
      · rw [if_pos h]; exact ih _ _
      · rw [if_neg h]; exact ⟨fun h2 => absurd h2 h, fun _ => rfl⟩
  obtain ⟨z1, z2⟩ := z l 0 s
  simp only [Int.natCast_zero, stpsV, frmsV, List.map_nil] at c
  simp only [s_zAll, OA_chk, cond_true, OA_loop, c, Option.bind_some]
  by_cases h : (allS s 0 l).2.2 = 0
  · simp [h, z1 h]
  · simp [h, z2 h, sch0])
end Go.Proofs.Ytalpknofimglbaa.V
namespace Go.Proofs.Ytalpknofimglbaa.V
open Go
theorem c_gscaled (f : Fld) (a b : Int) : tbl E0 99 [fldV f, .int .i64 a, .int .i64 b] [] = some ([fldV (scaledS f a b), .bool (rgtS (scaledS f a b))], []) := t_gscaled f a b (by
  have c3 := c_fRight (scaledS f a b)
  have m1 : (if IntKind.i64.wrap (IntKind.i64.wrap (a * f.hi) + b) < IntKind.i64.wrap (IntKind.i64.wrap (a * f.lo) + b) then IntKind.i64.wrap (IntKind.i64.wrap (a * f.hi) + b) else IntKind.i64.wrap (IntKind.i64.wrap (a * f.lo) + b)) = minS (affS a b f.lo) (affS a b f.hi) := rfl
  have m2 : (if IntKind.i64.wrap (IntKind.i64.wrap (a * f.lo) + b) < IntKind.i64.wrap (IntKind.i64.wrap (a * f.hi) + b) then IntKind.i64.wrap (IntKind.i64.wrap (a * f.hi) + b) else IntKind.i64.wrap (IntKind.i64.wrap (a * f.lo) + b)) = maxS (affS a b f.lo) (affS a b f.hi) := rfl
  simp only [fldV, fldC, scaledS] at c3
  simp only [s_gscaled, s_gscaled_k1, s_gscaled_k2, OA_chk, cond_true, OA_callx, m1, m2, c3, Option.bind_some, u_asC, u_asB, u_asN, OA_both_id, OA_dbl]
  rfl)
theorem oshE4 : (nodupN (List.map (fun x => x.fst) (oshOf T0 0 [AV.ref 0 0] Try.f76.params.toList)) && (oshOf T0 0 [AV.ref 0 0] Try.f76.params.toList).all fun p => p.fst.blt 64) = true := by kernel_rfl
theorem oshE5 : (nodupN (List.map (fun x => x.fst) (oshOf T0 0 [AV.ref 0 0] Try.f35.params.toList)) && (oshOf T0 0 [AV.ref 0 0] Try.f35.params.toList).all fun p => p.fst.blt 64) = true := by kernel_rfl
theorem oshE6 : (nodupN (List.map (fun x => x.fst) (oshOf T0 0 [AV.ref 0 0] Try.f39.params.toList)) && (oshOf T0 0 [AV.ref 0 0] Try.f39.params.toList).all fun p => p.fst.blt 64) = true := by kernel_rfl
set_option maxHeartbeats 2000000 in
theorem c_gturned1 (x : Stp) (v : Int) (l : List Frm) (p e : Int) (o1 : x.op = 1) : tbl E0 76 [.ref 0 0] [(0, madO x v l p e)] = some ([fldsU [x.f], .int .i64 0, .bool true], [(0, madO x v l p e)]) := t_gturned x v l p e (by
  have q := flat_frms l
  have o := oshE4
  rw [Bool.and_eq_true] at o
  have o1' : (x.op == 1) = true := by simpa using o1
  simp only [s_gturned, fit_mad, o.1, o.2, List.all_cons, List.all_nil, fitA, Bool.and_self, cond_true, OA_chk, q, o1', fldsU, List.map_cons, List.map_nil])
set_option maxHeartbeats 2000000 in
theorem c_gturned (x : Stp) (v : Int) (l : List Frm) (p e : Nat) (g : Frm) (f : Fld) (hg : l[p]? = some g) (hf : g.fields[e]? = some f) (hr : f.kind = 3 → rgtS f = true) (o1 : x.op ≠ 1) (ha : x.op = 6 → x.a ≠ 0) :
    tbl E0 76 [.ref 0 0] [(0, madO x v l p e)] = some ([fldsU (turnedS f x).1, .int .i64 1, .bool (turnedS f x).2], [(0, madO x v l p e)]) := t_gturned x v l p e (by
  have q := flat_frms l
  have o := oshE4
  rw [Bool.and_eq_true] at o
  have o1' : (x.op == 1) = false := by simpa using o1
  have c := c_gown x v l p e g f hg hf
  have c1 := c_fHas f x.n x.s
  have c2 := c_gWider f x.f
  have c3 := c_gscaled f x.a x.b
  simp only [fldV, fldC] at c c1 c2 c3
  simp only [s_gturned, s_gturned_k1, s_gturned_k2, fit_mad, o.1, o.2, List.all_cons, List.all_nil, fitA, Bool.and_self, cond_true, cond_false, OA_chk, q, o1', OA_call, c, Option.bind_some, nbeq, decide_true, u_asN, u_asC, u_asI, u_asS, u_asL, u_asUq, u_asA, u_asB]
  by_cases h2 : x.op = 2
  · have t2 : (x.op == 2) = true := by simpa using h2
    have e2 : turnedS f x = ([], hasV f x.n x.s) := by simp [turnedS, h2]
    rw [e2]
    simp only [t2, cond_true, OA_callx, c1, Option.bind_some, u_asC, u_asB, u_asN, q]
    rfl
  have g2 := beq_f h2
  by_cases h3 : x.op = 3
  · have t3 : (x.op == 3) = true := by simpa using h3
    have e3 : turnedS f x = ([x.f], widerS f x.f) := by simp [turnedS, h3]
    rw [e3]
    simp only [g2, t3, cond_true, cond_false, OA_callx, c2, Option.bind_some, u_asC, u_asB, u_asN, q, OA_both_id, OA_chk]
    rfl
  have g3 := beq_f h3
  by_cases h4 : x.op = 4
  · have t4 : (x.op == 4) = true := by simpa using h4
    simp only [t4, g2, g3, cond_true, cond_false, OA_chk]
    have e4 : turnedS f x = (if f.kind = 1 then ([scaledS f x.a x.b], rgtS (scaledS f x.a x.b)) else ([f], false)) := by simp [turnedS, h4]
    by_cases k : f.kind = 1
    · have k' : (f.kind == 1) = true := by simpa using k
      rw [e4, if_pos k]
      simp only [k', cond_true, OA_callx, c3, Option.bind_some, u_asC, u_asA, u_asI, u_asB, u_asN, q]
      rfl
    · have k' : (f.kind == 1) = false := by simpa using k
      rw [e4, if_neg k]
      simp only [k', cond_false, q, cond_true]
      rfl
  have g4 := beq_f h4
  by_cases h5 : x.op = 5
  · have t5 : (x.op == 5) = true := by simpa using h5
    have e5 : turnedS f x = ([⟨f.id, f.kind, f.lo, f.hi, x.a⟩], f.kind == 3 && f.most == (x.t.length : Int)) := by simp [turnedS, h5]
    rw [e5]
    simp only [t5, g2, g3, g4, cond_true, cond_false, OA_chk, OA_asm, OA_join, List.length_map, q]
    rcases bor (f.kind == 3) with k | k <;> simp only [k, cond_true, cond_false, Option.bind_some, Tok.untok_tok, Bool.true_and, Bool.false_and] <;> rfl
  have g5 := beq_f h5
  by_cases h6 : x.op = 6
  · have t6 : (x.op == 6) = true := by simpa using h6
    have e6 : turnedS f x = ([⟨f.id, f.kind, f.lo, IntKind.i64.wrap (f.hi.tdiv x.a), f.most⟩, ⟨x.to, 1, 0, minS (IntKind.i64.wrap (x.a - 1)) f.hi, 0⟩], f.kind == 1 && f.lo == 0) := by simp [turnedS, h6]
    have ha' : (!(x.a == (0 : Int))) = true := by simpa using ha h6
    have m1 : (if f.hi < IntKind.i64.wrap (x.a - 1) then f.hi else IntKind.i64.wrap (x.a - 1)) = minS (IntKind.i64.wrap (x.a - 1)) f.hi := rfl
    rw [e6]
    simp only [t6, g2, g3, g4, g5, cond_true, cond_false, OA_chk, OA_asm, OA_join, ha', m1, q]
    rcases bor (f.kind == 1) with k | k <;> simp only [k, cond_true, cond_false, Option.bind_some, Tok.untok_tok, Bool.true_and, Bool.false_and] <;> rfl
  have g6 := beq_f h6
  have e7 : turnedS f x = ([⟨x.to, f.kind, f.lo, f.hi, f.most⟩], true) := by simp [turnedS, h2, h3, h4, h5, h6]
  rw [e7]
  simp only [g2, g3, g4, g5, g6, cond_false, cond_true, OA_chk, q]
  rfl)
def thereS (x : Stp) (g : Frm) (e n : Int) : Int :=
  if e < 0 then 8 else if decide (0 ≤ n) && decide (0 ≤ atS g.fields n) then 9
  else if x.op == 1 && decide ((g.fields.length : Int) < x.place) then 3 else if x.op == 7 && decide ((g.fields.length : Int) ≤ x.place) then 3 else 0
def atG (x : Stp) (g : Frm) : Int := if x.op = 1 then x.place else if x.op = 10 then 0 else atS g.fields x.field
def freshG (x : Stp) : Int := if x.op = 1 then x.f.id else if x.op = 6 ∨ x.op = 8 then x.to else -1
theorem c_gthereM (x : Stp) (v : Int) (l : List Frm) (p e : Int) (g : Frm) (n : Int) (hg : g.fields.length ≤ 1000) :
    ltbl E0 35 0 1000020 [.int .i64 n] [madO x v l p e, [.int .i64 g.id, fldsV g.fields]] = some (0, [.int .i64 (thereS x g e n)], [madO x v l p e]) := t_gthereM x v l p e g n (by
  have q := flat_frms l
  have c := c_sAt g n (by omega)
  simp only [frmV, fldsV] at c
  simp only [s_gthereM, q, cond_true, OA_join, OA_chk, OA_callx, c, Option.bind_some, u_asC, u_asI, u_asN, OA_asm, List.length_map, ge_iff_le, gt_iff_lt]
  unfold thereS
  by_cases e0 : e < 0
  · simp only [e0, decide_true, cond_true, if_true]
  · simp only [e0, decide_false, cond_false, if_false]
    rw [tok_cond]
    simp only [Option.bind_some, Tok.untok_tok, tok_cond, cond_ff]
    rcases bor (decide (0 ≤ n) && decide (0 ≤ atS g.fields n)) with a | a
    · simp only [a, cond_true, if_true]
    · simp only [a, cond_false, Bool.false_eq_true, if_false, Option.bind_some, Tok.untok_tok]
      rcases bor (x.op == 1 && decide ((g.fields.length : Int) < x.place)) with b | b
      · simp only [b, cond_true, if_true]
      · simp only [b, cond_false, Bool.false_eq_true, if_false, Option.bind_some, Tok.untok_tok]
        rcases bor (x.op == 7 && decide ((g.fields.length : Int) ≤ x.place)) with c | c <;> simp only [c, cond_true, cond_false, Bool.false_eq_true, if_true, if_false])
theorem z72 (a b : AV) : setAt ((tabAt T0 (E0.an 35 0)).ty 52).zero 0 [a, b] = [a, b] := rfl
theorem s72 : ((tabAt T0 (E0.an 35 0)).ty 52).size = 2 := by kernel_rfl
theorem d72 (g : Frm) : List.map AV.dem1 [AV.int .i64 g.id, fldsV g.fields] = [AV.int .i64 g.id, fldsV g.fields] := rfl
theorem dS72 (g : Frm) : demSL [Sh.int .i64, Sh.lst 5] [AV.int .i64 g.id, fldsV g.fields] = [AV.int .i64 g.id, fldsV g.fields] := rfl
theorem f72 (g : Frm) : (AV.agg [AV.int .i64 g.id, fldsV g.fields]).flat = true := rfl
theorem f72' (g : Frm) : ([AV.int .i64 g.id, fldsV g.fields]).all AV.flat1 = true := rfl
theorem fI (n : Int) : (AV.int .i64 n).flat = true := rfl
theorem b22 : Nat.ble 2 2 = true := rfl
theorem hereS_get {id : Int} {l : List Frm} {g : Frm} (h : l[posS id l]? = some g) (e : g.id = id) : hereS id l = true := by
  simp [hereS, h, e]
set_option maxHeartbeats 4000000 in
theorem c_gthere9 (x : Stp) (v : Int) (l : List Frm) (p e : Int) (hl : l.length ≤ 1000) (o : x.op = 9) :
    tbl E0 35 [.ref 0 0] [(0, madO x v l p e)] = some ([.int .i64 (if hereS x.form l then 9 else 0)], [(0, madO x v l (posS x.form l) e)]) := t_gthere x v l p e (by
  have q := flat_frms l
  have o5 := oshE5
  rw [Bool.and_eq_true] at o5
  have c := c_gfind x v l p e hl
  have t : (x.op == 9) = true := by simpa using o
  simp only [s_gthere, fit_mad, o5.1, o5.2, List.all_cons, List.all_nil, fitA, Bool.and_self, cond_true, OA_chk, q, OA_call, c, Option.bind_some, nbeq, decide_true, u_asN, u_asC, u_asI, u_asS, u_asL, u_asUq, u_asB, t]
  rcases bor (hereS x.form l) with h | h <;> simp only [h, cond_true, cond_false, if_true, Bool.false_eq_true, if_false])
set_option maxHeartbeats 4000000 in
theorem c_gthere8 (x : Stp) (v : Int) (l : List Frm) (p e : Int) (hl : l.length ≤ 1000) (o : x.op ≠ 9) (h : hereS x.form l = false) :
    tbl E0 35 [.ref 0 0] [(0, madO x v l p e)] = some ([.int .i64 8], [(0, madO x v l (posS x.form l) e)]) := t_gthere x v l p e (by
  have q := flat_frms l
  have o5 := oshE5
  rw [Bool.and_eq_true] at o5
  have c := c_gfind x v l p e hl
  have t := beq_f o
  simp only [s_gthere, fit_mad, o5.1, o5.2, List.all_cons, List.all_nil, fitA, Bool.and_self, cond_true, OA_chk, q, OA_call, c, Option.bind_some, nbeq, decide_true, u_asN, u_asC, u_asI, u_asS, u_asL, u_asUq, u_asB, t, h, cond_false, Bool.not_false])
set_option maxHeartbeats 4000000 in
theorem c_gthere (x : Stp) (v : Int) (l : List Frm) (p e : Int) (hl : l.length ≤ 1000) (hf : ∀ f ∈ l, f.fields.length ≤ 1000) (o : x.op ≠ 9) (g : Frm) (hg : l[posS x.form l]? = some g) (he : g.id = x.form) :
    tbl E0 35 [.ref 0 0] [(0, madO x v l p e)] = some ([.int .i64 (thereS x g (atG x g) (freshG x))], [(0, madO x v l (posS x.form l) (atG x g))]) := t_gthere x v l p e (by
  have q := flat_frms l
  have o5 := oshE5
  rw [Bool.and_eq_true] at o5
  have c := c_gfind x v l p e hl
  have t := beq_f o
  have h := hereS_get hg he
  have hlt : posS x.form l < l.length := (List.getElem?_eq_some_iff.1 hg).1
  have hlt2 : ((posS x.form l : Nat) : Int) < l.length := by omega
  have hgl := hf g (List.mem_of_getElem? hg)
  have cA := c_sAt g x.field (by omega)
  have M := fun (e n : Int) => c_gthereM x v l (posS x.form l) e g n hgl
  simp only [frmV, fldsV] at cA
  simp only [s_gthere, fit_mad, o5.1, o5.2, List.all_cons, List.all_nil, fitA, Bool.and_self, cond_true, OA_chk, q, OA_call, c, Option.bind_some, nbeq, decide_true, u_asN, u_asC, u_asI, u_asS, u_asL, u_asUq, u_asB, t, h, cond_false, Bool.not_true, s_gthere_k4, List.length_map, hlt2, Int.natCast_nonneg, s_gthere_k1, nthE, Int.toNat_natCast, List.getElem?_map, hg, Option.map_some, OA_both_id, OA_dbl, AV.cells, List.length_cons, List.length_nil, List.drop_zero, List.take_succ_cons, List.take_zero, z72, s72]
  simp only [Nat.zero_add, Nat.reduceAdd, b22, cond_true, d72, dS72, f72, f72', fI, List.take_succ_cons, List.take_zero, Bool.and_self, Bool.true_and, OA_callx]
  simp only [fldsV] at M ⊢
  simp only [cA, Option.bind_some, u_asC, u_asI, u_asN]
  by_cases o1 : x.op = 1
  · have t1 : (x.op == 1) = true := by simpa using o1
    have e1 : atG x g = x.place := by simp [atG, o1]
    have e2 : freshG x = x.f.id := by simp [freshG, o1]
    rw [e1, e2]
    simp only [t1, cond_true, OA_loop, M, Option.bind_some, s_gthere_k2, nbeq, decide_true, u_asN, u_asC, u_asI, u_asS, u_asL, u_asUq, q]
  have t1 := beq_f o1
  by_cases o6 : x.op = 6 ∨ x.op = 8
  · have e1 : atG x g = atS g.fields x.field := by
      have : ¬ x.op = 10 := by omega
      simp [atG, o1, this]
    have e2 : freshG x = x.to := by simp [freshG, o1, o6]
    rw [e1, e2]
    have k3 : s_gthere_k3 (OA (tbl E0) (ltbl E0 35 0)) x v l p e (fun r o => some (r, o)) (List.map frmV l) x.to x.op x.form x.field x.place x.a x.b x.f.id x.f.kind x.f.lo x.f.hi x.f.most x.n x.s (List.map (fun n => AV.int .i64 n) x.t) (List.map fldV x.fields) v (posS x.form l) (atS g.fields x.field) (frmV g) = some ([.int .i64 (thereS x g (atS g.fields x.field) x.to)], [(0, madO x v l (posS x.form l) (atS g.fields x.field))]) := by
      simp only [s_gthere_k3, q, cond_true, AV.cells, List.drop_zero, List.take_succ_cons, List.take_zero, z72, s72, d72, OA_loop]
      simp only [fldsV, M, Option.bind_some, s_gthere_k2, nbeq, decide_true, cond_true, u_asN, u_asC, u_asI, u_asS, u_asL, u_asUq, q]
    rcases o6 with o6 | o6
    · have t6 : (x.op == 6) = true := by simpa using o6
      simp only [t1, t6, cond_true, cond_false, k3]
    · have t8 : (x.op == 8) = true := by simpa using o6
      have t6 : (x.op == 6) = false := by simp [o6]
      simp only [t1, t6, t8, cond_true, cond_false, k3]
  have t6 : (x.op == 6) = false := beq_f (by omega)
  have t8 : (x.op == 8) = false := beq_f (by omega)
  have e2 : freshG x = -1 := by simp [freshG, o1, o6]
  by_cases o10 : x.op = 10
  · have t10 : (x.op == 10) = true := by simpa using o10
    have e1 : atG x g = 0 := by simp [atG, o10]
    rw [e1, e2]
    simp only [t1, t6, t8, t10, cond_true, cond_false, OA_loop, M, Option.bind_some, s_gthere_k2, nbeq, decide_true, u_asN, u_asC, u_asI, u_asS, u_asL, u_asUq, q]
  · have t10 := beq_f o10
    have e1 : atG x g = atS g.fields x.field := by simp [atG, o1, o10]
    rw [e1, e2]
    simp only [t1, t6, t8, t10, cond_true, cond_false, OA_loop, M, Option.bind_some, s_gthere_k2, nbeq, decide_true, u_asN, u_asC, u_asI, u_asS, u_asL, u_asUq, q])
theorem E0_X : E0.X = X0 := rfl
theorem c_delF (l : List Fld) (k : Nat) (hk : k < l.length) : tbl E0 75 [fldsU l, .int .i64 k, .int .i64 ((k + 1 : Nat) : Int)] [] = some ([fldsU (cutS l k)], []) := tbl_X (by
  have h1 : (0 : Int) ≤ k := by omega
  have h2 : (k : Int) ≤ ((k + 1 : Nat) : Int) := by omega
  have h3 : ((k + 1 : Nat) : Int) ≤ l.length := by omega
  have e : X0 75 [fldsU l, .int .i64 k, .int .i64 ((k + 1 : Nat) : Int)] [] = delX 5 [fldsU l, .int .i64 k, .int .i64 ((k + 1 : Nat) : Int)] [] := rfl
  rw [E0_X, e]
  simp only [delX, fldsU, List.length_map, h1, h2, h3, nbeq, decide_true, Bool.and_self, cond_true, Int.toNat_natCast, cutS, List.map_append, List.map_take, List.map_drop])
theorem c_insF (l : List Fld) (n : Nat) (m : List Fld) (hn : n ≤ l.length) (hl : l.length + m.length ≤ 1000) : tbl E0 74 [fldsU l, .int .i64 n, fldsU m] [] = some ([fldsU (putS l n m)], []) := tbl_X (by
  have h1 : (0 : Int) ≤ n := by omega
  have h2 : (n : Int) ≤ l.length := by omega
  have h3 : (l.length + m.length) * 40 ≤ 211106232532992 := by omega
  have e : X0 74 [fldsU l, .int .i64 n, fldsU m] [] = insX 5 40 [fldsU l, .int .i64 n, fldsU m] [] := rfl
  rw [E0_X, e]
  simp only [insX, fldsU, List.length_map, h1, h2, h3, nbeq, decide_true, Bool.and_self, cond_true, Int.toNat_natCast, putS, List.map_append, List.map_take, List.map_drop])
theorem c_repF (l : List Fld) (n k : Nat) (m : List Fld) (hn : n ≤ k) (hk : k ≤ l.length) (hl : l.length + m.length ≤ 1000) : tbl E0 77 [fldsU l, .int .i64 n, .int .i64 k, fldsU m] [] = some ([fldsU (l.take n ++ m ++ l.drop k)], []) := tbl_X (by
  have h1 : (0 : Int) ≤ n := by omega
  have h2 : (n : Int) ≤ k := by omega
  have h4 : (k : Int) ≤ l.length := by omega
  have h3 : (l.length + m.length) * 40 ≤ 211106232532992 := by omega
  have e : X0 77 [fldsU l, .int .i64 n, .int .i64 k, fldsU m] [] = repX 5 40 [fldsU l, .int .i64 n, .int .i64 k, fldsU m] [] := rfl
  rw [E0_X, e]
  simp only [repX, fldsU, List.length_map, h1, h2, h3, h4, nbeq, decide_true, Bool.and_self, cond_true, Int.toNat_natCast, List.map_append, List.map_take, List.map_drop])
theorem c_insG (l : List Frm) (n : Nat) (m : List Frm) (hn : n ≤ l.length) (hl : l.length + m.length ≤ 3000) : tbl E0 36 [frmsU l, .int .i64 n, frmsU m] [] = some ([frmsU (l.take n ++ m ++ l.drop n)], []) := tbl_X (by
  have h1 : (0 : Int) ≤ n := by omega
  have h2 : (n : Int) ≤ l.length := by omega
  have h3 : (l.length + m.length) * 32 ≤ 211106232532992 := by omega
  have e : X0 36 [frmsU l, .int .i64 n, frmsU m] [] = insX 2 32 [frmsU l, .int .i64 n, frmsU m] [] := rfl
  rw [E0_X, e]
  simp only [insX, frmsU, List.length_map, h1, h2, h3, nbeq, decide_true, Bool.and_self, cond_true, Int.toNat_natCast, List.map_append, List.map_take, List.map_drop])
theorem c_delG (l : List Frm) (k : Nat) (hk : k < l.length) : tbl E0 38 [frmsU l, .int .i64 k, .int .i64 ((k + 1 : Nat) : Int)] [] = some ([frmsU (l.take k ++ l.drop (k + 1))], []) := tbl_X (by
  have h1 : (0 : Int) ≤ k := by omega
  have h2 : (k : Int) ≤ ((k + 1 : Nat) : Int) := by omega
  have h3 : ((k + 1 : Nat) : Int) ≤ l.length := by omega
  have e : X0 38 [frmsU l, .int .i64 k, .int .i64 ((k + 1 : Nat) : Int)] [] = delX 2 [frmsU l, .int .i64 k, .int .i64 ((k + 1 : Nat) : Int)] [] := rfl
  rw [E0_X, e]
  simp only [delX, frmsU, List.length_map, h1, h2, h3, nbeq, decide_true, Bool.and_self, cond_true, Int.toNat_natCast, List.map_append, List.map_take, List.map_drop])
theorem putC_frm {α : Type} {A : Alg α} (g : Frm) (m : List Fld) (k : AV → α) : putC A (frmV g) (setAt (frmV g).cells 1 [fldsV m]) k = k (frmV ⟨g.id, m⟩) := Eq.trans rfl rfl
set_option maxHeartbeats 4000000 in
theorem c_gchange7 (x : Stp) (v : Int) (l : List Frm) (p e n : Nat) (g : Frm) (f : Fld) (hg : l[p]? = some g) (hf : g.fields[e]? = some f) (o7 : x.op = 7) (hn : x.place = n) (hn2 : n < g.fields.length) (hgl : g.fields.length ≤ 900) :
    tbl E0 39 [.ref 0 0] [(0, madO x v l p e)] = some ([.bool true], [(0, madO x v (l.set p ⟨g.id, putS (cutS g.fields e) n [f]⟩) p e)]) := t_gchange x v l p e (by
  have q := flat_frms l
  have q2 := flat_flds
  have o6 := oshE6
  rw [Bool.and_eq_true] at o6
  have hp : p < l.length := (List.getElem?_eq_some_iff.1 hg).1
  have hp2 : (p : Int) < l.length := by omega
  have he : e < g.fields.length := (List.getElem?_eq_some_iff.1 hf).1
  have cf := c_gfields x v l p e g hg
  have cc := c_gClone g.fields (by omega)
  have co := c_gown x v l p e g f hg hf
  have cd := c_delF g.fields e he
  have hC := cut_len he
  have ci := c_insF (cutS g.fields e) n [f] (by omega) (by simp; omega)
  have e1 := i64_succ (i := e) (by omega)
  have t7 : (x.op == 7) = true := by simpa using o7
  simp only [fldsV, fldsU, fldV, fldC, List.map_cons, List.map_nil] at cf cc co cd ci
  rw [← hn] at ci
  have qf : ([AV.agg [AV.int .i64 f.id, AV.int .i64 f.kind, AV.int .i64 f.lo, AV.int .i64 f.hi, AV.int .i64 f.most]] : List AV).all AV.flat = true := rfl
  have k5 : s_gchange_k5 (OA (tbl E0) (ltbl E0 39 0)) x v l p e (fun r o => (some (r, o) : Option CR)) [AV.lst .uq 5 (List.map fldV (putS (cutS g.fields e) n [f]))] [] p (List.map frmV l) x.op x.form x.field x.place x.to x.a x.b x.f.id x.f.kind x.f.lo x.f.hi x.f.most x.n x.s (List.map (fun n => AV.int .i64 n) x.t) (List.map fldV x.fields) v e = some ([.bool true], [(0, madO x v (l.set p ⟨g.id, putS (cutS g.fields e) n [f]⟩) p e)]) := by
    have z := putC_frm (α := Option CR) (A := OA (tbl E0) (ltbl E0 39 0)) g (putS (cutS g.fields e) n [f])
    simp only [fldsV] at z
    have z2 : Nat.ble (1 + [AV.lst Md.ro 5 (List.map fldV (putS (cutS g.fields e) n [f]))].length) (frmV g).cells.length = true := rfl
    have z3 : (frmV ⟨g.id, putS (cutS g.fields e) n [f]⟩).flat = true := rfl
    have z4 := flat_frms (l.set p ⟨g.id, putS (cutS g.fields e) n [f]⟩)
    have z5 : (List.map frmV l).set p (frmV ⟨g.id, putS (cutS g.fields e) n [f]⟩) = List.map frmV (l.set p ⟨g.id, putS (cutS g.fields e) n [f]⟩) := by rw [List.map_set]
    simp only [s_gchange_k5, u_asC, u_asUq, u_asN, q2, cond_true, OA_dbl, OA_chk, Int.natCast_nonneg, List.length_map, hp2, decide_true, Bool.and_self, nthE, Int.toNat_natCast, List.getElem?_map, hg, Option.map_some, z, z2, z3, z4, z5]
  have k1 : s_gchange_k1 (OA (tbl E0) (ltbl E0 39 0)) x v l p e (fun r o => (some (r, o) : Option CR)) (List.map fldV (cutS g.fields e)) x.place f.id f.kind f.lo f.hi f.most p (List.map frmV l) x.op x.form x.field x.to x.a x.b x.f.id x.f.kind x.f.lo x.f.hi x.f.most x.n x.s (List.map (fun n => AV.int .i64 n) x.t) (List.map fldV x.fields) v e = some ([.bool true], [(0, madO x v (l.set p ⟨g.id, putS (cutS g.fields e) n [f]⟩) p e)]) := by
    simp only [s_gchange_k1, q2, cond_true, OA_call, ci, Option.bind_some, k5]
  have k2 : s_gchange_k2 (OA (tbl E0) (ltbl E0 39 0)) x v l p e (fun r o => (some (r, o) : Option CR)) (List.map fldV g.fields) e x.place f.id f.kind f.lo f.hi f.most p (List.map frmV l) x.op x.form x.field x.to x.a x.b x.f.id x.f.kind x.f.lo x.f.hi x.f.most x.n x.s (List.map (fun n => AV.int .i64 n) x.t) (List.map fldV x.fields) v = some ([.bool true], [(0, madO x v (l.set p ⟨g.id, putS (cutS g.fields e) n [f]⟩) p e)]) := by
    simp only [s_gchange_k2, q2, cond_true, OA_call, e1, cd, Option.bind_some, u_asC, u_asUq, u_asN, k1]
  simp only [s_gchange, fit_mad, o6.1, o6.2, List.all_cons, List.all_nil, fitA, Bool.and_self, cond_true, OA_chk, q, OA_call, cf, cc, co, Option.bind_some, nbeq, decide_true, u_asN, u_asC, u_asI, u_asS, u_asL, u_asUq, u_asA, t7, s_gchange_k3, s_gchange_k4, s_gchange_k6, s_gchange_k7, q2, e1, cd, k1, k2, OA_both_id, OA_dbl])
set_option maxHeartbeats 4000000 in
theorem c_gchangeR (x : Stp) (v : Int) (l : List Frm) (p e n : Nat) (g : Frm) (m : List Fld) (b : Bool) (hg : l[p]? = some g) (o7 : x.op ≠ 7) (hn : n ≤ 1) (hen : e + n ≤ g.fields.length) (hgl : g.fields.length ≤ 900) (hm : m.length ≤ 8)
    (ht : tbl E0 76 [.ref 0 0] [(0, madO x v l p e)] = some ([fldsU m, .int .i64 n, .bool b], [(0, madO x v l p e)])) :
    tbl E0 39 [.ref 0 0] [(0, madO x v l p e)] = some ([.bool b], [(0, madO x v (if b then l.set p ⟨g.id, g.fields.take e ++ m ++ g.fields.drop (e + n)⟩ else l) p e)]) := t_gchange x v l p e (by
  have q := flat_frms l
  have q2 := flat_flds
  have o6 := oshE6
  rw [Bool.and_eq_true] at o6
  have hp : p < l.length := (List.getElem?_eq_some_iff.1 hg).1
  have hp2 : (p : Int) < l.length := by omega
  have cf := c_gfields x v l p e g hg
  have cc := c_gClone g.fields (by omega)
  have cr := c_repF g.fields e (e + n) m (by omega) hen (by omega)
  have e1 : IntKind.i64.wrap ((e : Int) + n) = ((e + n : Nat) : Int) := by rw [wrap_i64 _ (by omega) (by omega)]; omega
  have t7 := beq_f o7
  simp only [fldsV, fldsU] at cf cc cr ht
  generalize hN : g.fields.take e ++ m ++ g.fields.drop (e + n) = nw at cr ⊢
  have k5 : s_gchange_k5 (OA (tbl E0) (ltbl E0 39 0)) x v l p e (fun r o => (some (r, o) : Option CR)) [AV.lst .uq 5 (List.map fldV nw)] [] p (List.map frmV l) x.op x.form x.field x.place x.to x.a x.b x.f.id x.f.kind x.f.lo x.f.hi x.f.most x.n x.s (List.map (fun n => AV.int .i64 n) x.t) (List.map fldV x.fields) v e = some ([.bool true], [(0, madO x v (l.set p ⟨g.id, nw⟩) p e)]) := by
    have z := putC_frm (α := Option CR) (A := OA (tbl E0) (ltbl E0 39 0)) g nw
    simp only [fldsV] at z
    have z2 : Nat.ble (1 + [AV.lst Md.ro 5 (List.map fldV nw)].length) (frmV g).cells.length = true := rfl
    have z3 : (frmV ⟨g.id, nw⟩).flat = true := rfl
    have z4 := flat_frms (l.set p ⟨g.id, nw⟩)
    have z5 : (List.map frmV l).set p (frmV ⟨g.id, nw⟩) = List.map frmV (l.set p ⟨g.id, nw⟩) := by rw [List.map_set]
    simp only [s_gchange_k5, u_asC, u_asUq, u_asN, q2, cond_true, OA_dbl, OA_chk, Int.natCast_nonneg, List.length_map, hp2, decide_true, Bool.and_self, nthE, Int.toNat_natCast, List.getElem?_map, hg, Option.map_some, z, z2, z3, z4, z5]
  simp only [s_gchange, fit_mad, o6.1, o6.2, List.all_cons, List.all_nil, fitA, Bool.and_self, cond_true, cond_false, OA_chk, q, OA_call, cf, cc, ht, Option.bind_some, nbeq, decide_true, u_asN, u_asC, u_asI, u_asS, u_asL, u_asUq, u_asA, u_asB, t7, OA_dbl]
  rcases bor b with hb | hb
  · simp only [hb, Bool.not_true, cond_false, q2, cond_true, OA_call, e1, cr, Option.bind_some, k5, if_true]
  · simp only [hb, Bool.not_false, cond_true, q, Bool.false_eq_true, if_false])
end Go.Proofs.Ytalpknofimglbaa.V
namespace Go.Proofs.Ytalpknofimglbaa.V
open Go
theorem body_true (f : Frm) : ∀ (l : List Frm) (n : Int), risingS n l = true → f.id ≤ n → bodyS f true l = l
  | [], _, _, _ => rfl
  | g :: l, n, h, hn => by
    simp only [risingS, Bool.and_eq_true, decide_eq_true_eq] at h
    have : g.id ≠ f.id := by omega
    simp only [bodyS, Bool.not_true, Bool.false_and, Bool.false_eq_true, if_false, List.nil_append, ne_eq, this, not_false_eq_true, if_true, Bool.true_or, body_true f l g.id h.2 (by omega)]
    rfl
theorem done_true (f : Frm) : ∀ l : List Frm, doneS f true l = true
  | [] => rfl
  | g :: l => by simp only [doneS, Bool.true_or, done_true f l]
theorem forms_set (f : Frm) : ∀ (l : List Frm) (n : Int), risingS n l = true → hereS f.id l = true → formsS f false l = l.set (posS f.id l) f
  | [], _, _, h => by simp [hereS, posS] at h
  | g :: l, n, hr, h => by
    simp only [risingS, Bool.and_eq_true, decide_eq_true_eq] at hr
    by_cases c : g.id < f.id
    · have h2 : hereS f.id l = true := by simpa [hereS, posS, c] using h
      have ih := forms_set f l g.id hr.2 h2
      have n1 : ¬ (f.id ≤ g.id) := by omega
      have n2 : g.id ≠ f.id := by omega
      simp only [formsS, bodyS, doneS, n1, n2, decide_false, Bool.and_false, Bool.or_false, Bool.false_eq_true, if_false, ne_eq, not_false_eq_true, if_true, List.nil_append, List.cons_append, posS, c, List.set_cons_succ]
      rw [← ih]
      rfl
    · have e : g.id = f.id := by simpa [hereS, posS, c] using h
      have n1 : f.id ≤ g.id := by omega
      simp [formsS, bodyS, doneS, n1, e, posS, c, done_true, body_true f l g.id hr.2 n1]
theorem forms_new (f : Frm) : ∀ (l : List Frm) (n : Int), risingS n l = true → hereS f.id l = false → formsS f false l = l.take (posS f.id l) ++ [f] ++ l.drop (posS f.id l)
  | [], _, _, h => by simp [formsS, bodyS, doneS, posS]
  | g :: l, n, hr, h => by
    simp only [risingS, Bool.and_eq_true, decide_eq_true_eq] at hr
    by_cases c : g.id < f.id
    · have h2 : hereS f.id l = false := by simpa [hereS, posS, c] using h
      have ih := forms_new f l g.id hr.2 h2
      have n1 : ¬ (f.id ≤ g.id) := by omega
      have n2 : g.id ≠ f.id := by omega
      simp only [formsS, bodyS, doneS, n1, n2, decide_false, Bool.and_false, Bool.or_false, Bool.false_eq_true, if_false, ne_eq, not_false_eq_true, if_true, List.nil_append, List.cons_append, posS, c, List.take_succ_cons, List.drop_succ_cons]
      simp only [formsS] at ih
      rw [ih]
    · have e : g.id ≠ f.id := by simpa [hereS, posS, c] using h
      have n1 : f.id ≤ g.id := by omega
      simp [formsS, bodyS, doneS, n1, e, posS, c, done_true, body_true f l g.id hr.2 n1]
theorem forms_cut (f : Frm) : ∀ (l : List Frm) (n : Int), risingS n l = true → hereS f.id l = true → formsS f true l = l.take (posS f.id l) ++ l.drop (posS f.id l + 1)
  | [], _, _, h => by simp [hereS, posS] at h
  | g :: l, n, hr, h => by
    simp only [risingS, Bool.and_eq_true, decide_eq_true_eq] at hr
    by_cases c : g.id < f.id
    · have h2 : hereS f.id l = true := by simpa [hereS, posS, c] using h
      have ih := forms_cut f l g.id hr.2 h2
      have n2 : g.id ≠ f.id := by omega
      simp only [formsS, done_true, if_true, List.append_nil] at ih ⊢
      simp only [bodyS, n2, Bool.not_true, Bool.false_and, Bool.true_or, Bool.false_eq_true, if_false, ne_eq, not_false_eq_true, if_true, List.nil_append, List.cons_append, posS, c, List.take_succ_cons, List.drop_succ_cons, ih]
    · have e : g.id = f.id := by simpa [hereS, posS, c] using h
      have n1 : f.id ≤ g.id := by omega
      simp [formsS, bodyS, done_true, e, posS, c, body_true f l g.id hr.2 n1]
theorem find_cons (g : Frm) (l : List Frm) (id : Int) : findS (g :: l) id = if g.id = id then 0 else if findS l id = -1 then -1 else findS l id + 1 := by
  unfold findS firstS
  rw [List.findIdx?_cons]
  by_cases e : g.id = id
  · simp [e]
  · have e' : (g.id == id) = false := by simpa using e
    rw [e']
    simp only [Bool.false_eq_true, if_false, e]
    cases List.findIdx? (fun f : Frm => f.id == id) l with
    | none => simp
    | some i => simp
theorem find_gt {id : Int} : ∀ (l : List Frm) (n : Int), risingS n l = true → id ≤ n → findS l id = -1
  | [], _, _, _ => rfl
  | g :: l, n, h, hn => by
    simp only [risingS, Bool.and_eq_true, decide_eq_true_eq] at h
    have e : g.id ≠ id := by omega
    rw [find_cons, if_neg e, find_gt l g.id h.2 (by omega)]
    rfl
theorem find_pos (id : Int) : ∀ (l : List Frm) (n : Int), risingS n l = true → findS l id = if hereS id l then (posS id l : Int) else -1
  | [], _, _ => by simp [hereS, posS]; rfl
  | g :: l, n, hr => by
    simp only [risingS, Bool.and_eq_true, decide_eq_true_eq] at hr
    rw [find_cons]
    by_cases c : g.id < id
    · have e : g.id ≠ id := by omega
      have h2 : hereS id (g :: l) = hereS id l := by simp [hereS, posS, c]
      rw [if_neg e, h2, find_pos id l g.id hr.2]
      cases hereS id l
      · simp
      · simp [posS, c]
    · by_cases e : g.id = id
      · simp [e, hereS, posS]
      · have h1 : hereS id (g :: l) = false := by simp [hereS, posS, c, e]
        rw [if_neg e, h1, find_gt l g.id hr.2 (by omega)]
        rfl
end Go.Proofs.Ytalpknofimglbaa.V
namespace Go.Proofs.Ytalpknofimglbaa.V
open Go
theorem rgt_id {f : Fld} (h : rgtS f = true) : 0 ≤ f.id := by
  simp only [rgtS, Bool.and_eq_true, decide_eq_true_eq] at h
  exact h.1.1
theorem there_names {s : Sch} {x : Stp} (hx : tRightS x = true) (h10 : x.op ≤ 10) (h9 : x.op ≠ 9) {j : Nat} {g : Frm} (e1 : findS s.forms x.form = (j : Int)) (e2 : s.forms[j]? = some g) :
    thereS x g (atG x g) (freshG x) = namesS s x := by
  have n1 : ¬ ((j : Int) < 0) := by omega
  have en : namesS s x = (if fieldS x.op && decide (atS g.fields x.field < 0) then 8
        else if (x.op == 1 && decide (0 ≤ atS g.fields x.f.id)) || ((x.op == 6 || x.op == 8) && decide (0 ≤ atS g.fields x.to)) then 9
        else if (x.op == 1 && decide ((g.fields.length : Int) < x.place)) || (x.op == 7 && decide ((g.fields.length : Int) ≤ x.place)) then 3 else 0) := by
    simp only [namesS, h9, if_false, e1, n1, Int.toNat_natCast, e2]
  rw [en]
  rcases right_10 hx h10 with o | o | o | o | o | o | o | o | o | o
  · obtain ⟨p1, p2⟩ := right_1 hx o
    have p3 := rgt_id p2
    have p4 : ¬ (x.place < 0) := by omega
    simp [thereS, atG, freshG, fieldS, o, p3, p4]
  · simp [thereS, atG, freshG, fieldS, o]
  · simp [thereS, atG, freshG, fieldS, o]
  · simp [thereS, atG, freshG, fieldS, o]
  · simp [thereS, atG, freshG, fieldS, o]
  · have := (right_6 hx o).2
    simp [thereS, atG, freshG, fieldS, o, this]
  · simp [thereS, atG, freshG, fieldS, o]
  · have := right_8 hx o
    simp [thereS, atG, freshG, fieldS, o, this]
  · exact absurd o h9
  · simp [thereS, atG, freshG, fieldS, o]
theorem c_gOn_k3 (s : Sch) (x : Stp) (v : Int) (l : List Frm) (hl : Sml ⟨v, l⟩) : s_gOn_k3 (OA (tbl E0) (ltbl E0 11 0)) s x (fun r o => (some (r, o) : Option CR)) (l.map frmV) v =
    some ([schV (if schS ⟨v, l⟩ then (⟨v, l⟩, (0 : Int)) else (sch0, 7)).1, .int .i64 (if schS ⟨v, l⟩ then ((⟨v, l⟩ : Sch), (0 : Int)) else (sch0, 7)).2], []) := by
  have c := c_sRight ⟨v, l⟩ hl
  simp only [schV, frmsV] at c
  simp only [s_gOn_k3, flat_frms l, cond_true, OA_chk, OA_callx, c, Option.bind_some, u_asC, u_asB, u_asN]
  rcases bor (schS ⟨v, l⟩) with h | h
  · simp [h]
  · simp [h, sch0]
set_option maxHeartbeats 4000000 in
theorem c_gOn (s : Sch) (x : Stp) (hs : Few s) (hx : x.sml) (hxo : x.ok) : tbl E0 11 [schV s, stpV x] [] = some ([schV (onS s x).1, .int .i64 (onS s x).2], []) := t_gOn s x (by
  have c1 := c_sRight s hs.sml
  have c2 := c_tRight x hxo hx
  simp only [schV, stpV, stpC, intsV, frmsV, fldsV] at c1 c2
  have gate : onS s x = if !(schS s) || (!(tRightS x) || decide (10 < x.op)) then (sch0, 2) else onS s x := by
    by_cases h : (!(schS s) || (!(tRightS x) || decide (10 < x.op))) = true
    · rw [if_pos h]; unfold onS; rw [if_pos h]
    · rw [if_neg h]
  simp only [s_gOn, OA_chk, cond_true, OA_join, OA_callx, c1, Option.bind_some, u_asC, u_asB, u_asN]
  rcases bor' (schS s) with h1 | h1
  · simp [h1, gate, sch0]
  simp only [h1, Bool.not_true, cond_false, c2, Option.bind_some, u_asC, u_asB, u_asN]
  rcases bor' (tRightS x) with h2 | h2
  · simp [h1, h2, gate, sch0]
  have hop := (right_fits h2).2.1
  have hop1 : ¬ (x.op < 1) := by
    simp only [opsL, List.mem_cons, List.not_mem_nil, or_false] at hop
    omega
  simp only [h2, Bool.not_true, hop1, decide_false, cond_false, Option.bind_some, Tok.untok_tok, gt_iff_lt]
  by_cases h3 : 10 < x.op
  · simp [h1, h2, h3, gate, sch0]
  have g0 : ¬ ((!(schS s) || (!(tRightS x) || decide (10 < x.op))) = true) := by simp [h1, h2, h3]
  have sf := schS_few h1
  have cc := c_gcopied s (by omega) (fun f hf => by have := (sf.2 f hf).1; omega)
  simp only [schV, frmsV, frmsU] at cc
  have q := flat_frms s.forms
  simp only [h3, decide_false, cond_false, OA_call, cc, Option.bind_some, u_asC, u_asA, u_asI, u_asUq, u_asN, q, cond_true]
  have sml8 : ∀ (l : List Frm), l.length ≤ 9 → (∀ f ∈ l, f.fields.length ≤ 900) → Sml ⟨s.ver, l⟩ := fun l a b => ⟨Nat.le_trans a (by decide), fun f hf => Nat.le_trans (b f hf) (by decide)⟩
  have rise : risingS (-1) s.forms = true := by
    simp only [schS, Bool.and_eq_true] at h1
    exact h1.2
  have hfind := find_pos x.form s.forms (-1) rise
  have hpos := pos_le x.form s.forms
  by_cases h9 : x.op = 9
  · have ct := c_gthere9 x s.ver s.forms 0 0 (by omega) h9
    have t9 : (x.op == 9) = true := by simpa using h9
    simp only [madO, intsV, fldsV, frmsU] at ct
    simp only [ct, Option.bind_some, nbeq, decide_true, cond_true, u_asC, u_asA, u_asI, u_asS, u_asL, u_asUq, u_asN]
    rcases bor (hereS x.form s.forms) with hh | hh
    · have en : namesS s x = 9 := by simp [namesS, h9, hfind, hh]
      have eo : onS s x = (sch0, 9) := by unfold onS; rw [if_neg g0, if_pos (by simp [en]), en]
      rw [eo]
      simp [hh, sch0]
    · have en : namesS s x = 0 := by simp [namesS, h9, hfind, hh]
      have eo : onS s x = outS s ⟨x.form, x.fields⟩ := by unfold onS; rw [if_neg g0, if_neg (by simp [en]), if_pos h9]
      have f9 := right_9 h2 h9
      have l9 : x.fields.length ≤ 8 := (fineS_fld f9).1
      have cl := c_gClone x.fields (by omega)
      have ci := c_insG s.forms (posS x.form s.forms) [⟨x.form, x.fields⟩] hpos (by simp; omega)
      have fn := forms_new ⟨x.form, x.fields⟩ s.forms (-1) rise hh
      simp only [fldsV, fldsU, frmsU, List.map_cons, List.map_nil] at cl ci
      have k3 := c_gOn_k3 s x s.ver (s.forms.take (posS x.form s.forms) ++ [⟨x.form, x.fields⟩] ++ s.forms.drop (posS x.form s.forms)) (sml8 _ (by simp; omega) (fun f hf => by
        simp only [List.mem_append, List.mem_singleton] at hf
        rcases hf with (hf | hf) | hf
        · have := (sf.2 f (List.mem_of_mem_take hf)).1; omega
        · subst hf; simp; omega
        · have := (sf.2 f (List.mem_of_mem_drop hf)).1; omega))
      simp only [hh, Bool.false_eq_true, if_false, t9, cond_true, s_gOn_k2, s_gOn_k1, OA_call, cl, ci, Option.bind_some, u_asC, u_asUq, u_asN, flat_flds, OA_chk, q, k3, OA_both_id, OA_dbl, (by decide : ((0 : Int) != 0) = false), cond_false]
      have hne : (⟨x.form, x.fields⟩ : Frm).fields.isEmpty = false := by
        rw [fineS_iff] at f9
        have := f9.2.1.1
        cases hxf : x.fields with
        | nil => simp [hxf] at this
        | cons a l => rfl
      rw [eo, outS, hne, fn]
  have t9 := beq_f h9
  rcases bor' (hereS x.form s.forms) with hh | hh
  · have ct := c_gthere8 x s.ver s.forms 0 0 (by omega) h9 hh
    have en : namesS s x = 8 := by simp [namesS, h9, hfind, hh]
    have eo : onS s x = (sch0, 8) := by unfold onS; rw [if_neg g0, if_pos (by simp [en]), en]
    simp only [madO, intsV, fldsV, frmsU] at ct
    simp only [ct, Option.bind_some, nbeq, decide_true, cond_true, u_asC, u_asA, u_asI, u_asS, u_asL, u_asUq, u_asN]
    rw [eo]
    simp [sch0]
  · rw [hh] at hfind
    simp only [if_true] at hfind
    obtain ⟨g, hg, he⟩ : ∃ g, s.forms[posS x.form s.forms]? = some g ∧ g.id = x.form := by
      unfold hereS at hh
      split at hh
      · rename_i g hg; exact ⟨g, hg, by simpa using hh⟩
      · cases hh
    have hp : posS x.form s.forms < s.forms.length := (List.getElem?_eq_some_iff.1 hg).1
    have hgl := (sf.2 g (List.mem_of_getElem? hg)).1
    have ct := c_gthere x s.ver s.forms 0 0 (by omega) (fun f hf => by have := (sf.2 f hf).1; omega) h9 g hg he
    rw [there_names h2 (by omega) h9 hfind hg] at ct
    simp only [madO, intsV, fldsV, frmsU] at ct
    simp only [ct, Option.bind_some, nbeq, decide_true, cond_true, u_asC, u_asA, u_asI, u_asS, u_asL, u_asUq, u_asN]
    by_cases h4 : ¬ (namesS s x = 0)
    · have h4' := bne_t h4
      have eo : onS s x = (sch0, namesS s x) := by unfold onS; rw [if_neg g0, if_pos h4]
      rw [eo]
      simp only [h4', cond_true, sch0, schV, frmsV, List.map_nil]
    have h4 : namesS s x = 0 := Classical.not_not.1 h4
    have h4' : (namesS s x != 0) = false := by simp [h4]
    simp only [h4', cond_false, t9]
    by_cases o10 : x.op = 10
    · have t10 : (x.op == 10) = true := by simpa using o10
      have o1 : x.op ≠ 1 := by omega
      have eo : onS s x = outS s ⟨x.form, []⟩ := by unfold onS; rw [if_neg g0, if_neg (by simp [h4]), if_neg h9, if_neg o1, if_pos o10]
      have cd := c_delG s.forms (posS x.form s.forms) hp
      have fn := forms_cut ⟨x.form, []⟩ s.forms (-1) rise hh
      have e1 := i64_succ (i := posS x.form s.forms) (by omega)
      have k3 := c_gOn_k3 s x s.ver (s.forms.take (posS x.form s.forms) ++ s.forms.drop (posS x.form s.forms + 1)) (sml8 _ (by simp; omega) (fun f hf => by
        simp only [List.mem_append] at hf
        rcases hf with hf | hf
        · have := (sf.2 f (List.mem_of_mem_take hf)).1; omega
        · have := (sf.2 f (List.mem_of_mem_drop hf)).1; omega))
      simp only [frmsU] at cd
      simp only [t10, cond_true, OA_dbl, q, OA_call, e1, cd, Option.bind_some, s_gOn_k1, u_asC, u_asUq, u_asN, OA_chk, k3, OA_both_id]
      have hne : (⟨x.form, []⟩ : Frm).fields.isEmpty = true := rfl
      rw [eo, outS, hne, fn]
    have t10 := beq_f o10
    simp only [t10, cond_false, q, cond_true, OA_call]
    have tail : ∀ nw : List Fld, (if schS ⟨s.ver, s.forms.set (posS x.form s.forms) ⟨g.id, nw⟩⟩ then ((⟨s.ver, s.forms.set (posS x.form s.forms) ⟨g.id, nw⟩⟩ : Sch), (0 : Int)) else (sch0, 7)) = if nw.isEmpty then (sch0, 7) else outS s ⟨x.form, nw⟩ := by
      intro nw
      have fn := forms_set ⟨x.form, nw⟩ s.forms (-1) rise hh
      rw [he]
      rcases bor nw.isEmpty with z | z
      · have : schS ⟨s.ver, s.forms.set (posS x.form s.forms) ⟨x.form, nw⟩⟩ = false := by
          cases hb : schS ⟨s.ver, s.forms.set (posS x.form s.forms) ⟨x.form, nw⟩⟩ with
          | false => rfl
          | true =>
            simp only [schS, Bool.and_eq_true] at hb
            have hm := risingS_all _ _ hb.2 ⟨x.form, nw⟩ (List.mem_set hp _)
            rw [fineS_iff] at hm
            have := hm.2.1.1
            cases nw with
            | nil => simp at this
            | cons a l => cases z
        rw [this, z]
        rfl
      · have hne : (⟨x.form, nw⟩ : Frm).fields.isEmpty = false := z
        rw [z, outS, hne, fn]
        rfl
    obtain ⟨j, g', e1, e2, e3, e4, e5, e6, e7, e8⟩ := names0 h4 h9
    have hj : j = posS x.form s.forms := by rw [hfind] at e1; omega
    subst hj
    have hgg : g' = g := by rw [hg] at e2; injection e2 with e2; exact e2.symm
    subst hgg
    have main : ∃ (e : Nat) (nw : List Fld) (b : Bool), atG x g' = (e : Int) ∧ nw.length ≤ 900 ∧ onS s x = (if b then (if nw.isEmpty then (sch0, 7) else outS s ⟨x.form, nw⟩) else (sch0, 17)) ∧
        tbl E0 39 [.ref 0 0] [(0, madO x s.ver s.forms (posS x.form s.forms) e)] = some ([.bool b], [(0, madO x s.ver (if b then s.forms.set (posS x.form s.forms) ⟨g'.id, nw⟩ else s.forms) (posS x.form s.forms) e)]) := by
      by_cases o1 : x.op = 1
      · obtain ⟨p1, p2⟩ := right_1 h2 o1
        have p3 := (e6 o1).1
        obtain ⟨k, hk⟩ : ∃ k : Nat, x.place = (k : Int) := ⟨x.place.toNat, by omega⟩
        have eo : onS s x = outS s ⟨x.form, putS g'.fields k [x.f]⟩ := by unfold onS; rw [if_neg g0, if_neg (by simp [h4]), if_neg h9, if_pos o1, e4, hk, Int.toNat_natCast]
        refine ⟨k, putS g'.fields k [x.f], true, by simp [atG, o1, hk], by rw [put_len]; simp; omega, ?_, ?_⟩
        · have : (putS g'.fields k [x.f]).isEmpty = false := by simp [putS]
          rw [eo, this]
          rfl
        · exact c_gchangeR x s.ver s.forms (posS x.form s.forms) k 0 g' [x.f] true hg (by omega) (by omega) (by omega) (by omega) (by simp) (c_gturned1 x s.ver s.forms _ _ o1)
      have hfield : fieldS x.op = true := by simp [fieldS, o1, h9, o10]
      obtain ⟨k, f, q1, q2⟩ := e5 hfield
      have hk : k < g'.fields.length := (List.getElem?_eq_some_iff.1 q2).1
      have hf : rgtS f = true := (sf.2 g' (List.mem_of_getElem? hg)).2 f (List.mem_of_getElem? q2)
      have ha : atG x g' = (k : Int) := by simp [atG, o1, o10, q1]
      have hC := cut_len hk
      have eo : onS s x = if (typesS f x).2 then (if (newS g'.fields x (typesS f x).1).isEmpty then (sch0, 7) else outS s ⟨x.form, newS g'.fields x (typesS f x).1⟩) else (sch0, 17) := by
        unfold onS
        rw [if_neg g0, if_neg (by simp [h4]), if_neg h9, if_neg o1, if_neg o10, e4, q1, Int.toNat_natCast, q2]
      by_cases o7 : x.op = 7
      · have p := right_7 h2 o7
        have p2 := e7 o7
        obtain ⟨n, hn⟩ : ∃ n : Nat, x.place = (n : Int) := ⟨x.place.toNat, by omega⟩
        have et : typesS f x = ([f], true) := by simp [typesS, o7]
        have enw : newS g'.fields x [f] = putS (cutS g'.fields k) n [f] := by simp only [newS, o7, if_true, hn, Int.toNat_natCast, q1]
        refine ⟨k, putS (cutS g'.fields k) n [f], true, ha, by rw [put_len]; simp; omega, ?_, ?_⟩
        · rw [eo, et, enw]
        · exact c_gchange7 x s.ver s.forms (posS x.form s.forms) k n g' f hg q2 o7 hn (by omega) (by omega)
      · have ops : x.op = 2 ∨ x.op = 3 ∨ x.op = 4 ∨ x.op = 5 ∨ x.op = 6 ∨ x.op = 8 := by
          have := right_10 h2 (by omega)
          omega
        obtain ⟨tt1, tt2⟩ := turned_types hf o7 ops
        have ct := c_gturned x s.ver s.forms (posS x.form s.forms) k g' f hg q2 (fun _ => hf) o1 (fun o6 => by have := right_6 h2 o6; omega)
        have tl : (turnedS f x).1.length ≤ 8 := by
          unfold turnedS
          repeat' split
          all_goals simp
        have enw : newS g'.fields x (turnedS f x).1 = g'.fields.take k ++ (turnedS f x).1 ++ g'.fields.drop (k + 1) := by
          simp only [newS, o7, if_false, Int.toNat_natCast, q1, putS, cutS]
          have e1 : (g'.fields.take k).length = k := by simp; omega
          rw [List.take_append_of_le_length (by omega), List.drop_append_of_le_length (by omega)]
          have e2 : (g'.fields.take k).drop k = [] := List.drop_eq_nil_of_le (by omega)
          rw [e2, List.take_take, Nat.min_self, List.nil_append]
        refine ⟨k, g'.fields.take k ++ (turnedS f x).1 ++ g'.fields.drop (k + 1), (turnedS f x).2, ha, by simp; omega, ?_, ?_⟩
        · rw [eo, tt1]
          rcases bor (typesS f x).2 with t | t
          · rw [t, ← tt2 t, enw]
          · rw [t]
            rfl
        · exact c_gchangeR x s.ver s.forms (posS x.form s.forms) k 1 g' (turnedS f x).1 (turnedS f x).2 hg o7 (by omega) (by omega) (by omega) tl ct
    obtain ⟨e, nw, b, ha, hl, hon, hc⟩ := main
    rw [ha, hon]
    simp only [madO, intsV, fldsV, frmsU] at hc
    simp only [hc, Option.bind_some, nbeq, decide_true, cond_true, u_asC, u_asA, u_asI, u_asS, u_asL, u_asUq, u_asN, u_asB]
    have k3 := c_gOn_k3 s x s.ver (s.forms.set (posS x.form s.forms) ⟨g'.id, nw⟩) (sml8 _ (by simp; omega) (fun f hf => by
      rcases List.mem_or_eq_of_mem_set hf with hf | hf
      · have := (sf.2 f hf).1; omega
      · subst hf; exact hl))
    rcases bor b with hb | hb
    · simp only [hb, Bool.not_true, cond_false, if_true, k3, tail nw]
    · simp [hb, sch0])
end Go.Proofs.Ytalpknofimglbaa.V
namespace Go.Proofs.Ytalpknofimglbaa.V
open Go
theorem c_gAllL (l : List Stp) (hl : l.length ≤ 1000) (hx : ∀ x ∈ l, x.sml ∧ x.ok) : ∀ (r : List Stp) (i : Nat) (s : Sch), l.drop i = r → Few s →
    ltbl E0 14 0 3 [stpsV l, .int .i64 l.length, .int .i64 i] [[.int .i64 0, frmsV []], [.int .i64 s.ver, frmsV s.forms]] =
      some (if (allS s i r).2.2 = 0 then (1, [], [[.int .i64 0, frmsV []], [.int .i64 (allS s i r).1.ver, frmsV (allS s i r).1.forms]]) else (0, [.int .i64 ((allS s i r).2.1 : Nat), .int .i64 (allS s i r).2.2], [[.int .i64 0, frmsV []]])) := by
  intro r
  induction r with
  | nil =>
    intro i s hr hs
    have h : l.length ≤ i := by simpa using hr
    refine t_gAllL _ _ _ _ ?_
    have : ¬ ((i : Int) < l.length) := by omega
    simp [s_gAllL, this, allS]
  | cons x r ih =>
    intro i s hr hs
    obtain ⟨hlt, hget, hr2⟩ := drop_c hr
    have h2 : (i : Int) < l.length := by omega
    have e1 := i64_succ (i := i) (by omega)
    have c := c_gOn s x hs (hx x (mem_drop hr)).1 (hx x (mem_drop hr)).2
    simp only [schV, frmsV, stpV, stpC, intsV, fldsV] at c
    refine t_gAllL _ _ _ _ ?_
    simp only [stpV, stpC, intsV, fldsV, frmsV, List.map_nil] at ih ⊢
    simp only [s_gAllL, OA_asm, List.length_map, h2, decide_true, cond_true, OA_chk, Int.natCast_nonneg, nthE, Int.toNat_natCast, List.getElem?_map, hget, Option.map_some, u_asA, u_asC, u_asI, u_asS, u_asL, u_asN, stpV, stpC, intsV, fldsV, OA_callx, c, Option.bind_some, e1, OA_dbl, OA_both_id]
    by_cases h : (onS s x).2 = 0
    · have h' : ((onS s x).2 != 0) = false := by simp [h]
      have e := ih (i + 1) (onS s x).1 hr2 (few_of (on_right h))
      simp only [h', cond_false, e, allS, if_pos h]
    · have h' := bne_t h
      simp only [h', cond_true, allS, if_neg h]
theorem all_err : ∀ (l : List Stp) (i : Nat) (s : Sch), ((allS s i l).2.2 = 0 → (allS s i l).2.1 = 0) ∧ ((allS s i l).2.2 ≠ 0 → (allS s i l).1 = sch0) := by
  intro l
  induction l with
  | nil => intro i s; simp [allS]
  | cons x l ih =>
    intro i s
    unfold allS
    by_cases h : (onS s x).2 = 0
    · rw [if_pos h]; exact ih _ _
    · rw [if_neg h]; exact ⟨fun h2 => absurd h2 h, fun _ => rfl⟩
theorem c_gAll (s : Sch) (l : List Stp) (hs : Few s) (hl : l.length ≤ 1000) (hx : ∀ x ∈ l, x.sml ∧ x.ok) : tbl E0 14 [schV s, stpsV l] [] = some ([schV (allS s 0 l).1, .int .i64 ((allS s 0 l).2.1 : Nat), .int .i64 (allS s 0 l).2.2], []) := t_gAll s l (by
  have c := c_gAllL l hl hx l 0 s rfl hs
  obtain ⟨z1, z2⟩ := all_err l 0 s
  have cc := c_gcopied s hs.1 hs.2
  simp only [Int.natCast_zero, stpsV, frmsV, List.map_nil] at c
  have ff := flat_frms s.forms
  simp only [frmsU, schV, frmsV] at cc
  simp only [s_gAll, OA_chk, cond_true, OA_call, OA_asm, List.length_map, cc, Option.bind_some, u_asC, u_asA, u_asI, u_asUq, u_asN, ff, OA_loop, c]
  by_cases h : (allS s 0 l).2.2 = 0
  · simp [h, z1 h]
  · simp [h, z2 h, sch0])
end Go.Proofs.Ytalpknofimglbaa.V
namespace Go.Proofs.Ytalpknofimglbaa.V
open Go
variable {H : Type}
theorem fitAll_two {t u : Nat} {d e : DataW H} {m : Nat} {xs : List AV} (h : FitAll T0 m [t, u] [d, e] xs) : ∃ x ys y zs, xs = [x, y] ∧ Fit T0 m t d ys ∧ ElemOf (T0.ty t) x ys ∧ Fit T0 m u e zs ∧ ElemOf (T0.ty u) y zs := by
  obtain ⟨d', ds, x, xs', e1, rfl, ⟨ys, h0, h1⟩, h⟩ := each3_cons h
  cases e1
  obtain ⟨d', ds, y, xs', e1, rfl, ⟨zs, h2, h3⟩, h⟩ := each3_cons h
  obtain ⟨rfl, rfl⟩ := each3_nil h
  cases e1
  exact ⟨x, ys, y, zs, rfl, h0, h1, h2, h3⟩
end Go.Proofs.Ytalpknofimglbaa.V
namespace Go.Proofs.Ytalpknofimglbaa.V
open Go
variable {H : Type}
theorem each_all {α β : Type} {q : β → Prop} : ∀ {l : List α} {r : List β}, Each (fun _ b => q b) l r → ∀ {b : β}, b ∈ r → q b := by
  intro l r h b hb
  obtain ⟨i, hi, e⟩ := List.mem_iff_getElem.1 hb
  obtain ⟨a, _, h2⟩ := h.get i b (by rw [← e]; exact List.getElem?_eq_getElem hi)
  exact h2
theorem fit_fld {n : Nat} {d : DataW H} {xs : List AV} (hf : Fit T0 (n + 2) 26 d xs) : ∃ f : Fld, f.ok ∧ xs = fldC f := by
  obtain ⟨ds, yss, rfl, rfl, h⟩ := fit_struct (fs := [(0, 3), (1, 3), (2, 3), (3, 3), (4, 3)]) (by kernel_rfl) hf
  obtain ⟨d0, ds, y0, yss, rfl, rfl, h0, h⟩ := each3_cons h
  obtain ⟨d1, ds, y1, yss, rfl, rfl, h1, h⟩ := each3_cons h
  obtain ⟨d2, ds, y2, yss, rfl, rfl, h2, h⟩ := each3_cons h
  obtain ⟨d3, ds, y3, yss, rfl, rfl, h3, h⟩ := each3_cons h
  obtain ⟨d4, ds, y4, yss, rfl, rfl, h4, h⟩ := each3_cons h
  obtain ⟨rfl, rfl⟩ := each3_nil h
  obtain ⟨a, ha, rfl, rfl⟩ := fit_i64 (by kernel_rfl) h0
  obtain ⟨b, hb, rfl, rfl⟩ := fit_i64 (by kernel_rfl) h1
  obtain ⟨c, hc, rfl, rfl⟩ := fit_i64 (by kernel_rfl) h2
  obtain ⟨e, he, rfl, rfl⟩ := fit_i64 (by kernel_rfl) h3
  obtain ⟨g, hg, rfl, rfl⟩ := fit_i64 (by kernel_rfl) h4
  exact ⟨⟨a, b, c, e, g⟩, ⟨ha, hb, hc, he, hg⟩, rfl⟩
theorem fit_flds {n : Nat} {d : DataW H} {xs : List AV} (hf : Fit T0 (n + 3) 30 d xs) : ∃ l : List Fld, (∀ f ∈ l, f.ok) ∧ xs = [fldsV l] := by
  obtain ⟨ds, sp, l, hd, rfl, h⟩ := fit_slice (e := 26) (by kernel_rfl) hf
  obtain ⟨cs, rfl, hq⟩ := each_map (f := fldV) (Q := fun d f => f.ok) (fun d x ⟨ys, h1, h2⟩ => by
    obtain ⟨f, hf, rfl⟩ := fit_fld h1
    exact ⟨f, elem_agg (by kernel_rfl) h2, hf⟩) h
  exact ⟨cs, fun f hf => each_all hq hf, rfl⟩
theorem fit_frm {n : Nat} {d : DataW H} {xs : List AV} (hf : Fit T0 (n + 4) 52 d xs) : ∃ f : Frm, f.ok ∧ xs = [.int .i64 f.id, fldsV f.fields] := by
  obtain ⟨ds, yss, rfl, rfl, h⟩ := fit_struct (fs := [(0, 3), (1, 30)]) (by kernel_rfl) hf
  obtain ⟨d0, ds, y0, yss, rfl, rfl, h0, h⟩ := each3_cons h
  obtain ⟨d1, ds, y1, yss, rfl, rfl, h1, h⟩ := each3_cons h
  obtain ⟨rfl, rfl⟩ := each3_nil h
  obtain ⟨a, ha, rfl, rfl⟩ := fit_i64 (by kernel_rfl) h0
  obtain ⟨l, hl, rfl⟩ := fit_flds h1
  exact ⟨⟨a, l⟩, ⟨ha, hl⟩, rfl⟩
theorem fit_frms {n : Nat} {d : DataW H} {xs : List AV} (hf : Fit T0 (n + 5) 22 d xs) : ∃ l : List Frm, (∀ f ∈ l, f.ok) ∧ xs = [frmsV l] := by
  obtain ⟨ds, sp, l, hd, rfl, h⟩ := fit_slice (e := 52) (by kernel_rfl) hf
  obtain ⟨cs, rfl, hq⟩ := each_map (f := frmV) (Q := fun d f => f.ok) (fun d x ⟨ys, h1, h2⟩ => by
    obtain ⟨f, hf, rfl⟩ := fit_frm h1
    exact ⟨f, elem_agg (by kernel_rfl) h2, hf⟩) h
  exact ⟨cs, fun f hf => each_all hq hf, rfl⟩
theorem fit_sch {n : Nat} {d : DataW H} {xs : List AV} (hf : Fit T0 (n + 6) 24 d xs) : ∃ s : Sch, s.ok ∧ xs = [.int .i64 s.ver, frmsV s.forms] := by
  obtain ⟨ds, yss, rfl, rfl, h⟩ := fit_struct (fs := [(0, 3), (1, 22)]) (by kernel_rfl) hf
  obtain ⟨d0, ds, y0, yss, rfl, rfl, h0, h⟩ := each3_cons h
  obtain ⟨d1, ds, y1, yss, rfl, rfl, h1, h⟩ := each3_cons h
  obtain ⟨rfl, rfl⟩ := each3_nil h
  obtain ⟨a, ha, rfl, rfl⟩ := fit_i64 (by kernel_rfl) h0
  obtain ⟨l, hl, rfl⟩ := fit_frms h1
  exact ⟨⟨a, l⟩, ⟨ha, hl⟩, rfl⟩
end Go.Proofs.Ytalpknofimglbaa.V
namespace Go.Proofs.Ytalpknofimglbaa.V
open Go
variable {H : Type}
theorem fit_ints {n : Nat} {d : DataW H} {xs : List AV} (hf : Fit T0 (n + 2) 29 d xs) : ∃ l : List Int, (∀ n ∈ l, i64 n) ∧ xs = [intsV l] := by
  obtain ⟨ds, sp, l, hd, rfl, h⟩ := fit_slice (e := 3) (by kernel_rfl) hf
  obtain ⟨cs, rfl, hq⟩ := each_map (f := fun n => AV.int .i64 n) (Q := fun d n => i64 n) (fun d x ⟨ys, h1, h2⟩ => by
    obtain ⟨a, ha, rfl, rfl⟩ := fit_i64 (by kernel_rfl) h1
    have q := elem_one (by kernel_rfl) h2
    injection q with q
    exact ⟨a, q.symm, ha⟩) h
  exact ⟨cs, fun f hf => each_all hq hf, rfl⟩
theorem fit_val {n : Nat} {d : DataW H} {xs : List AV} (hf : Fit T0 (n + 2) 28 d xs) : ∃ (a : Int) (s : List UInt8), i64 a ∧ xs = [.int .i64 a, .str s] := by
  obtain ⟨ds, yss, rfl, rfl, h⟩ := fit_struct (fs := [(0, 3), (1, 9)]) (by kernel_rfl) hf
  obtain ⟨d0, ds, y0, yss, rfl, rfl, h0, h⟩ := each3_cons h
  obtain ⟨d1, ds, y1, yss, rfl, rfl, h1, h⟩ := each3_cons h
  obtain ⟨rfl, rfl⟩ := each3_nil h
  obtain ⟨a, ha, rfl, rfl⟩ := fit_i64 (by kernel_rfl) h0
  obtain ⟨s, rfl, rfl⟩ := fit_str (by kernel_rfl) h1
  exact ⟨a, s, ha, rfl⟩
theorem fit_stp {n : Nat} {d : DataW H} {xs : List AV} (hf : Fit T0 (n + 4) 32 d xs) : ∃ x : Stp, x.ok ∧ xs = stpC x := by
  obtain ⟨ds, yss, rfl, rfl, h⟩ := fit_struct (fs := [(0, 3), (1, 3), (2, 3), (3, 3), (4, 3), (5, 3), (6, 3), (7, 26), (12, 28), (14, 29), (15, 30)]) (by kernel_rfl) hf
  obtain ⟨d0, ds, y0, yss, rfl, rfl, h0, h⟩ := each3_cons h
  obtain ⟨d1, ds, y1, yss, rfl, rfl, h1, h⟩ := each3_cons h
  obtain ⟨d2, ds, y2, yss, rfl, rfl, h2, h⟩ := each3_cons h
  obtain ⟨d3, ds, y3, yss, rfl, rfl, h3, h⟩ := each3_cons h
  obtain ⟨d4, ds, y4, yss, rfl, rfl, h4, h⟩ := each3_cons h
  obtain ⟨d5, ds, y5, yss, rfl, rfl, h5, h⟩ := each3_cons h
  obtain ⟨d6, ds, y6, yss, rfl, rfl, h6, h⟩ := each3_cons h
  obtain ⟨d7, ds, y7, yss, rfl, rfl, h7, h⟩ := each3_cons h
  obtain ⟨d8, ds, y8, yss, rfl, rfl, h8, h⟩ := each3_cons h
  obtain ⟨d9, ds, y9, yss, rfl, rfl, h9, h⟩ := each3_cons h
  obtain ⟨dA, ds, yA, yss, rfl, rfl, hA, h⟩ := each3_cons h
  obtain ⟨rfl, rfl⟩ := each3_nil h
  obtain ⟨a0, i0, rfl, rfl⟩ := fit_i64 (by kernel_rfl) h0
  obtain ⟨a1, i1, rfl, rfl⟩ := fit_i64 (by kernel_rfl) h1
  obtain ⟨a2, i2, rfl, rfl⟩ := fit_i64 (by kernel_rfl) h2
  obtain ⟨a3, i3, rfl, rfl⟩ := fit_i64 (by kernel_rfl) h3
  obtain ⟨a4, i4, rfl, rfl⟩ := fit_i64 (by kernel_rfl) h4
  obtain ⟨a5, i5, rfl, rfl⟩ := fit_i64 (by kernel_rfl) h5
  obtain ⟨a6, i6, rfl, rfl⟩ := fit_i64 (by kernel_rfl) h6
  obtain ⟨f, i7, rfl⟩ := fit_fld h7
  obtain ⟨a8, s, i8, rfl⟩ := fit_val h8
  obtain ⟨t, i9, rfl⟩ := fit_ints h9
  obtain ⟨fs, iA, rfl⟩ := fit_flds hA
  exact ⟨⟨a0, a1, a2, a3, a4, a5, a6, f, a8, s, t, fs⟩, ⟨i0, i1, i2, i3, i4, i5, i6, i7, i8, i9, iA⟩, rfl⟩
theorem fit_stps {n : Nat} {d : DataW H} {xs : List AV} (hf : Fit T0 (n + 5) 34 d xs) : ∃ l : List Stp, (∀ f ∈ l, f.ok) ∧ xs = [stpsV l] := by
  obtain ⟨ds, sp, l, hd, rfl, h⟩ := fit_slice (e := 32) (by kernel_rfl) hf
  obtain ⟨cs, rfl, hq⟩ := each_map (f := stpV) (Q := fun d f => f.ok) (fun d x ⟨ys, h1, h2⟩ => by
    obtain ⟨f, hf, rfl⟩ := fit_stp h1
    exact ⟨f, elem_agg (by kernel_rfl) h2, hf⟩) h
  exact ⟨cs, fun f hf => each_all hq hf, rfl⟩
end Go.Proofs.Ytalpknofimglbaa.V
namespace Go.Proofs.Ytalpknofimglbaa.V
open Go
open AV (int lst agg str bool ref clo)
open List (map)
def s_swrite {α : Type} (A : Alg α) (b : List AV) (x : Fld) (e : Int) (kc : List AV → List (Nat × List AV) → α) : α :=
  A.chk true (A.call 47 [ref 0 0, int .i64 x.id] [(0, [lst (.own (.E 0 0)) 1 b, int .i64 e])] fun l0 l1 => asC A l1 fun x2 l3 => bif (x2.1.beq 0) then (asC A x2.2 fun v4 l5 => asOwn A 1 v4 fun x6 l7 => asC A l5 fun v8 l9 => asI A .i64 v8 fun n10 => asN A l9 (asN A l0 (asN A l3 (A.call 47 [ref 0 0, int .i64 x.kind] [(0, [lst (.own (.E 0 0)) 1 l7, int .i64 n10])] fun l11 l12 => asC A l12 fun x13 l14 => bif (x13.1.beq 0) then (asC A x13.2 fun v15 l16 => asOwn A 1 v15 fun x17 l18 => asC A l16 fun v19 l20 => asI A .i64 v19 fun n21 => asN A l20 (asN A l11 (asN A l14 (bif (x.kind == (1 : Int)) then (A.call 81 [ref 0 0, int .i64 x.lo] [(0, [lst (.own (.E 0 0)) 1 l18, int .i64 n21])] fun l22 l23 => asC A l23 fun x24 l25 => bif (x24.1.beq 0) then (asC A x24.2 fun v26 l27 => asOwn A 1 v26 fun x28 l29 => asC A l27 fun v30 l31 => asI A .i64 v30 fun n32 => asN A l31 (asN A l22 (asN A l25 (A.call 81 [ref 0 0, int .i64 x.hi] [(0, [lst (.own (.E 0 0)) 1 l29, int .i64 n32])] fun l33 l34 => asC A l34 fun x35 l36 => bif (x35.1.beq 0) then (asC A x35.2 fun v37 l38 => asOwn A 1 v37 fun x39 l40 => asC A l38 fun v41 l42 => asI A .i64 v41 fun n43 => asN A l42 (asN A l33 (asN A l36 (kc [] [(0, [lst (.own (.E 0 0)) 1 l40, int .i64 n43])])))) else A.fail)))) else A.fail) else (bif (x.kind == (3 : Int)) then (A.call 47 [ref 0 0, int .i64 x.most] [(0, [lst (.own (.E 0 0)) 1 l18, int .i64 n21])] fun l44 l45 => asC A l45 fun x46 l47 => bif (x46.1.beq 0) then (asC A x46.2 fun v48 l49 => asOwn A 1 v48 fun x50 l51 => asC A l49 fun v52 l53 => asI A .i64 v52 fun n54 => asN A l53 (asN A l44 (asN A l47 (kc [] [(0, [lst (.own (.E 0 0)) 1 l51, int .i64 n54])])))) else A.fail) else (bif (x.kind == (4 : Int)) then (A.call 47 [ref 0 0, int .i64 x.most] [(0, [lst (.own (.E 0 0)) 1 l18, int .i64 n21])] fun l55 l56 => asC A l56 fun x57 l58 => bif (x57.1.beq 0) then (asC A x57.2 fun v59 l60 => asOwn A 1 v59 fun x61 l62 => asC A l60 fun v63 l64 => asI A .i64 v63 fun n65 => asN A l64 (asN A l55 (asN A l58 (kc [] [(0, [lst (.own (.E 0 0)) 1 l62, int .i64 n65])])))) else A.fail) else (kc [] [(0, [lst (.own (.E 0 0)) 1 l18, int .i64 n21])]))))))) else A.fail)))) else A.fail)
def s_sPrint {α : Type} (A : Alg α) (s : Sch) (kc : List AV → List (Nat × List AV) → α) : α :=
  A.chk true (A.chk true (A.callx 32 [agg [int .i64 s.ver, lst .ro 2 (map frmV s.forms)]] fun l0 => asC A l0 fun v1 l2 => asB A v1 fun b3 => asN A l2 (bif (!b3) then (kc [lst .ro 1 [], int .i64 2] []) else (A.call 46 [] [] fun l4 l5 => asC A l4 fun v6 l7 => asRef0 A v6 fun o8 => bif (o8.beq 64) then (asC A l5 fun x9 l10 => bif (x9.1.beq 64) then (asC A x9.2 fun v11 l12 => asOwn A 1 v11 fun x13 l14 => asC A l12 fun v15 l16 => asI A .i64 v15 fun n17 => asN A l16 (asN A l7 (asN A l10 (A.call 47 [ref 0 0, int .i64 s.ver] [(0, [lst (.own (.E 0 0)) 1 l14, int .i64 n17])] fun l18 l19 => asC A l19 fun x20 l21 => bif (x20.1.beq 0) then (asC A x20.2 fun v22 l23 => asOwn A 1 v22 fun x24 l25 => asC A l23 fun v26 l27 => asI A .i64 v26 fun n28 => asN A l27 (asN A l18 (asN A l21 (A.asm ((map frmV s.forms).length ≤ maxL) (A.call 47 [ref 0 0, int .i64 (↑(map frmV s.forms).length : Int)] [(0, [lst (.own (.E 0 0)) 1 l25, int .i64 n28])] fun l29 l30 => asC A l30 fun x31 l32 => bif (x31.1.beq 0) then (asC A x31.2 fun v33 l34 => asOwn A 1 v33 fun x35 l36 => asC A l34 fun v37 l38 => asI A .i64 v37 fun n39 => asN A l38 (asN A l29 (asN A l32 (A.asm ((map frmV s.forms).length ≤ maxL) (A.loop 7 [lst .ro 2 (map frmV s.forms), int .i64 (↑(map frmV s.forms).length : Int), int .i64 0] [[lst (.own (.O 1012 0)) 1 l36, int .i64 n39]] fun j40 l41 l42 => bif (j40.beq 1) then (asN A l41 (asC A l42 fun l43 l44 => asC A l43 fun v45 l46 => asOwn A 1 v45 fun x47 l48 => bif (x47.beq (.O (1012 : Nat) (0 : Nat))) then (asC A l46 fun v49 l50 => asI A .i64 v49 fun n51 => asN A l50 (asN A l44 (A.call 49 [ref 0 0] [(0, [lst (.own (.E 0 0)) 1 l48, int .i64 n51])] fun l52 l53 => asC A l53 fun x54 l55 => bif (x54.1.beq 0) then (asC A x54.2 fun v56 l57 => asOwn A 1 v56 fun x58 l59 => asC A l57 fun v60 l61 => asI A .i64 v60 fun n62 => asN A l61 (asC A l52 fun v63 l64 => asL A 1 v63 fun l65 => asC A l64 fun v66 l67 => asI A .i64 v66 fun n68 => asN A l67 (asN A l55 (kc [lst .ro 1 l65, int .i64 n68] [])))) else A.fail))) else A.fail)) else A.fail))))) else A.fail))))) else A.fail)))) else A.fail) else A.fail))))
def s_sPrintL {α : Type} (A : Alg α) (l : List Frm) (b : List AV) (m : Int) (i : Int) (e : Int) (next : List AV → List (List AV) → α) (kc : Nat → List AV → List (List AV) → α) : α :=
  bif (decide (i < m)) then (A.chk (decide ((0 : Int) ≤ i)) (nthE A (map frmV l) i.toNat fun v0 => asA A v0 fun l1 => asC A l1 fun v2 l3 => asI A .i64 v2 fun n4 => asC A l3 fun v5 l6 => asL A 5 v5 fun l7 => asN A l6 (A.chk true (A.chk true (A.chk true (A.call 47 [ref 0 0, int .i64 n4] [(0, [lst (.own (.E 0 0)) 1 b, int .i64 e])] fun l8 l9 => asC A l9 fun x10 l11 => bif (x10.1.beq 0) then (asC A x10.2 fun v12 l13 => asOwn A 1 v12 fun x14 l15 => asC A l13 fun v16 l17 => asI A .i64 v16 fun n18 => asN A l17 (asN A l8 (asN A l11 (A.asm (l7.length ≤ maxL) (A.call 47 [ref 0 0, int .i64 (↑l7.length : Int)] [(0, [lst (.own (.E 0 0)) 1 l15, int .i64 n18])] fun l19 l20 => asC A l20 fun x21 l22 => bif (x21.1.beq 0) then (asC A x21.2 fun v23 l24 => asOwn A 1 v23 fun x25 l26 => asC A l24 fun v27 l28 => asI A .i64 v27 fun n29 => asN A l28 (asN A l19 (asN A l22 (A.asm (l7.length ≤ maxL) (A.loop 12 [lst .ro 2 (map frmV l), int .i64 m, int .i64 i, lst .ro 5 l7, int .i64 (↑l7.length : Int), int .i64 0] [[lst (.own (.O 1012 0)) 1 l26, int .i64 n29]] fun j30 l31 l32 => bif (j30.beq 3) then (asC A l31 fun v33 l34 => asL A 2 v33 fun l35 => asC A l34 fun v36 l37 => asI A .i64 v36 fun n38 => asC A l37 fun v39 l40 => asI A .i64 v39 fun n41 => asN A l40 (asC A l32 fun l42 l43 => asC A l42 fun v44 l45 => asOwn A 1 v44 fun x46 l47 => bif (x46.beq (.O (1012 : Nat) (0 : Nat))) then (asC A l45 fun v48 l49 => asI A .i64 v48 fun n50 => asN A l49 (asN A l43 (next [lst .ro 2 l35, int .i64 n38, int .i64 (IntKind.i64.wrap (n41 + (1 : Int)))] [[lst (.own (.O 1012 0)) 1 l47, int .i64 n50]]))) else A.fail)) else A.fail))))) else A.fail))))) else A.fail)))))) else (kc 1 [] [[lst (.own (.O 1012 0)) 1 b, int .i64 e]])
def s_sPrintK {α : Type} (A : Alg α) (l : List Frm) (fs : List Fld) (b : List AV) (m : Int) (i : Int) (n : Int) (k : Int) (e : Int) (next : List AV → List (List AV) → α) (kc : Nat → List AV → List (List AV) → α) : α :=
  bif (decide (k < n)) then (A.chk (decide ((0 : Int) ≤ k)) (nthE A (map fldV fs) k.toNat fun v0 => asA A v0 fun l1 => asC A l1 fun v2 l3 => asI A .i64 v2 fun n4 => asC A l3 fun v5 l6 => asI A .i64 v5 fun n7 => asC A l6 fun v8 l9 => asI A .i64 v8 fun n10 => asC A l9 fun v11 l12 => asI A .i64 v11 fun n13 => asC A l12 fun v14 l15 => asI A .i64 v14 fun n16 => asN A l15 (A.chk true (A.chk true (A.chk true (A.chk true (A.call 48 [ref 0 0, agg [int .i64 n4, int .i64 n7, int .i64 n10, int .i64 n13, int .i64 n16]] [(0, [lst (.own (.E 0 0)) 1 b, int .i64 e])] fun l17 l18 => asC A l18 fun x19 l20 => bif (x19.1.beq 0) then (asC A x19.2 fun v21 l22 => asOwn A 1 v21 fun x23 l24 => asC A l22 fun v25 l26 => asI A .i64 v25 fun n27 => asN A l26 (asN A l17 (asN A l20 (next [lst .ro 2 (map frmV l), int .i64 m, int .i64 i, lst .ro 5 (map fldV fs), int .i64 n, int .i64 (IntKind.i64.wrap (k + (1 : Int)))] [[lst (.own (.O 1012 0)) 1 l24, int .i64 n27]])))) else A.fail))))))) else (kc 3 [lst .ro 2 (map frmV l), int .i64 m, int .i64 i] [[lst (.own (.O 1012 0)) 1 b, int .i64 e]])
theorem t_swrite (b : List AV) (x : Fld) (e : Int) {r : CR} (h : s_swrite (OA (tbl E0) (ltbl E0 48 0)) b x e (fun r o => some (r, o)) = some r) : tbl E0 48 [.ref 0 0, fldV x] (penA b e) = some r :=
  tbl_of (body := bodyOf Try.f48) Try.func48 (by kernel_rfl) (by kernel_rfl) (by kernel_rfl) (Eq.trans (by kernel_rfl) h)
theorem t_sPrint (s : Sch) {r : CR} (h : s_sPrint (OA (tbl E0) (ltbl E0 16 0)) s (fun r o => some (r, o)) = some r) : tbl E0 16 [schV s] [] = some r :=
  tbl_of (body := bodyOf Try.f16) Try.func16 (by kernel_rfl) (by kernel_rfl) (by kernel_rfl) (Eq.trans (by kernel_rfl) h)
theorem t_sPrintL (l : List Frm) (b : List AV) (m i e : Int) {r : LR} (h : s_sPrintL (OA (tbl E0) (ltbl E0 16 0)) l b m i e (fun vs os => ltbl E0 16 0 7 vs os) (fun j vs os => some (j, vs, os)) = some r) : ltbl E0 16 0 7 [frmsV l, .int .i64 m, .int .i64 i] [[.lst (.own (.O 1012 0)) 1 b, .int .i64 e]] = some r :=
  ltbl_of (body := bodyOf Try.f16) Try.func16 (by kernel_rfl) (by kernel_rfl) (Eq.trans (by kernel_rfl) h)
theorem t_sPrintK (l : List Frm) (fs : List Fld) (b : List AV) (m i n k e : Int) {r : LR} (h : s_sPrintK (OA (tbl E0) (ltbl E0 16 0)) l fs b m i n k e (fun vs os => ltbl E0 16 0 12 vs os) (fun j vs os => some (j, vs, os)) = some r) : ltbl E0 16 0 12 [frmsV l, .int .i64 m, .int .i64 i, fldsV fs, .int .i64 n, .int .i64 k] [[.lst (.own (.O 1012 0)) 1 b, .int .i64 e]] = some r :=
  ltbl_of (body := bodyOf Try.f16) Try.func16 (by kernel_rfl) (by kernel_rfl) (Eq.trans (by kernel_rfl) h)
end Go.Proofs.Ytalpknofimglbaa.V
namespace Go.Proofs.Ytalpknofimglbaa.V
open Go
theorem fldB_len {x : Fld} (hx : x.ok) (hr : rgtS x = true) : (fldB x).length ≤ 40 := by
  have r := rgt_rng hr
  obtain ⟨_, ⟨_, _⟩, ⟨_, _⟩, ⟨_, _⟩, ⟨_, _⟩⟩ := hx
  have h1 : (cnt x.id.toNat).length ≤ 10 := cnt_len10 (by omega)
  have h2 : (cnt x.kind.toNat).length ≤ 10 := cnt_len10 (by omega)
  have h3 : (cnt (zz x.lo)).length ≤ 10 := cnt_len10 (zz_lt (by omega) (by omega))
  have h4 : (cnt (zz x.hi)).length ≤ 10 := cnt_len10 (zz_lt (by omega) (by omega))
  have h5 : (cnt x.most.toNat).length ≤ 10 := cnt_len10 (by omega)
  unfold fldB
  simp only [List.length_append]
  split
  · simp only [List.length_append]; omega
  · split
    · omega
    · simp; omega
theorem c_swrite (b : List AV) (x : Fld) (e : Int) (hx : x.ok) (hr : rgtS x = true) (hb : b.length + 40 ≤ 211106232532992) : tbl E0 48 [.ref 0 0, fldV x] (penA b e) = some ([], penA (b ++ encB (fldB x)) e) :=
  t_swrite b x e (by
    have r := rgt_rng hr
    obtain ⟨_, ⟨_, _⟩, ⟨_, _⟩, ⟨_, _⟩, ⟨_, _⟩⟩ := hx
    have h1 : (cnt x.id.toNat).length ≤ 10 := cnt_len10 (by omega)
    have h2 : (cnt x.kind.toNat).length ≤ 10 := cnt_len10 (by omega)
    have h3 : (cnt (zz x.lo)).length ≤ 10 := cnt_len10 (zz_lt (by omega) (by omega))
    have c1 := c_PCount b x.id e (by omega) (by omega)
    have c2 := c_PCount (b ++ encB (cnt x.id.toNat)) x.kind e (by simp; omega) (by omega)
    have c3 := c_PCount (b ++ encB (cnt x.id.toNat) ++ encB (cnt x.kind.toNat)) x.most e (by simp; omega) (by omega)
    have c4 := c_PNum (b ++ encB (cnt x.id.toNat) ++ encB (cnt x.kind.toNat)) x.lo e (by simp; omega) (by omega) (by omega)
    have c5 := c_PNum (b ++ encB (cnt x.id.toNat) ++ encB (cnt x.kind.toNat) ++ encB (cnt (zz x.lo))) x.hi e (by simp; omega) (by omega) (by omega)
    have n1 : ¬ (x.id < 0) := by omega
    have n2 : ¬ (x.kind < 0) := by omega
    have n3 : ¬ (x.most < 0) := by omega
    simp only [n1, n2, n3, if_false, penA] at c1 c2 c3 c4 c5
    unfold fldB
    by_cases k1 : x.kind = 1
    · simp only [k1] at c2 c3 c4 c5
      simp_all [s_swrite, penA, encB_append]
    · by_cases k3 : x.kind = 3
      · simp only [k3] at c2 c3 c4 c5
        simp_all [s_swrite, penA, encB_append]
      · by_cases k4 : x.kind = 4
        · simp only [k4] at c2 c3 c4 c5
          simp_all [s_swrite, penA, encB_append]
        · have k2 : x.kind = 2 := by omega
          simp only [k2] at c2 c3 c4 c5
          simp_all [s_swrite, penA, encB_append])
end Go.Proofs.Ytalpknofimglbaa.V
namespace Go.Proofs.Ytalpknofimglbaa.V
open Go
theorem fldsB_cons (f : Fld) (l : List Fld) : fldsB (f :: l) = fldB f ++ fldsB l := by simp [fldsB]
theorem frmsB_cons (f : Frm) (l : List Frm) : frmsB (f :: l) = frmB f ++ frmsB l := by simp [frmsB]
theorem fldsB_len : ∀ (l : List Fld), FldsOK l → (fldsB l).length ≤ 40 * l.length
  | [], _ => by simp [fldsB]
  | f :: l, h => by
    have h1 := fldB_len (h f (by simp)).1 (h f (by simp)).2
    have h2 := fldsB_len l (fun g hg => h g (by simp [hg]))
    rw [fldsB_cons, List.length_append, List.length_cons]
    omega
theorem c_sPrintK (l : List Frm) (fs : List Fld) (m i : Int) (hl : fs.length ≤ 8) (hok : FldsOK fs) : ∀ (r : List Fld) (k : Nat) (b : List AV) (e : Int), fs.drop k = r → b.length + 40 * r.length + 40 ≤ 211106232532992 →
    ltbl E0 16 0 12 [frmsV l, .int .i64 m, .int .i64 i, fldsV fs, .int .i64 fs.length, .int .i64 k] [[.lst (.own (.O 1012 0)) 1 b, .int .i64 e]] = some (3, [frmsV l, .int .i64 m, .int .i64 i], [[.lst (.own (.O 1012 0)) 1 (b ++ encB (fldsB r)), .int .i64 e]]) := by
  intro r
  induction r with
  | nil =>
    intro k b e hr hb
    have h : fs.length ≤ k := by simpa using hr
    refine t_sPrintK _ _ _ _ _ _ _ _ ?_
    have : ¬ ((k : Int) < fs.length) := by omega
    simp [s_sPrintK, this, fldsB, encB_nil]
  | cons x r ih =>
    intro k b e hr hb
    obtain ⟨hlt, hget, hr2⟩ := drop_c hr
    have h2 : (k : Int) < fs.length := by omega
    have e1 := i64_succ (i := k) (by omega)
    obtain ⟨x1, x2⟩ := hok x (mem_drop hr)
    have hx := fldB_len x1 x2
    simp only [List.length_cons] at hb
    have h := ih (k + 1) (b ++ encB (fldB x)) e hr2 (by simp; omega)
    have c := c_swrite b x e x1 x2 (by omega)
    simp only [penA] at c
    refine t_sPrintK _ _ _ _ _ _ _ _ ?_
    rw [fldsB_cons, encB_append, ← List.append_assoc, ← h]
    simp only [s_sPrintK, OA_asm, List.length_map, h2, decide_true, cond_true, OA_chk, Int.natCast_nonneg, nthE, Int.toNat_natCast, List.getElem?_map, hget, Option.map_some, u_asA, u_asC, u_asI, u_asB, u_asL, u_asOwn, u_asN, OA_call, c, Option.bind_some, nbeq, e1]
def FrmOK (f : Frm) : Prop := f.ok ∧ 0 ≤ f.id ∧ f.fields.length ≤ 8 ∧ FldsOK f.fields
theorem frmB_len {f : Frm} (h : FrmOK f) : (frmB f).length ≤ 340 := by
  obtain ⟨⟨⟨_, _⟩, _⟩, h2, h3, h4⟩ := h
  have h5 := fldsB_len f.fields h4
  have h6 : (cnt f.id.toNat).length ≤ 10 := cnt_len10 (by omega)
  have h7 : (cnt f.fields.length).length ≤ 10 := cnt_len10 (by omega)
  unfold frmB
  simp only [List.length_append]
  omega
theorem c_sPrintL (l : List Frm) (hl : l.length ≤ 8) (hok : ∀ f ∈ l, FrmOK f) : ∀ (r : List Frm) (i : Nat) (b : List AV) (e : Int), l.drop i = r → b.length + 400 * r.length + 400 ≤ 211106232532992 →
    ltbl E0 16 0 7 [frmsV l, .int .i64 l.length, .int .i64 i] [[.lst (.own (.O 1012 0)) 1 b, .int .i64 e]] = some (1, [], [[.lst (.own (.O 1012 0)) 1 (b ++ encB (frmsB r)), .int .i64 e]]) := by
  intro r
  induction r with
  | nil =>
    intro i b e hr hb
    have h : l.length ≤ i := by simpa using hr
    refine t_sPrintL _ _ _ _ _ ?_
    have : ¬ ((i : Int) < l.length) := by omega
    simp [s_sPrintL, this, frmsB, encB_nil]
  | cons x r ih =>
    intro i b e hr hb
    obtain ⟨hlt, hget, hr2⟩ := drop_c hr
    have h2 : (i : Int) < l.length := by omega
    have e1 := i64_succ (i := i) (by omega)
    have hx := hok x (mem_drop hr)
    have hxl := frmB_len hx
    obtain ⟨⟨⟨_, _⟩, _⟩, x2, x3, x4⟩ := hx
    have h6 : (cnt x.id.toNat).length ≤ 10 := cnt_len10 (by omega)
    have h7 : (cnt x.fields.length).length ≤ 10 := cnt_len10 (by omega)
    simp only [List.length_cons] at hb
    have h := ih (i + 1) (b ++ encB (frmB x)) e hr2 (by simp; omega)
    have c1 := c_PCount b x.id e (by omega) (by omega)
    have c2 := c_PCount (b ++ encB (cnt x.id.toNat)) x.fields.length e (by simp; omega) (by omega)
    rw [if_neg (by omega)] at c1 c2
    simp only [penA, Int.toNat_natCast] at c1 c2
    have k := c_sPrintK l x.fields (l.length : Int) (i : Int) x3 x4 x.fields 0 (b ++ encB (cnt x.id.toNat) ++ encB (cnt x.fields.length)) e rfl (by simp; omega)
    simp only [Int.natCast_zero] at k
    refine t_sPrintL _ _ _ _ _ ?_
    have eb : b ++ encB (frmsB (x :: r)) = b ++ encB (frmB x) ++ encB (frmsB r) := by rw [frmsB_cons, encB_append, List.append_assoc]
    have ek : b ++ encB (cnt x.id.toNat) ++ encB (cnt x.fields.length) ++ encB (fldsB x.fields) = b ++ encB (frmB x) := by unfold frmB; simp only [encB_append, List.append_assoc]
    rw [eb, ← h, ← ek]
    simp only [s_sPrintL, OA_asm, List.length_map, h2, decide_true, cond_true, OA_chk, Int.natCast_nonneg, nthE, Int.toNat_natCast, List.getElem?_map, hget, Option.map_some, u_asA, u_asC, u_asI, u_asB, u_asL, u_asOwn, u_asN, OA_call, OA_loop, c1, c2, k, Option.bind_some, nbeq, e1, Nm_beq_self]
theorem frmOK_of {s : Sch} (hs : s.ok) (hr : schS s = true) : s.forms.length ≤ 8 ∧ ∀ f ∈ s.forms, FrmOK f := by
  obtain ⟨h1, h2, h3⟩ := (schS_iff s).1 hr
  refine ⟨h2, fun f hf => ?_⟩
  obtain ⟨a1, a2, _, a4, _⟩ := (fineS_iff f).1 (risingS_all _ _ h3 f hf)
  exact ⟨hs.2 f hf, a1.1, a2.2, fun x hx => ⟨(hs.2 f hf).2 x hx, a4 x hx⟩⟩
theorem frmsB_len : ∀ (l : List Frm), (∀ f ∈ l, FrmOK f) → (frmsB l).length ≤ 340 * l.length
  | [], _ => by simp [frmsB]
  | f :: l, h => by
    have h1 := frmB_len (h f (by simp))
    have h2 := frmsB_len l (fun g hg => h g (by simp [hg]))
    rw [frmsB_cons, List.length_append, List.length_cons]
    omega
theorem schB_len {s : Sch} (hs : s.ok) (hr : schS s = true) : (schB s).length ≤ 4000 := by
  obtain ⟨h1, h2⟩ := frmOK_of hs hr
  obtain ⟨h3, _, _⟩ := (schS_iff s).1 hr
  have h4 := frmsB_len s.forms h2
  have h6 : (cnt s.ver.toNat).length ≤ 10 := cnt_len10 (by omega)
  have h7 : (cnt s.forms.length).length ≤ 10 := cnt_len10 (by omega)
  unfold schB
  simp only [List.length_append]
  omega
theorem c_sPrint (s : Sch) (hs : s.ok) (hm : Sml s) : tbl E0 16 [schV s] [] = some ([.lst .ro 1 (if schS s then encB (schB s) else []), .int .i64 (if schS s then 0 else 2)], []) :=
  t_sPrint s (by
    have c0 := c_sRight s hm
    rcases bor (schS s) with hb | hb
    · obtain ⟨h1, h2⟩ := frmOK_of hs hb
      obtain ⟨h3, _, _⟩ := (schS_iff s).1 hb
      have h6 : (cnt s.ver.toNat).length ≤ 10 := cnt_len10 (by omega)
      have h7 : (cnt s.forms.length).length ≤ 10 := cnt_len10 (by omega)
      have hl := schB_len hs hb
      have c1 := c_PCount [] s.ver 0 (by simp) (by omega)
      have c2 := c_PCount (encB (cnt s.ver.toNat)) s.forms.length 0 (by simp; omega) (by omega)
      rw [if_neg (by omega)] at c1 c2
      simp only [penA, Int.toNat_natCast, List.nil_append] at c1 c2
      have k := c_sPrintL s.forms h1 h2 s.forms 0 (encB (cnt s.ver.toNat) ++ encB (cnt s.forms.length)) 0 rfl (by simp; omega)
      simp only [Int.natCast_zero] at k
      have ek : encB (cnt s.ver.toNat) ++ encB (cnt s.forms.length) ++ encB (frmsB s.forms) = encB (schB s) := by unfold schB; simp only [encB_append]
      rw [ek] at k
      have d := c_PDone (schB s) 0 (by omega)
      simp only [penV, penA, if_true] at d
      simp only [s_sPrint, hb, OA_asm, List.length_map, decide_true, cond_true, cond_false, Bool.not_true, OA_chk, u_asA, u_asC, u_asI, u_asB, u_asL, u_asOwn, u_asN, u_asRef0, OA_call, OA_callx, OA_loop, c0, c_New, c1, c2, k, d, Option.bind_some, nbeq, Nm_beq_self, if_true]
    · simp only [s_sPrint, hb, OA_asm, cond_true, Bool.not_false, OA_chk, u_asC, u_asB, u_asN, OA_callx, c0, Option.bind_some, if_false, Bool.false_eq_true])
end Go.Proofs.Ytalpknofimglbaa.V
namespace Go.Proofs.Ytalpknofimglbaa.V
open Go
end Go.Proofs.Ytalpknofimglbaa.V
namespace Go.Proofs.Ytalpknofimglbaa.V
open Go
end Go.Proofs.Ytalpknofimglbaa.V
namespace Go.Proofs.Ytalpknofimglbaa.V
open Go
end Go.Proofs.Ytalpknofimglbaa.V
namespace Go.Proofs.Ytalpknofimglbaa.V
open Go
variable {H : Type}
end Go.Proofs.Ytalpknofimglbaa.V
namespace Go.Proofs.Ytalpknofimglbaa.V
open Go
variable {H : Type}
def tyG (s : Sch) (l : List Stp) : Bool := (s.forms.take 41).any big || (decide (40 < s.forms.length) || greatT l)
theorem c_tygreatL (s : Sch) (l : List Stp) : ∀ (r : List Frm) (i : Nat), s.forms.drop i = r → i ≤ 41 →
    ltbl E0 9 0 2 [stpsV l, .int .i64 i] [[.int .i64 s.ver, frmsV s.forms]] = some (if (r.take (41 - i)).any big then (0, [.bool true], []) else (1, [stpsV l], [[.int .i64 s.ver, frmsV s.forms]])) := by
  intro r
  induction r with
  | nil =>
    intro i hr hi
    have h : s.forms.length ≤ i := by simpa using hr
    refine t_tygreatL _ _ _ ?_
    have : ¬ ((i : Int) < s.forms.length) := by omega
    simp [s_tygreatL, this]
  | cons f r ih =>
    intro i hr hi
    obtain ⟨hlt, hget, hr2⟩ := drop_c hr
    have h2 : (i : Int) < s.forms.length := by omega
    have e1 := i64_succ (i := i) (by omega)
    refine t_tygreatL _ _ _ ?_
    by_cases h41 : i < 41
    · have h := ih (i + 1) hr2 (by omega)
      have h3 : (i : Int) < 41 := by omega
      have e2 : 41 - i = (41 - (i + 1)) + 1 := by omega
      rw [e2, List.take_succ_cons, List.any_cons]
      simp only [s_tygreatL, OA_join, OA_asm, List.length_map, h2, h3, decide_true, cond_true, Option.bind_some, Tok.untok_tok, OA_chk, Int.natCast_nonneg, nthE, Int.toNat_natCast, List.getElem?_map, hget, Option.map_some, u_asA, u_asC, u_asI, u_asB, u_asL, u_asN, e1, h]
      by_cases b : 40 < f.fields.length
      · have b' : (f.fields.length : Int) > 40 := by omega
        simp [big, b, b']
      · have b' : ¬ ((f.fields.length : Int) > 40) := by omega
        simp [big, b, b']
    · have h3 : ¬ ((i : Int) < 41) := by omega
      have e2 : 41 - i = 0 := by omega
      simp [s_tygreatL, h2, h3, e2]
theorem c_tygreat (s : Sch) (l : List Stp) : tbl E0 9 [schV s, stpsV l] [] = some ([.bool (tyG s l)], []) :=
  t_tygreat s l (by
    have e := c_tygreatL s l s.forms 0 rfl (by omega)
    have g := c_yGreat l
    simp only [Int.natCast_zero, Nat.sub_zero] at e
    simp only [stpsV] at g
    simp only [s_tygreat, OA_chk, cond_true, OA_loop, e, tyG]
    by_cases b : ((s.forms.take 41).any big) = true
    · simp [b]
    · have b : ((s.forms.take 41).any big) = false := by simpa using b
      by_cases c : 40 < s.forms.length
      · have c' : (s.forms.length : Int) > 40 := by omega
        simp [b, c, c']
      · have c' : ¬ ((s.forms.length : Int) > 40) := by omega
        simp [b, c, c', g])
theorem tyG_few {s : Sch} {l : List Stp} (h : tyG s l = false) : Few s ∧ l.length ≤ 60 ∧ ∀ x ∈ l, x.sml := by
  unfold tyG at h
  simp only [greatT, Bool.or_eq_false_iff, decide_eq_false_iff_not, List.any_eq_false, big, decide_eq_true_eq] at h
  refine ⟨⟨by omega, fun f hf => ?_⟩, by omega, fun x hx => ?_⟩
  · have := h.1 f (by rw [List.take_of_length_le (by omega)]; exact hf)
    omega
  · have := h.2.2.1 x (by rw [List.take_of_length_le (by omega)]; exact hx)
    simp only [bigT, Bool.or_eq_true, decide_eq_true_eq, not_or] at this
    exact ⟨by omega, by omega⟩
theorem onS_err {s : Sch} {x : Stp} (h : (onS s x).2 ≠ 0) : (onS s x).1 = sch0 := by
  have o : ∀ f : Frm, (outS s f).2 ≠ 0 → (outS s f).1 = sch0 := by
    intro f hf
    unfold outS at hf ⊢
    split at hf
    · simp at hf
    · rename_i c; rw [if_neg c]
  unfold onS at h ⊢
  by_cases g0 : (!(schS s) || (!(tRightS x) || decide (10 < x.op))) = true
  · rw [if_pos g0]
  · rw [if_neg g0] at h ⊢
    by_cases h4 : namesS s x ≠ 0
    · rw [if_pos h4]
    · rw [if_neg h4] at h ⊢
      by_cases h9 : x.op = 9
      · rw [if_pos h9] at h ⊢; exact o _ h
      · rw [if_neg h9] at h ⊢
        by_cases o1 : x.op = 1
        · rw [if_pos o1] at h ⊢; exact o _ h
        · rw [if_neg o1] at h ⊢
          by_cases o10 : x.op = 10
          · rw [if_pos o10] at h ⊢; exact o _ h
          · rw [if_neg o10] at h ⊢
            split
            · rfl
            · rename_i g hg
              rw [hg] at h
              simp only at h
              by_cases t : (typesS g x).2 = true
              · rw [if_pos t] at h ⊢
                by_cases e : (newS (oldS s x) x (typesS g x).1).isEmpty = true
                · rw [if_pos e]
                · rw [if_neg e] at h ⊢; exact o _ h
              · rw [if_neg t]
theorem sch0_sml : Sml sch0 := ⟨by simp [sch0], by simp [sch0]⟩
theorem onS_sml (s : Sch) (x : Stp) : Sml (onS s x).1 := by
  by_cases h : (onS s x).2 = 0
  · exact (few_of (on_right h)).sml
  · rw [onS_err h]; exact sch0_sml
theorem all_sml : ∀ (l : List Stp) (i : Nat) (s : Sch), Few s → Sml (allS s i l).1
  | [], i, s, h => h.sml
  | x :: l, i, s, h => by
    unfold allS
    by_cases e : (onS s x).2 = 0
    · rw [if_pos e]; exact all_sml l (i + 1) _ (few_of (on_right e))
    · rw [if_neg e]; exact sch0_sml
theorem rising_gt : ∀ (l : List Frm) (n : Int), risingS n l = true → ∀ f ∈ l, n < f.id
  | [], _, _, f, hf => by simp at hf
  | g :: l, n, h, f, hf => by
    simp only [risingS, Bool.and_eq_true, decide_eq_true_eq] at h
    rcases List.mem_cons.1 hf with rfl | hf
    · exact h.1.2
    · have := rising_gt l g.id h.2 f hf
      have := h.1.2
      omega
theorem find_mem : ∀ (l : List Frm) (n : Int), risingS n l = true → ∀ f ∈ l, ∃ j : Nat, findS l f.id = (j : Int) ∧ l[j]? = some f
  | [], _, _, f, hf => by simp at hf
  | g :: l, n, h, f, hf => by
    simp only [risingS, Bool.and_eq_true, decide_eq_true_eq] at h
    rcases List.mem_cons.1 hf with rfl | hf
    · exact ⟨0, by rw [find_cons, if_pos rfl]; rfl, rfl⟩
    · have g1 := rising_gt l g.id h.2 f hf
      obtain ⟨j, h1, h2⟩ := find_mem l g.id h.2 f hf
      refine ⟨j + 1, ?_, by simpa using h2⟩
      rw [find_cons, if_neg (by omega), h1, if_neg (by omega)]
      rfl
theorem body_mem (f : Frm) : ∀ (l : List Frm) (b : Bool), ∀ g ∈ l, g.id ≠ f.id → g ∈ bodyS f b l
  | [], _, g, hg, _ => by simp at hg
  | a :: l, b, g, hg, hn => by
    simp only [bodyS, List.mem_append]
    rcases List.mem_cons.1 hg with rfl | hg
    · exact .inr (.inl (by simp [hn]))
    · exact .inr (.inr (body_mem f l _ g hg hn))
theorem on_stays {s : Sch} {x : Stp} (h : (onS s x).2 = 0) : (onS s x).1.ver = s.ver ∧ ∀ f ∈ s.forms, f.id ≠ x.form → ∃ j : Nat, findS (onS s x).1.forms f.id = (j : Int) ∧ (onS s x).1.forms[j]? = some f := by
  have r := on_right h
  obtain ⟨g, e1, e2, _⟩ := on_out h
  rw [e2] at h
  have o := (out_right h).2
  rw [← e2] at o
  refine ⟨by rw [o], fun f hf hn => ?_⟩
  have r2 : risingS (-1) (onS s x).1.forms = true := by
    unfold schS at r
    simp only [Bool.and_eq_true] at r
    exact r.2
  refine find_mem _ _ r2 f ?_
  rw [o]
  simp only [formsS, List.mem_append]
  exact .inl (body_mem g _ _ f hf (by rw [e1]; exact hn))
theorem c_awake16 : tbl E0 10 [] [] = some ([.bool true], []) := tbl_iff.2 ⟨60, by kernel_rfl⟩
theorem c_TypingAll (s : Sch) (l : List Stp) (hx : ∀ x ∈ l, x.ok) : tbl E0 4 [schV s, stpsV l] [] = some ([.bool true], []) := t_TypingAll s l (by
  have g := c_tygreat s l
  rcases bor (tyG s l) with hb | hb
  · simp only [schV, frmsV, stpsV, hb] at g
    simp only [s_TypingAll, OA_chk, cond_true, OA_callx, g, Option.bind_some, u_asC, u_asB, u_asN, c_awake16]
  · obtain ⟨hs, hl, hm⟩ := tyG_few hb
    have c1 := c_gAll s l hs (by omega) (fun x h => ⟨hm x h, hx x h⟩)
    have c2 := c_zAll s l hs (by omega) hm
    have fs := all_sml l 0 s hs
    have c3 := c_ySame (allS s 0 l).1 (allS s 0 l).1 fs
    simp only [schV, frmsV, stpsV, hb] at g c1 c2 c3
    simp only [s_TypingAll, OA_chk, cond_true, cond_false, OA_callx, g, c1, c2, c3, Option.bind_some, OA_join, Tok.untok_tok, u_asC, u_asA, u_asI, u_asB, u_asL, u_asN, c_awake16, decide_true, beq_self_eq_true])
theorem c_TypingRightL (s : Sch) (x : Stp) (hs : Few s) (h : (onS s x).2 = 0) : ∀ (r : List Frm) (i : Nat), s.forms.drop i = r →
    ltbl E0 5 0 13 [.int .i64 i] [[.int .i64 s.ver, frmsV s.forms], stpC x, [.int .i64 (onS s x).1.ver, frmsV (onS s x).1.forms]] = some (1, [], []) := by
  have hl := hs.1
  obtain ⟨_, st⟩ := on_stays h
  have fs := onS_sml s x
  intro r
  induction r with
  | nil =>
    intro i hr
    have h : s.forms.length ≤ i := by simpa using hr
    refine t_TypingRightL _ _ _ _ ?_
    have : ¬ ((i : Int) < s.forms.length) := by omega
    simp [s_TypingRightL, this]
  | cons f r ih =>
    intro i hr
    obtain ⟨hlt, hget, hr2⟩ := drop_c hr
    have h2 : (i : Int) < s.forms.length := by omega
    have e1 := i64_succ (i := i) (by omega)
    have e := ih (i + 1) hr2
    have c1 := c_yFind (onS s x).1 f.id fs
    refine t_TypingRightL _ _ _ _ ?_
    simp only [schV, frmsV, stpC, intsV, fldsV] at c1 e ⊢
    simp only [s_TypingRightL, OA_asm, List.length_map, h2, decide_true, cond_true, OA_chk, Int.natCast_nonneg, nthE, Int.toNat_natCast, List.getElem?_map, hget, Option.map_some, u_asA, u_asC, u_asI, u_asB, u_asL, u_asN, OA_callx, frmV, fldsV, c1, Option.bind_some, e1]
    by_cases hn : f.id = x.form
    · have hn' : (f.id != x.form) = false := by simp [hn]
      simp only [hn', cond_false, e]
    · have hn' := bne_t hn
      obtain ⟨j, j1, j2⟩ := st f (mem_drop hr) hn
      have j3 : ¬ ((j : Int) < 0) := by omega
      have c2 := c_ySameForm f f (by have := hs.2 f (mem_drop hr); omega)
      simp only [frmV, fldsV] at c2
      simp only [hn', cond_true, cond_false, j1, j3, decide_false, OA_chk, Int.natCast_nonneg, decide_true, nthE, Int.toNat_natCast, List.getElem?_map, j2, Option.map_some, u_asA, u_asC, u_asI, u_asB, u_asL, u_asN, OA_callx, frmV, fldsV, c2, Option.bind_some, Bool.not_true, e]
theorem c_TypingRight (s : Sch) (x : Stp) (hso : s.ok) (hx : x.ok) : tbl E0 5 [schV s, stpV x] [] = some ([.bool true], []) := t_TypingRight s x (by
  have g := c_tygreat s [x]
  rcases bor (tyG s [x]) with hb | hb
  · simp only [schV, frmsV, stpsV, List.map_cons, List.map_nil, stpV, stpC, intsV, fldsV, hb] at g
    simp only [s_TypingRight, OA_chk, cond_true, OA_callx, g, Option.bind_some, u_asC, u_asB, u_asN, c_awake16]
  · obtain ⟨hs, _, hm⟩ := tyG_few hb
    have c1 := c_gOn s x hs (hm x (by simp)) hx
    have c2 := c_sPrint s hso hs.sml
    obtain ⟨b, eb⟩ : ∃ b : List UInt8, (if schS s then encB (schB s) else []) = encB b := by
      by_cases q : schS s = true
      · exact ⟨schB s, by rw [if_pos q]⟩
      · exact ⟨[], by rw [if_neg q]; rfl⟩
    rw [eb] at c2
    have fs := onS_sml s x
    have c3 := c_ysRight (onS s x).1 fs
    simp only [schV, frmsV, stpsV, List.map_cons, List.map_nil, stpV, stpC, intsV, fldsV, hb] at g c1 c2 c3
    simp only [s_TypingRight, OA_chk, cond_true, cond_false, OA_callx, g, c1, c2, Option.bind_some, u_asC, u_asA, u_asI, u_asB, u_asL, u_asN, orFail, bytesOf_encB, beq_self_eq_true, Bool.not_true, Bool.false_beq]
    by_cases h : (onS s x).2 = 0
    · have h' : ((onS s x).2 != 0) = false := by simp [h]
      have cL := c_TypingRightL s x hs h s.forms 0 rfl
      have v := (on_stays h).1
      have r := on_right h
      simp only [schV, frmsV, stpC, intsV, fldsV, Int.natCast_zero] at cL
      rw [v] at cL c3
      simp only [h', cond_false, OA_join, OA_chk, OA_callx, c3, r, Option.bind_some, u_asC, u_asB, u_asN, Bool.not_true, v, bne_self_eq_false, Tok.untok_tok, OA_loop]
      simp only [cL, Option.bind_some, nbeq, u_asC, u_asB, u_asN, OA_callx, c_awake16, cond_true, cond_false, decide_true, decide_false, (by decide : (1 : Nat) ≠ 0)]
    · have h' := bne_t h
      have e := onS_err h
      simp only [h', cond_true, OA_join, OA_asm, e, sch0, List.map_nil, List.length_nil, Int.natCast_zero, beq_self_eq_true, OA_callx, c_awake16, Option.bind_some, u_asC, u_asB, u_asN, Tok.untok_tok])
theorem l_TypingAll (d0 d1 : DataW H) (xs : List AV) (hf : FitAll T0 9 Try.f4.params.toList [d0, d1] xs) (hk : (DataW.weightsEach Try.prog (Try.f4.params.toList ++ Rows.typingAllSpec.plain.varTypes Try.prog) ([d0, d1] ++ [])).all (· ≤ reachBytes) = true) :
    tbl E0 4 xs [] = some ([.bool true], []) := by
  obtain ⟨x, ys, y, zs, rfl, h1, h2, h3, h4⟩ := fitAll_two (t := 24) (u := 34) hf
  obtain ⟨s, hs, rfl⟩ := fit_sch h1
  obtain ⟨l, hl, rfl⟩ := fit_stps h3
  have e1 := elem_agg (by kernel_rfl) h2
  have e2 := elem_one (by kernel_rfl) h4
  injection e2 with e2
  subst e1; subst e2
  exact c_TypingAll s l hl
theorem l_TypingRight (d0 d1 : DataW H) (xs : List AV) (hf : FitAll T0 9 Try.f5.params.toList [d0, d1] xs) (hk : (DataW.weightsEach Try.prog (Try.f5.params.toList ++ Rows.typingRightSpec.plain.varTypes Try.prog) ([d0, d1] ++ [])).all (· ≤ reachBytes) = true) :
    tbl E0 5 xs [] = some ([.bool true], []) := by
  obtain ⟨x, ys, y, zs, rfl, h1, h2, h3, h4⟩ := fitAll_two (t := 24) (u := 32) hf
  obtain ⟨s, hs, rfl⟩ := fit_sch h1
  obtain ⟨t, ht, rfl⟩ := fit_stp h3
  have e1 := elem_agg (by kernel_rfl) h2
  have e2 := elem_agg (by kernel_rfl) h4
  subst e1; subst e2
  exact c_TypingRight s t hs ht
end Go.Proofs.Ytalpknofimglbaa.V
namespace Go.Proofs.Ytalpknofimglbaa.typingAll
open Go Go.ChangeShapes Go.WideShapes Go.ChangeAt Go.RowKit Go.Proofs.Ytalpknofimglbaa.V
theorem own : ownKnob Try.prog.godebug = none := by kernel_rfl
set_option maxRecDepth 100000 in
theorem contract (H : Type) (enc : TypeId × Value → H) (W : World) (base : Nat) (args : Array Value) (ds gs : List (DataW H)) (before : List MemPlace)
    (hval : ∀ (j : Nat) t v, Try.f4.params[j]? = some t → args[j]? = some v → Value.okWide Try.prog W .any base t v)
    (hW : DataW.Whole enc Try.prog Try.f4.params.toList Rows.typingAllSpec.vars false W args.toList ds gs before) (hk : (DataW.weightsEach Try.prog (Try.f4.params.toList ++ Rows.typingAllSpec.plain.varTypes Try.prog) (ds ++ gs)).all (· ≤ reachBytes) = true) :
    Calls Try.prog 4 args W fun e W' => ∃ v, e = .returned v ∧ Rows.typingAllSpec.post enc Try.prog Try.f4 false true false false W args v W' := by
  obtain ⟨p, q, hA, hV, hps, hfz, hnd⟩ := id hW
  obtain ⟨rfl, rfl⟩ := trodVars_none hV
  have hlen := trodAll_length hA
  obtain ⟨d0, d1, rfl⟩ : ∃ d0 d1, ds = [d0, d1] := by
    match ds, hlen with
    | [d0, d1], _ => exact ⟨d0, d1, rfl⟩
  refine (law_calls (E := E0) E0_ok (m := 9) (ts := Try.f4.params.toList) (by kernel_rfl) (fun j t v h1 h2 => hval j t v (by simpa using h1) (by simpa using h2)) hA (fun xs hf => l_TypingAll d0 d1 xs hf hk)).mono fun e W' ⟨he, bel⟩ => ?_
  subst he
  exact ⟨_, rfl, law_post (tb := 4) (by kernel_rfl) (by kernel_rfl) (by kernel_rfl) Try.underlying4 rfl rfl hW hA bel⟩
set_option maxRecDepth 100000 in
theorem lifted (os : Os) (started : os.Started) (H : Type) (enc : TypeId × Value → H) :
    ReturnsInHanded {} Try.checked os 4 .any (Rows.typingAllSpec.pre6 enc Try.prog Try.f4 Rows.typingAllRow.domain false) (Rows.typingAllSpec.post enc Try.prog Try.f4 false true false false) := by
  refine returnsInHanded_of_change_sized (C := Try.checked) own started (by kernel_rfl) Try.func4
    (ChangeSpec.witness6 (enc := enc) (C := Try.checked) false ⟨#[], #[.agg #[.int .i64 0, .slice none 0 0], .slice none 0 0], []⟩ 9 (by kernel_rfl) (by kernel_rfl) (by kernel_rfl) (by kernel_rfl)) ?_
  intro W base args ds gs before hval hW _ hk _
  exact contract H enc W base args ds gs before hval hW hk
theorem proved : Rows.TypingAllSaid :=
  OpenClaim.holds_of_wide 4 Try.f4 rfl rfl rfl rfl rfl rfl rfl ⟨rfl, rfl, rfl, rfl, rfl⟩ rfl rfl rfl rfl rfl (by kernel_rfl) Try.func4 (by kernel_rfl)
    (of_decide_eq_true (by kernel_rfl)) (by unfold Func.isWrapper; first | (rw [if_pos (by decide +kernel)]; kernel_rfl) | (rw [if_neg (by decide +kernel)]; exact ⟨rfl, rfl⟩))
    (fun os started H enc _ => lifted os started H enc)
end Go.Proofs.Ytalpknofimglbaa.typingAll
namespace Go.Proofs.Ytalpknofimglbaa
theorem typingAll_holds : Rows.TypingAllSaid := typingAll.proved
end Go.Proofs.Ytalpknofimglbaa
namespace Go.Proofs.Ytalpknofimglbaa.typingRight
open Go Go.ChangeShapes Go.WideShapes Go.ChangeAt Go.RowKit Go.Proofs.Ytalpknofimglbaa.V
theorem own : ownKnob Try.prog.godebug = none := by kernel_rfl
set_option maxRecDepth 100000 in
theorem contract (H : Type) (enc : TypeId × Value → H) (W : World) (base : Nat) (args : Array Value) (ds gs : List (DataW H)) (before : List MemPlace)
    (hval : ∀ (j : Nat) t v, Try.f5.params[j]? = some t → args[j]? = some v → Value.okWide Try.prog W .any base t v)
    (hW : DataW.Whole enc Try.prog Try.f5.params.toList Rows.typingRightSpec.vars false W args.toList ds gs before) (hk : (DataW.weightsEach Try.prog (Try.f5.params.toList ++ Rows.typingRightSpec.plain.varTypes Try.prog) (ds ++ gs)).all (· ≤ reachBytes) = true) :
    Calls Try.prog 5 args W fun e W' => ∃ v, e = .returned v ∧ Rows.typingRightSpec.post enc Try.prog Try.f5 false true false false W args v W' := by
  obtain ⟨p, q, hA, hV, hps, hfz, hnd⟩ := id hW
  obtain ⟨rfl, rfl⟩ := trodVars_none hV
  have hlen := trodAll_length hA
  obtain ⟨d0, d1, rfl⟩ : ∃ d0 d1, ds = [d0, d1] := by
    match ds, hlen with
    | [d0, d1], _ => exact ⟨d0, d1, rfl⟩
  refine (law_calls (E := E0) E0_ok (m := 9) (ts := Try.f5.params.toList) (by kernel_rfl) (fun j t v h1 h2 => hval j t v (by simpa using h1) (by simpa using h2)) hA (fun xs hf => l_TypingRight d0 d1 xs hf hk)).mono fun e W' ⟨he, bel⟩ => ?_
  subst he
  exact ⟨_, rfl, law_post (tb := 4) (by kernel_rfl) (by kernel_rfl) (by kernel_rfl) Try.underlying4 rfl rfl hW hA bel⟩
set_option maxRecDepth 100000 in
theorem lifted (os : Os) (started : os.Started) (H : Type) (enc : TypeId × Value → H) :
    ReturnsInHanded {} Try.checked os 5 .any (Rows.typingRightSpec.pre6 enc Try.prog Try.f5 Rows.typingRightRow.domain false) (Rows.typingRightSpec.post enc Try.prog Try.f5 false true false false) := by
  refine returnsInHanded_of_change_sized (C := Try.checked) own started (by kernel_rfl) Try.func5
    (ChangeSpec.witness6 (enc := enc) (C := Try.checked) false ⟨#[], #[.agg #[.int .i64 0, .slice none 0 0], .agg #[.int .i64 0, .int .i64 0, .int .i64 0, .int .i64 0, .int .i64 0, .int .i64 0, .int .i64 0, .int .i64 0, .int .i64 0, .int .i64 0, .int .i64 0, .int .i64 0, .int .i64 0, .string ⟨#[]⟩, .slice none 0 0, .slice none 0 0]], []⟩ 9 (by kernel_rfl) (by kernel_rfl) (by kernel_rfl) (by kernel_rfl)) ?_
  intro W base args ds gs before hval hW _ hk _
  exact contract H enc W base args ds gs before hval hW hk
theorem proved : Rows.TypingRightSaid :=
  OpenClaim.holds_of_wide 5 Try.f5 rfl rfl rfl rfl rfl rfl rfl ⟨rfl, rfl, rfl, rfl, rfl⟩ rfl rfl rfl rfl rfl (by kernel_rfl) Try.func5 (by kernel_rfl)
    (of_decide_eq_true (by kernel_rfl)) (by unfold Func.isWrapper; first | (rw [if_pos (by decide +kernel)]; kernel_rfl) | (rw [if_neg (by decide +kernel)]; exact ⟨rfl, rfl⟩))
    (fun os started H enc _ => lifted os started H enc)
end Go.Proofs.Ytalpknofimglbaa.typingRight
namespace Go.Proofs.Ytalpknofimglbaa
theorem typingRight_holds : Rows.TypingRightSaid := typingRight.proved
end Go.Proofs.Ytalpknofimglbaa
