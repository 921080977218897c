/- Part 4 of the proof that: Manifests' bytes are as the document says: ManifestBack. -/
import Derived.Test.YtmpfeofeokmooaaKCc
set_option linter.unusedVariables false
set_option linter.unusedSimpArgs false
namespace Go.Proofs.Ytmpfeofeokmooaa.V
open Go
open AV (int lst agg str bool ref clo)
open List (map)
abbrev penA (b : List AV) (e : Int) : List (Nat × List AV) := [(0, [.lst (.own (.E 0 0)) 1 b, .int .i64 e])]
abbrev penV (b : List UInt8) (e : Int) : List (Nat × List AV) := penA (encB b) e
abbrev eyeV (b : List UInt8) (e : Int) : List (Nat × List AV) := [(0, [.lst .ro 1 (encB b), .int .i64 e])]
def s_put {α : Type} (A : Alg α) (b : List AV) (m : List AV) (e : Int) (kc : List AV → List (Nat × List AV) → α) : α :=
  A.chk (decide ((b.length + m.length) * 1 ≤ 211106232532992)) (A.chk true (kc [] [(0, [lst (.own (.E 0 0)) 1 (b ++ m), int .i64 e])]))
def s_groups {α : Type} (A : Alg α) (b : List AV) (u : Int) (e : Int) (kc : List AV → List (Nat × List AV) → α) : α :=
  A.loop 0 [int .u64 u] [[lst (.own (.O 0 0)) 1 b, int .i64 e]] fun j0 l1 l2 => bif (j0.beq 1) then (asC A l1 fun v3 l4 => asI A .u64 v3 fun n5 => asN A l4 (asC A l2 fun l6 l7 => asC A l6 fun v8 l9 => asOwn A 1 v8 fun x10 l11 => bif (x10.beq (.O (0 : Nat) (0 : Nat))) then (asC A l9 fun v12 l13 => asI A .i64 v12 fun n14 => asN A l13 (asN A l7 (A.call 108 [ref 0 0, lst .ro 1 [int .u8 (IntKind.u8.wrap n5)]] [(0, [lst (.own (.E 0 0)) 1 l11, int .i64 n14])] fun l15 l16 => asC A l16 fun x17 l18 => bif (x17.1.beq 0) then (asC A x17.2 fun v19 l20 => asOwn A 1 v19 fun x21 l22 => asC A l20 fun v23 l24 => asI A .i64 v23 fun n25 => asN A l24 (asN A l15 (asN A l18 (kc [] [(0, [lst (.own (.E 0 0)) 1 l22, int .i64 n25])])))) else A.fail))) else A.fail)) else A.fail
def s_groupsL {α : Type} (A : Alg α) (b : List AV) (u : Int) (e : Int) (next : List AV → List (List AV) → α) (kc : Nat → List AV → List (List AV) → α) : α :=
  bif (decide (u ≥ (128 : Int))) then (A.call 108 [ref 0 0, lst .ro 1 [int .u8 (bits Go.BinOp.or IntKind.u8 (IntKind.u8.wrap u) (128 : Int))]] [(0, [lst (.own (.E 0 0)) 1 b, int .i64 e])] fun l0 l1 => asC A l1 fun x2 l3 => bif (x2.1.beq 0) then (asC A x2.2 fun v4 l5 => asOwn A 1 v4 fun x6 l7 => asC A l5 fun v8 l9 => asI A .i64 v8 fun n10 => asN A l9 (asN A l0 (asN A l3 (A.chk true (next [int .u64 (u.fdiv ((2 : Int) ^ (7 : Nat)))] [[lst (.own (.O 0 0)) 1 l7, int .i64 n10]]))))) else A.fail) else (kc 1 [int .u64 u] [[lst (.own (.O 0 0)) 1 b, int .i64 e]])
def s_PCount {α : Type} (A : Alg α) (b : List AV) (n : Int) (e : Int) (kc : List AV → List (Nat × List AV) → α) : α :=
  bif (decide (n < (0 : Int))) then (A.chk true (kc [] [(0, [lst (.own (.E 0 0)) 1 b, int .i64 2])])) else (A.call 107 [ref 0 0, int .u64 (IntKind.u64.wrap n)] [(0, [lst (.own (.E 0 0)) 1 b, int .i64 e])] fun l0 l1 => asC A l1 fun x2 l3 => bif (x2.1.beq 0) then (asC A x2.2 fun v4 l5 => asOwn A 1 v4 fun x6 l7 => asC A l5 fun v8 l9 => asI A .i64 v8 fun n10 => asN A l9 (asN A l0 (asN A l3 (kc [] [(0, [lst (.own (.E 0 0)) 1 l7, int .i64 n10])])))) else A.fail)
def s_PNum {α : Type} (A : Alg α) (b : List AV) (n : Int) (e : Int) (kc : List AV → List (Nat × List AV) → α) : α :=
  A.chk true (A.chk true (A.call 107 [ref 0 0, int .u64 (bits Go.BinOp.xor IntKind.u64 (IntKind.u64.wrap (IntKind.u64.wrap n * (2 : Int) ^ (1 : Nat))) (IntKind.u64.wrap (n.fdiv ((2 : Int) ^ (63 : Nat)))))] [(0, [lst (.own (.E 0 0)) 1 b, int .i64 e])] fun l0 l1 => asC A l1 fun x2 l3 => bif (x2.1.beq 0) then (asC A x2.2 fun v4 l5 => asOwn A 1 v4 fun x6 l7 => asC A l5 fun v8 l9 => asI A .i64 v8 fun n10 => asN A l9 (asN A l0 (asN A l3 (kc [] [(0, [lst (.own (.E 0 0)) 1 l7, int .i64 n10])])))) else A.fail))
def s_PWord {α : Type} (A : Alg α) (b : List AV) (n : Int) (e : Int) (kc : List AV → List (Nat × List AV) → α) : α :=
  A.chk true (A.chk true (A.chk true (A.call 108 [ref 0 0, lst .ro 1 [int .u8 (IntKind.u8.wrap (n.fdiv ((2 : Int) ^ (24 : Nat)))), int .u8 (IntKind.u8.wrap (n.fdiv ((2 : Int) ^ (16 : Nat)))), int .u8 (IntKind.u8.wrap (n.fdiv ((2 : Int) ^ (8 : Nat)))), int .u8 (IntKind.u8.wrap n)]] [(0, [lst (.own (.E 0 0)) 1 b, int .i64 e])] fun l0 l1 => asC A l1 fun x2 l3 => bif (x2.1.beq 0) then (asC A x2.2 fun v4 l5 => asOwn A 1 v4 fun x6 l7 => asC A l5 fun v8 l9 => asI A .i64 v8 fun n10 => asN A l9 (asN A l0 (asN A l3 (kc [] [(0, [lst (.own (.E 0 0)) 1 l7, int .i64 n10])])))) else A.fail)))
def s_PText {α : Type} (A : Alg α) (b : List AV) (s : List UInt8) (e : Int) (kc : List AV → List (Nat × List AV) → α) : α :=
  A.asm (s.length ≤ maxL) (A.call 59 [ref 0 0, int .i64 (↑s.length : Int)] [(0, [lst (.own (.E 0 0)) 1 b, int .i64 e])] fun l0 l1 => asC A l1 fun x2 l3 => bif (x2.1.beq 0) then (asC A x2.2 fun v4 l5 => asOwn A 1 v4 fun x6 l7 => asC A l5 fun v8 l9 => asI A .i64 v8 fun n10 => asN A l9 (asN A l0 (asN A l3 (A.call 108 [ref 0 0, lst .ro 1 (encB s)] [(0, [lst (.own (.E 0 0)) 1 l7, int .i64 n10])] fun l11 l12 => asC A l12 fun x13 l14 => bif (x13.1.beq 0) then (asC A x13.2 fun v15 l16 => asOwn A 1 v15 fun x17 l18 => asC A l16 fun v19 l20 => asI A .i64 v19 fun n21 => asN A l20 (asN A l11 (asN A l14 (kc [] [(0, [lst (.own (.E 0 0)) 1 l18, int .i64 n21])])))) else A.fail)))) else A.fail)
def s_CloneB {α : Type} (A : Alg α) (b : List UInt8) (kc : List AV → List (Nat × List AV) → α) : α :=
  nilEq A Md.ro (encB b) fun b0 => bif b0 then (kc [lst .ro 1 []] []) else (A.chk (decide (((0 : Nat) + (encB b).length) * 1 ≤ 211106232532992)) (kc [lst .ro 1 ([] ++ encB b)] []))
def s_PDone {α : Type} (A : Alg α) (b : List AV) (e : Int) (kc : List AV → List (Nat × List AV) → α) : α :=
  bif (e != (0 : Int)) then (kc [lst .ro 1 [], int .i64 e] [(0, [lst (.own (.E 0 0)) 1 b, int .i64 e])]) else (A.callx 109 [lst .ro 1 b] fun l0 => asC A l0 fun v1 l2 => asL A 1 v1 fun l3 => asN A l2 (kc [lst .ro 1 l3, int .i64 0] [(0, [lst (.own (.E 0 0)) 1 b, int .i64 e])]))
def s_New {α : Type} (A : Alg α) (kc : List AV → List (Nat × List AV) → α) : α :=
  A.chk true (kc [ref 64 0] [(64, [lst (.own (.E 64 0)) 1 [], int .i64 0])])
def s_Of {α : Type} (A : Alg α) (b : List UInt8) (kc : List AV → List (Nat × List AV) → α) : α :=
  A.callx 109 [lst .ro 1 (encB b)] fun l0 => asC A l0 fun v1 l2 => asL A 1 v1 fun l3 => asN A l2 (A.chk true (A.chk true (kc [ref 64 0] [(64, [lst .ro 1 l3, int .i64 0])])))
def s_take {α : Type} (A : Alg α) (b : List UInt8) (e : Int) (n : Int) (kc : List AV → List (Nat × List AV) → α) : α :=
  A.join (fun x0 => x0 (e != (0 : Int))) fun b1 => bif b1 then (kc [lst .ro 1 []] [(0, [lst .ro 1 (encB b), int .i64 e])]) else (A.asm ((encB b).length ≤ maxL) (bif (decide (n > (↑(encB b).length : Int))) then (A.chk true (kc [lst .ro 1 []] [(0, [lst .ro 1 (encB b), int .i64 5])])) else (A.chk (decide ((0 : Int) ≤ (0 : Int)) && decide ((0 : Int) ≤ n) && decide (n ≤ n) && decide (n ≤ (↑(encB b).length : Int))) (A.chk (decide ((0 : Int) ≤ n) && decide (n ≤ (↑(encB b).length : Int)) && decide ((↑(encB b).length : Int) ≤ (↑(encB b).length : Int)) && decide ((↑(encB b).length : Int) ≤ (↑(encB b).length : Int))) (A.chk true (kc [lst .ro 1 (List.drop (0 : Nat) (List.take n.toNat (encB b)))] [(0, [lst .ro 1 (List.drop n.toNat (List.take (↑(encB b).length : Int).toNat (encB b))), int .i64 e])]))))))
def s_left {α : Type} (A : Alg α) (b : List UInt8) (e : Int) (kc : List AV → List (Nat × List AV) → α) : α :=
  kc [lst .ro 1 (encB b)] [(0, [lst .ro 1 (encB b), int .i64 e])]
def s_back {α : Type} (A : Alg α) (b : List UInt8) (c : List UInt8) (e : Int) (f : Int) (kc : List AV → List (Nat × List AV) → α) : α :=
  A.chk true (A.chk true (kc [] [(0, [lst .ro 1 (encB c), int .i64 f])]))
def s_ECount {α : Type} (A : Alg α) (b : List UInt8) (e : Int) (n : Int) (kc : List AV → List (Nat × List AV) → α) : α :=
  A.call 110 [ref 0 0] [(0, [lst .ro 1 (encB b), int .i64 e])] fun l0 l1 => asC A l1 fun x2 l3 => bif (x2.1.beq 0) then (asC A x2.2 fun v4 l5 => asL A 1 v4 fun l6 => asC A l5 fun v7 l8 => asI A .i64 v7 fun n9 => asN A l8 (asC A l0 fun v10 l11 => asL A 1 v10 fun l12 => asN A l11 (asN A l3 (A.call 111 [ref 0 0] [(0, [lst .ro 1 l6, int .i64 n9])] fun l13 l14 => asC A l14 fun x15 l16 => bif (x15.1.beq 0) then (asC A x15.2 fun v17 l18 => asL A 1 v17 fun l19 => asC A l18 fun v20 l21 => asI A .i64 v20 fun n22 => asN A l21 (asC A l13 fun v23 l24 => asI A .u64 v23 fun n25 => asN A l24 (asN A l16 (A.chk true (bif (n25.fdiv ((2 : Int) ^ (63 : Nat)) != (0 : Int)) then (A.call 112 [ref 0 0, lst .ro 1 l12, int .i64 4] [(0, [lst .ro 1 l19, int .i64 n22])] fun l26 l27 => asC A l27 fun x28 l29 => bif (x28.1.beq 0) then (asC A x28.2 fun v30 l31 => asL A 1 v30 fun l32 => asC A l31 fun v33 l34 => asI A .i64 v33 fun n35 => asN A l34 (asN A l26 (asN A l29 (kc [int .i64 0] [(0, [lst .ro 1 l32, int .i64 n35])])))) else A.fail) else (bif (decide (IntKind.i64.wrap n25 > if n < (0 : Int) then (0 : Int) else n)) then (A.call 112 [ref 0 0, lst .ro 1 l12, int .i64 7] [(0, [lst .ro 1 l19, int .i64 n22])] fun l36 l37 => asC A l37 fun x38 l39 => bif (x38.1.beq 0) then (asC A x38.2 fun v40 l41 => asL A 1 v40 fun l42 => asC A l41 fun v43 l44 => asI A .i64 v43 fun n45 => asN A l44 (asN A l36 (asN A l39 (kc [int .i64 0] [(0, [lst .ro 1 l42, int .i64 n45])])))) else A.fail) else (kc [int .i64 (IntKind.i64.wrap n25)] [(0, [lst .ro 1 l19, int .i64 n22])]))))))) else A.fail)))) else A.fail
def s_ENum {α : Type} (A : Alg α) (b : List UInt8) (e : Int) (kc : List AV → List (Nat × List AV) → α) : α :=
  A.call 111 [ref 0 0] [(0, [lst .ro 1 (encB b), int .i64 e])] fun l0 l1 => asC A l1 fun x2 l3 => bif (x2.1.beq 0) then (asC A x2.2 fun v4 l5 => asL A 1 v4 fun l6 => asC A l5 fun v7 l8 => asI A .i64 v7 fun n9 => asN A l8 (asC A l0 fun v10 l11 => asI A .u64 v10 fun n12 => asN A l11 (asN A l3 (A.chk true (kc [int .i64 (bits Go.BinOp.xor IntKind.i64 (IntKind.i64.wrap (n12.fdiv ((2 : Int) ^ (1 : Nat)))) (IntKind.i64.wrap ((0 : Int) - IntKind.i64.wrap (bits Go.BinOp.and IntKind.u64 n12 (1 : Int)))))] [(0, [lst .ro 1 l6, int .i64 n9])]))))) else A.fail
def s_EWord {α : Type} (A : Alg α) (b : List UInt8) (e : Int) (kc : List AV → List (Nat × List AV) → α) : α :=
  A.call 113 [ref 0 0, int .i64 4] [(0, [lst .ro 1 (encB b), int .i64 e])] fun l0 l1 => asC A l1 fun x2 l3 => bif (x2.1.beq 0) then (asC A x2.2 fun v4 l5 => asL A 1 v4 fun l6 => asC A l5 fun v7 l8 => asI A .i64 v7 fun n9 => asN A l8 (asC A l0 fun v10 l11 => asL A 1 v10 fun l12 => asN A l11 (asN A l3 (A.asm (l12.length ≤ maxL) (A.loop 3 [int .u32 0, lst .ro 1 l12, int .i64 (↑l12.length : Int), int .i64 0] [[lst .ro 1 l6, int .i64 n9]] fun j13 l14 l15 => bif (j13.beq 1) then (asC A l14 fun v16 l17 => asI A .u32 v16 fun n18 => asN A l17 (asC A l15 fun l19 l20 => asC A l19 fun v21 l22 => asL A 1 v21 fun l23 => asC A l22 fun v24 l25 => asI A .i64 v24 fun n26 => asN A l25 (asN A l20 (kc [int .u32 n18] [(0, [lst .ro 1 l23, int .i64 n26])])))) else A.fail))))) else A.fail
def s_EText {α : Type} (A : Alg α) (b : List UInt8) (e : Int) (n : Int) (kc : List AV → List (Nat × List AV) → α) : α :=
  A.call 110 [ref 0 0] [(0, [lst .ro 1 (encB b), int .i64 e])] fun l0 l1 => asC A l1 fun x2 l3 => bif (x2.1.beq 0) then (asC A x2.2 fun v4 l5 => asL A 1 v4 fun l6 => asC A l5 fun v7 l8 => asI A .i64 v7 fun n9 => asN A l8 (asC A l0 fun v10 l11 => asL A 1 v10 fun l12 => asN A l11 (asN A l3 (A.call 63 [ref 0 0, int .i64 n] [(0, [lst .ro 1 l6, int .i64 n9])] fun l13 l14 => asC A l14 fun x15 l16 => bif (x15.1.beq 0) then (asC A x15.2 fun v17 l18 => asL A 1 v17 fun l19 => asC A l18 fun v20 l21 => asI A .i64 v20 fun n22 => asN A l21 (asC A l13 fun v23 l24 => asI A .i64 v23 fun n25 => asN A l24 (asN A l16 (A.call 113 [ref 0 0, int .i64 n25] [(0, [lst .ro 1 l19, int .i64 n22])] fun l26 l27 => asC A l27 fun x28 l29 => bif (x28.1.beq 0) then (asC A x28.2 fun v30 l31 => asL A 1 v30 fun l32 => asC A l31 fun v33 l34 => asI A .i64 v33 fun n35 => asN A l34 (asC A l26 fun v36 l37 => asL A 1 v36 fun l38 => asN A l37 (asN A l29 (A.join (fun x39 => x39 (n35 == (5 : Int))) fun b40 => bif b40 then (A.chk true (orFail A (bytesOf l38) fun l41 => kc [str l41] [(0, [lst .ro 1 l12, int .i64 n35])])) else (orFail A (bytesOf l38) fun l42 => kc [str l42] [(0, [lst .ro 1 l32, int .i64 n35])]))))) else A.fail)))) else A.fail)))) else A.fail
def s_Left {α : Type} (A : Alg α) (b : List UInt8) (e : Int) (kc : List AV → List (Nat × List AV) → α) : α :=
  A.call 110 [ref 0 0] [(0, [lst .ro 1 (encB b), int .i64 e])] fun l0 l1 => asC A l1 fun x2 l3 => bif (x2.1.beq 0) then (asC A x2.2 fun v4 l5 => asL A 1 v4 fun l6 => asC A l5 fun v7 l8 => asI A .i64 v7 fun n9 => asN A l8 (asC A l0 fun v10 l11 => asL A 1 v10 fun l12 => asN A l11 (asN A l3 (A.asm (l12.length ≤ maxL) (kc [int .i64 (↑l12.length : Int)] [(0, [lst .ro 1 l6, int .i64 n9])]))))) else A.fail
def s_Bad {α : Type} (A : Alg α) (b : List UInt8) (e : Int) (kc : List AV → List (Nat × List AV) → α) : α :=
  kc [int .i64 e] [(0, [lst .ro 1 (encB b), int .i64 e])]
def s_End {α : Type} (A : Alg α) (b : List UInt8) (e : Int) (kc : List AV → List (Nat × List AV) → α) : α :=
  A.call 84 [ref 0 0] [(0, [lst .ro 1 (encB b), int .i64 e])] fun l0 l1 => asC A l1 fun x2 l3 => bif (x2.1.beq 0) then (asC A x2.2 fun v4 l5 => asL A 1 v4 fun l6 => asC A l5 fun v7 l8 => asI A .i64 v7 fun n9 => asN A l8 (asC A l0 fun v10 l11 => asI A .i64 v10 fun n12 => asN A l11 (asN A l3 (bif (n12 != (0 : Int)) then (kc [int .i64 n12] [(0, [lst .ro 1 l6, int .i64 n9])]) else (A.call 86 [ref 0 0] [(0, [lst .ro 1 l6, int .i64 n9])] fun l13 l14 => asC A l14 fun x15 l16 => bif (x15.1.beq 0) then (asC A x15.2 fun v17 l18 => asL A 1 v17 fun l19 => asC A l18 fun v20 l21 => asI A .i64 v20 fun n22 => asN A l21 (asC A l13 fun v23 l24 => asI A .i64 v23 fun n25 => asN A l24 (asN A l16 (bif (decide (n25 > (0 : Int))) then (kc [int .i64 6] [(0, [lst .ro 1 l19, int .i64 n22])]) else (kc [int .i64 0] [(0, [lst .ro 1 l19, int .i64 n22])]))))) else A.fail))))) else A.fail
def s_egroups {α : Type} (A : Alg α) (b : List UInt8) (e : Int) (kc : List AV → List (Nat × List AV) → α) : α :=
  A.join (fun x0 => x0 (e != (0 : Int))) fun b1 => bif b1 then (kc [int .u64 0] [(0, [lst .ro 1 (encB b), int .i64 e])]) else (A.asm ((encB b).length ≤ maxL) (A.loop 5 [int .u64 0, lst .ro 1 (encB b), int .i64 (↑(encB b).length : Int), int .i64 0] [[lst .ro 1 (encB b), int .i64 e]] fun j2 l3 l4 => bif (j2.beq 0) then (asC A l3 fun v5 l6 => asI A .u64 v5 fun n7 => asN A l6 (asC A l4 fun l8 l9 => asC A l8 fun v10 l11 => asL A 1 v10 fun l12 => asC A l11 fun v13 l14 => asI A .i64 v13 fun n15 => asN A l14 (asN A l9 (kc [int .u64 n7] [(0, [lst .ro 1 l12, int .i64 n15])])))) else (bif (j2.beq 1) then (asN A l3 (asC A l4 fun l16 l17 => asC A l16 fun v18 l19 => asL A 1 v18 fun l20 => asC A l19 fun v21 l22 => asI A .i64 v21 fun n23 => asN A l22 (asN A l17 (A.chk true (kc [int .u64 0] [(0, [lst .ro 1 l20, int .i64 5])]))))) else A.fail)))
def s_EWordL {α : Type} (A : Alg α) (l : List UInt8) (b : List UInt8) (x : Int) (m : Int) (i : Int) (e : Int) (next : List AV → List (List AV) → α) (kc : Nat → List AV → List (List AV) → α) : α :=
  bif (decide (i < m)) then (A.chk (decide ((0 : Int) ≤ i)) (nthE A (encB l) i.toNat fun v0 => asI A .u8 v0 fun n1 => A.chk true (next [int .u32 (bits Go.BinOp.or IntKind.u32 (IntKind.u32.wrap (x * (2 : Int) ^ (8 : Nat))) (IntKind.u32.wrap n1)), lst .ro 1 (encB l), int .i64 m, int .i64 (IntKind.i64.wrap (i + (1 : Int)))] [[lst .ro 1 (encB b), int .i64 e]]))) else (kc 1 [int .u32 x] [[lst .ro 1 (encB b), int .i64 e]])
def s_egroupsL {α : Type} (A : Alg α) (l : List UInt8) (b : List UInt8) (u : Int) (m : Int) (i : Int) (e : Int) (next : List AV → List (List AV) → α) (kc : Nat → List AV → List (List AV) → α) : α :=
  bif (decide (i < m)) then (A.chk (decide ((0 : Int) ≤ i)) (nthE A (encB l) i.toNat fun v0 => asI A .u8 v0 fun n1 => A.join (fun x2 => bif (i == (9 : Int)) then (bif (decide (n1 > (1 : Int))) then (x2 true) else (bif (decide (i > (0 : Int))) then (x2 (n1 == (0 : Int))) else (x2 false))) else (bif (decide (i > (0 : Int))) then (x2 (n1 == (0 : Int))) else (x2 false))) fun b3 => bif b3 then (A.chk true (kc 0 [int .u64 0] [[lst .ro 1 (encB b), int .i64 4]])) else (A.chk (decide ((0 : Int) ≤ IntKind.u64.wrap (IntKind.i64.wrap ((7 : Int) * i)))) (bif (decide (n1 < (128 : Int))) then (A.chk (decide ((0 : Int) ≤ IntKind.i64.wrap (i + (1 : Int))) && decide (IntKind.i64.wrap (i + (1 : Int)) ≤ (↑(encB b).length : Int)) && decide ((↑(encB b).length : Int) ≤ (↑(encB b).length : Int)) && decide ((↑(encB b).length : Int) ≤ (↑(encB b).length : Int))) (A.chk true (kc 0 [int .u64 (bits Go.BinOp.or IntKind.u64 u (IntKind.u64.wrap (IntKind.u64.wrap (bits Go.BinOp.andNot IntKind.u8 n1 (128 : Int)) * (2 : Int) ^ Min.min (IntKind.u64.wrap (IntKind.i64.wrap ((7 : Int) * i))).toNat (64 : Nat))))] [[lst .ro 1 (List.drop (IntKind.i64.wrap (i + (1 : Int))).toNat (List.take (↑(encB b).length : Int).toNat (encB b))), int .i64 e]]))) else (next [int .u64 (bits Go.BinOp.or IntKind.u64 u (IntKind.u64.wrap (IntKind.u64.wrap (bits Go.BinOp.andNot IntKind.u8 n1 (128 : Int)) * (2 : Int) ^ Min.min (IntKind.u64.wrap (IntKind.i64.wrap ((7 : Int) * i))).toNat (64 : Nat)))), lst .ro 1 (encB l), int .i64 m, int .i64 (IntKind.i64.wrap (i + (1 : Int)))] [[lst .ro 1 (encB b), int .i64 e]]))))) else (kc 1 [] [[lst .ro 1 (encB b), int .i64 e]])
theorem t_put (b m : List AV) (e : Int) {r : CR} (h : s_put (OA (tbl E0) (ltbl E0 108 0)) b m e (fun r o => some (r, o)) = some r) : tbl E0 108 [.ref 0 0, .lst .ro 1 m] (penA b e) = some r :=
  tbl_of (body := bodyOf Try.f108) Try.func108 (by kernel_rfl) (by kernel_rfl) (by kernel_rfl) (Eq.trans (by kernel_rfl) h)
theorem t_groups (b : List AV) (u : Int) (e : Int) {r : CR} (h : s_groups (OA (tbl E0) (ltbl E0 107 0)) b u e (fun r o => some (r, o)) = some r) : tbl E0 107 [.ref 0 0, .int .u64 u] (penA b e) = some r :=
  tbl_of (body := bodyOf Try.f107) Try.func107 (by kernel_rfl) (by kernel_rfl) (by kernel_rfl) (Eq.trans (by kernel_rfl) h)
theorem t_groupsL (b : List AV) (u : Int) (e : Int) {r : LR} (h : s_groupsL (OA (tbl E0) (ltbl E0 107 0)) b u e (fun vs os => ltbl E0 107 0 0 vs os) (fun j vs os => some (j, vs, os)) = some r) : ltbl E0 107 0 0 [.int .u64 u] [[.lst (.own (.O 0 0)) 1 b, .int .i64 e]] = some r :=
  ltbl_of (body := bodyOf Try.f107) Try.func107 (by kernel_rfl) (by kernel_rfl) (Eq.trans (by kernel_rfl) h)
theorem t_PCount (b : List AV) (n : Int) (e : Int) {r : CR} (h : s_PCount (OA (tbl E0) (ltbl E0 59 0)) b n e (fun r o => some (r, o)) = some r) : tbl E0 59 [.ref 0 0, .int .i64 n] (penA b e) = some r :=
  tbl_of (body := bodyOf Try.f59) Try.func59 (by kernel_rfl) (by kernel_rfl) (by kernel_rfl) (Eq.trans (by kernel_rfl) h)
theorem t_PNum (b : List AV) (n : Int) (e : Int) {r : CR} (h : s_PNum (OA (tbl E0) (ltbl E0 133 0)) b n e (fun r o => some (r, o)) = some r) : tbl E0 133 [.ref 0 0, .int .i64 n] (penA b e) = some r :=
  tbl_of (body := bodyOf Try.f133) Try.func133 (by kernel_rfl) (by kernel_rfl) (by kernel_rfl) (Eq.trans (by kernel_rfl) h)
theorem t_PWord (b : List AV) (n : Int) (e : Int) {r : CR} (h : s_PWord (OA (tbl E0) (ltbl E0 82 0)) b n e (fun r o => some (r, o)) = some r) : tbl E0 82 [.ref 0 0, .int .u32 n] (penA b e) = some r :=
  tbl_of (body := bodyOf Try.f82) Try.func82 (by kernel_rfl) (by kernel_rfl) (by kernel_rfl) (Eq.trans (by kernel_rfl) h)
theorem t_PText (b : List AV) (s : List UInt8) (e : Int) {r : CR} (h : s_PText (OA (tbl E0) (ltbl E0 60 0)) b s e (fun r o => some (r, o)) = some r) : tbl E0 60 [.ref 0 0, .str s] (penA b e) = some r :=
  tbl_of (body := bodyOf Try.f60) Try.func60 (by kernel_rfl) (by kernel_rfl) (by kernel_rfl) (Eq.trans (by kernel_rfl) h)
theorem t_CloneB (b : List UInt8) {r : CR} (h : s_CloneB (OA (tbl E0) (ltbl E0 109 0)) b (fun r o => some (r, o)) = some r) : tbl E0 109 [.lst .ro 1 (encB b)] [] = some r :=
  tbl_of (body := bodyOf Try.f109) Try.func109 (by kernel_rfl) (by kernel_rfl) (by kernel_rfl) (Eq.trans (by kernel_rfl) h)
theorem t_PDone (b : List AV) (e : Int) {r : CR} (h : s_PDone (OA (tbl E0) (ltbl E0 61 0)) b e (fun r o => some (r, o)) = some r) : tbl E0 61 [.ref 0 0] (penA b e) = some r :=
  tbl_of (body := bodyOf Try.f61) Try.func61 (by kernel_rfl) (by kernel_rfl) (by kernel_rfl) (Eq.trans (by kernel_rfl) h)
theorem t_New  {r : CR} (h : s_New (OA (tbl E0) (ltbl E0 58 0))  (fun r o => some (r, o)) = some r) : tbl E0 58 [] [] = some r :=
  tbl_of (body := bodyOf Try.f58) Try.func58 (by kernel_rfl) (by kernel_rfl) (by kernel_rfl) (Eq.trans (by kernel_rfl) h)
theorem t_Of (b : List UInt8) {r : CR} (h : s_Of (OA (tbl E0) (ltbl E0 62 0)) b (fun r o => some (r, o)) = some r) : tbl E0 62 [.lst .ro 1 (encB b)] [] = some r :=
  tbl_of (body := bodyOf Try.f62) Try.func62 (by kernel_rfl) (by kernel_rfl) (by kernel_rfl) (Eq.trans (by kernel_rfl) h)
theorem t_take (b : List UInt8) (e n : Int) {r : CR} (h : s_take (OA (tbl E0) (ltbl E0 113 0)) b e n (fun r o => some (r, o)) = some r) : tbl E0 113 [.ref 0 0, .int .i64 n] (eyeV b e) = some r :=
  tbl_of (body := bodyOf Try.f113) Try.func113 (by kernel_rfl) (by kernel_rfl) (by kernel_rfl) (Eq.trans (by kernel_rfl) h)
theorem t_left (b : List UInt8) (e : Int) {r : CR} (h : s_left (OA (tbl E0) (ltbl E0 110 0)) b e (fun r o => some (r, o)) = some r) : tbl E0 110 [.ref 0 0] (eyeV b e) = some r :=
  tbl_of (body := bodyOf Try.f110) Try.func110 (by kernel_rfl) (by kernel_rfl) (by kernel_rfl) (Eq.trans (by kernel_rfl) h)
theorem t_back (b c : List UInt8) (e f : Int) {r : CR} (h : s_back (OA (tbl E0) (ltbl E0 112 0)) b c e f (fun r o => some (r, o)) = some r) : tbl E0 112 [.ref 0 0, .lst .ro 1 (encB c), .int .i64 f] (eyeV b e) = some r :=
  tbl_of (body := bodyOf Try.f112) Try.func112 (by kernel_rfl) (by kernel_rfl) (by kernel_rfl) (Eq.trans (by kernel_rfl) h)
theorem t_ECount (b : List UInt8) (e n : Int) {r : CR} (h : s_ECount (OA (tbl E0) (ltbl E0 63 0)) b e n (fun r o => some (r, o)) = some r) : tbl E0 63 [.ref 0 0, .int .i64 n] (eyeV b e) = some r :=
  tbl_of (body := bodyOf Try.f63) Try.func63 (by kernel_rfl) (by kernel_rfl) (by kernel_rfl) (Eq.trans (by kernel_rfl) h)
theorem t_ENum (b : List UInt8) (e : Int) {r : CR} (h : s_ENum (OA (tbl E0) (ltbl E0 138 0)) b e (fun r o => some (r, o)) = some r) : tbl E0 138 [.ref 0 0] (eyeV b e) = some r :=
  tbl_of (body := bodyOf Try.f138) Try.func138 (by kernel_rfl) (by kernel_rfl) (by kernel_rfl) (Eq.trans (by kernel_rfl) h)
theorem t_EWord (b : List UInt8) (e : Int) {r : CR} (h : s_EWord (OA (tbl E0) (ltbl E0 83 0)) b e (fun r o => some (r, o)) = some r) : tbl E0 83 [.ref 0 0] (eyeV b e) = some r :=
  tbl_of (body := bodyOf Try.f83) Try.func83 (by kernel_rfl) (by kernel_rfl) (by kernel_rfl) (Eq.trans (by kernel_rfl) h)
theorem t_EText (b : List UInt8) (e n : Int) {r : CR} (h : s_EText (OA (tbl E0) (ltbl E0 64 0)) b e n (fun r o => some (r, o)) = some r) : tbl E0 64 [.ref 0 0, .int .i64 n] (eyeV b e) = some r :=
  tbl_of (body := bodyOf Try.f64) Try.func64 (by kernel_rfl) (by kernel_rfl) (by kernel_rfl) (Eq.trans (by kernel_rfl) h)
theorem t_Left (b : List UInt8) (e : Int) {r : CR} (h : s_Left (OA (tbl E0) (ltbl E0 86 0)) b e (fun r o => some (r, o)) = some r) : tbl E0 86 [.ref 0 0] (eyeV b e) = some r :=
  tbl_of (body := bodyOf Try.f86) Try.func86 (by kernel_rfl) (by kernel_rfl) (by kernel_rfl) (Eq.trans (by kernel_rfl) h)
theorem t_Bad (b : List UInt8) (e : Int) {r : CR} (h : s_Bad (OA (tbl E0) (ltbl E0 84 0)) b e (fun r o => some (r, o)) = some r) : tbl E0 84 [.ref 0 0] (eyeV b e) = some r :=
  tbl_of (body := bodyOf Try.f84) Try.func84 (by kernel_rfl) (by kernel_rfl) (by kernel_rfl) (Eq.trans (by kernel_rfl) h)
theorem t_End (b : List UInt8) (e : Int) {r : CR} (h : s_End (OA (tbl E0) (ltbl E0 65 0)) b e (fun r o => some (r, o)) = some r) : tbl E0 65 [.ref 0 0] (eyeV b e) = some r :=
  tbl_of (body := bodyOf Try.f65) Try.func65 (by kernel_rfl) (by kernel_rfl) (by kernel_rfl) (Eq.trans (by kernel_rfl) h)
theorem t_egroups (b : List UInt8) (e : Int) {r : CR} (h : s_egroups (OA (tbl E0) (ltbl E0 111 0)) b e (fun r o => some (r, o)) = some r) : tbl E0 111 [.ref 0 0] (eyeV b e) = some r :=
  tbl_of (body := bodyOf Try.f111) Try.func111 (by kernel_rfl) (by kernel_rfl) (by kernel_rfl) (Eq.trans (by kernel_rfl) h)
theorem t_EWordL (l b : List UInt8) (x m i e : Int) {r : LR} (h : s_EWordL (OA (tbl E0) (ltbl E0 83 0)) l b x m i e (fun vs os => ltbl E0 83 0 3 vs os) (fun j vs os => some (j, vs, os)) = some r) : ltbl E0 83 0 3 [.int .u32 x, .lst .ro 1 (encB l), .int .i64 m, .int .i64 i] [[.lst .ro 1 (encB b), .int .i64 e]] = some r :=
  ltbl_of (body := bodyOf Try.f83) Try.func83 (by kernel_rfl) (by kernel_rfl) (Eq.trans (by kernel_rfl) h)
theorem t_egroupsL (l b : List UInt8) (u m i e : Int) {r : LR} (h : s_egroupsL (OA (tbl E0) (ltbl E0 111 0)) l b u m i e (fun vs os => ltbl E0 111 0 5 vs os) (fun j vs os => some (j, vs, os)) = some r) : ltbl E0 111 0 5 [.int .u64 u, .lst .ro 1 (encB l), .int .i64 m, .int .i64 i] [[.lst .ro 1 (encB b), .int .i64 e]] = some r :=
  ltbl_of (body := bodyOf Try.f111) Try.func111 (by kernel_rfl) (by kernel_rfl) (Eq.trans (by kernel_rfl) h)
end Go.Proofs.Ytmpfeofeokmooaa.V
namespace Go.Proofs.Ytmpfeofeokmooaa.V
open Go
open AV (int lst agg str bool ref clo)
open List (map)
end Go.Proofs.Ytmpfeofeokmooaa.V
namespace Go.Proofs.Ytmpfeofeokmooaa.V
open Go
def cnt (u : Nat) : List UInt8 := if u < 128 then [byt u] else byt (u % 128 + 128) :: cnt (u / 128)
termination_by u
decreasing_by omega
def cntI (u : Nat) : List UInt8 := if u < 128 then [] else byt (u % 128 + 128) :: cntI (u / 128)
termination_by u
decreasing_by omega
def cntL (u : Nat) : Nat := if u < 128 then u else cntL (u / 128)
termination_by u
decreasing_by omega
theorem cnt_eq (u : Nat) : cnt u = cntI u ++ [byt (cntL u)] := by
  induction u using cnt.induct with
  | case1 u h => rw [cnt, cntI, cntL]; simp [h]
  | case2 u h ih => rw [cnt, cntI, cntL]; simp [h, ih]
theorem cntL_lt (u : Nat) : cntL u < 128 := by
  induction u using cntL.induct with
  | case1 u h => rw [cntL]; simp [h]
  | case2 u h ih => rw [cntL]; simp [h, ih]
theorem cnt_len (k u : Nat) (h : u < 128 ^ (k + 1)) : (cnt u).length ≤ k + 1 := by
  induction k generalizing u with
  | zero => rw [cnt]; simp at h; simp [h]
  | succ k ih =>
    rw [cnt]
    split
    · simp
    · have : u / 128 < 128 ^ (k + 1) := by rw [Nat.div_lt_iff_lt_mul (by omega)]; rw [Nat.pow_succ] at h; exact h
      have := ih _ this
      simp; omega
theorem cnt_len10 {u : Nat} (h : u < 18446744073709551616) : (cnt u).length ≤ 10 := cnt_len 9 u (Nat.lt_of_lt_of_le h (by decide))
theorem cntI_len {u : Nat} (h : u < 18446744073709551616) : (cntI u).length + 1 ≤ 10 := by
  have := cnt_len10 h
  rw [cnt_eq] at this
  simpa using this
theorem c_put (b m : List AV) (e : Int) (h : b.length + m.length ≤ 211106232532992) : tbl E0 108 [.ref 0 0, .lst .ro 1 m] (penA b e) = some ([], penA (b ++ m) e) :=
  t_put b m e (by simp [s_put, h, penA])
theorem fdiv7 (u : Nat) : (u : Int).fdiv ((2 : Int) ^ (7 : Nat)) = ((u / 128 : Nat) : Int) := by
  rw [Int.fdiv_eq_ediv_of_nonneg _ (by decide)]; omega
theorem or128' (u : Nat) : bits .or .u8 (IntKind.u8.wrap (u : Int)) 128 = ((u % 128 + 128 : Nat) : Int) := by
  rw [wrap_u8, show (u : Int) % 256 = ((u % 256 : Nat) : Int) by omega, or128 _ (by omega)]
  have : u % 256 % 128 = u % 128 := by omega
  rw [this]
theorem c_pgroupsL (u : Nat) : ∀ (b : List AV) (e : Int), u < 18446744073709551616 → b.length + (cntI u).length ≤ 211106232532992 → ltbl E0 107 0 0 [.int .u64 u] [[.lst (.own (.O 0 0)) 1 b, .int .i64 e]] = some (1, [.int .u64 (cntL u : Nat)], [[.lst (.own (.O 0 0)) 1 (b ++ encB (cntI u)), .int .i64 e]]) := by
  induction u using cnt.induct with
  | case1 u h =>
    intro b e hu hb
    refine t_groupsL b u e ?_
    rw [cntL, cntI]
    have : ¬ (128 : Int) ≤ (u : Int) := by omega
    simp [s_groupsL, h, this, encB_nil]
  | case2 u h ih =>
    intro b e hu hb
    refine t_groupsL b u e ?_
    rw [cntI] at hb
    simp only [h, if_false, List.length_cons] at hb
    rw [cntL, cntI]
    have h1 : (128 : Int) ≤ (u : Int) := by omega
    have hp := c_put b [.int .u8 ((u % 128 + 128 : Nat) : Int)] e (by simp; omega)
    simp only [penA] at hp
    have h2 := ih (b ++ [.int .u8 ((u % 128 + 128 : Nat) : Int)]) e (by omega) (by simp; omega)
    simp only [s_groupsL, or128', fdiv7]
    simp only [ge_iff_le, h1, decide_true, cond_true, OA_call, hp, Option.bind_some, u_asC, u_asOwn, u_asI, u_asN, OA_chk, Nat.beq_eq_true_eq, h2, h, if_false]
    simp only [encB_cons, byt_toNat (show u % 128 + 128 < 256 by omega), List.append_assoc, List.singleton_append]
    rfl
theorem c_pgroups (b : List AV) (u : Nat) (e : Int) (hu : u < 18446744073709551616) (hb : b.length + 10 ≤ 211106232532992) : tbl E0 107 [.ref 0 0, .int .u64 u] (penA b e) = some ([], penA (b ++ encB (cnt u)) e) :=
  t_groups b u e (by
    have hl := cntI_len hu
    have h1 := c_pgroupsL u b e hu (by omega)
    have h2 := c_put (b ++ encB (cntI u)) [.int .u8 (cntL u : Nat)] e (by simp; omega)
    have h3 := cntL_lt u
    simp only [penA] at h2
    simp [s_groups, h1, wrap_u8_id (show (0 : Int) ≤ (cntL u : Nat) by omega) (by omega), h2, penA, cnt_eq, encB_append, encB_cons, encB_nil, byt_toNat (show cntL u < 256 by omega)])
end Go.Proofs.Ytmpfeofeokmooaa.V
namespace Go.Proofs.Ytmpfeofeokmooaa.V
open Go
theorem c_PCount (b : List AV) (n e : Int) (hb : b.length + 10 ≤ 211106232532992) (hn : n ≤ 9223372036854775807) : tbl E0 59 [.ref 0 0, .int .i64 n] (penA b e) = some ([], if n < 0 then penA b 2 else penA (b ++ encB (cnt n.toNat)) e) :=
  t_PCount b n e (by
    by_cases h : n < 0
    · simp [s_PCount, h]
    · have h1 := c_pgroups b n.toNat e (by omega) hb
      rw [Int.toNat_of_nonneg (by omega)] at h1
      simp [s_PCount, h, wrap_u64_id (show 0 ≤ n by omega) (by omega), h1])
theorem c_PNum (b : List AV) (n e : Int) (hb : b.length + 10 ≤ 211106232532992) (h : -9223372036854775808 ≤ n) (h' : n ≤ 9223372036854775807) : tbl E0 133 [.ref 0 0, .int .i64 n] (penA b e) = some ([], penA (b ++ encB (cnt (zz n))) e) :=
  t_PNum b n e (by simp [s_PNum, xor_zz h h', c_pgroups b (zz n) e (zz_lt h h') hb, -Int.reducePow])
def word4 (n : Nat) : List UInt8 := [byt (n / 16777216), byt (n / 65536 % 256), byt (n / 256 % 256), byt (n % 256)]
theorem c_PWord (b : List AV) (n : Nat) (e : Int) (hb : b.length + 4 ≤ 211106232532992) (hn : n < 4294967296) : tbl E0 82 [.ref 0 0, .int .u32 (n : Int)] (penA b e) = some ([], penA (b ++ encB (word4 n)) e) :=
  t_PWord b n e (by
    have e1 : IntKind.u8.wrap ((n : Int).fdiv ((2 : Int) ^ (24 : Nat))) = ((byt (n / 16777216)).toNat : Int) := by rw [Int.fdiv_eq_ediv_of_nonneg _ (by decide), wrap_u8, byt_toNat (by omega)]; omega
    have e2 : IntKind.u8.wrap ((n : Int).fdiv ((2 : Int) ^ (16 : Nat))) = ((byt (n / 65536 % 256)).toNat : Int) := by rw [Int.fdiv_eq_ediv_of_nonneg _ (by decide), wrap_u8, byt_toNat (by omega)]; omega
    have e3 : IntKind.u8.wrap ((n : Int).fdiv ((2 : Int) ^ (8 : Nat))) = ((byt (n / 256 % 256)).toNat : Int) := by rw [Int.fdiv_eq_ediv_of_nonneg _ (by decide), wrap_u8, byt_toNat (by omega)]; omega
    have e4 : IntKind.u8.wrap (n : Int) = ((byt (n % 256)).toNat : Int) := by rw [wrap_u8, byt_toNat (by omega)]; omega
    unfold s_PWord
    rw [e1, e2, e3, e4]
    have hp := c_put b (encB (word4 n)) e (by simpa [word4] using hb)
    rw [show encB (word4 n) = [.int .u8 ((byt (n / 16777216)).toNat : Int), .int .u8 ((byt (n / 65536 % 256)).toNat : Int), .int .u8 ((byt (n / 256 % 256)).toNat : Int), .int .u8 ((byt (n % 256)).toNat : Int)] from rfl] at hp
    simp only [OA_chk, cond_true, OA_call, hp, Option.bind_some, u_asC, u_asOwn, u_asI, u_asN, Nat.beq_eq_true_eq]
    rfl)
theorem c_PText (b : List AV) (s : List UInt8) (e : Int) (hb : b.length + 10 + s.length ≤ 211106232532992) : tbl E0 60 [.ref 0 0, .str s] (penA b e) = some ([], penA (b ++ encB (cnt s.length ++ s)) e) :=
  t_PText b s e (by
    have h1 := c_PCount b s.length e (by omega) (by omega)
    have h0 : ¬ ((s.length : Int) < 0) := by omega
    have hc := cnt_len10 (u := s.length) (by omega)
    simp only [h0, if_false, Int.toNat_natCast] at h1
    have h2 := c_put (b ++ encB (cnt s.length)) (encB s) e (by simp; omega)
    simp [s_PText, h1, h2, encB_append])
theorem c_CloneB (b : List UInt8) (hb : b.length ≤ 211106232532992) : tbl E0 109 [.lst .ro 1 (encB b)] [] = some ([.lst .ro 1 (encB b)], []) :=
  t_CloneB b (by
    unfold s_CloneB
    cases b with
    | nil => exact OA_amb_same fun b => by cases b <;> rfl
    | cons c l => simp only [encB_cons, u_nil_cons, cond_false, List.length_cons, encB_length, OA_chk]; simp at hb; simp [hb])
theorem c_PDone (b : List UInt8) (e : Int) (hb : b.length ≤ 211106232532992) : tbl E0 61 [.ref 0 0] (penV b e) = some ([.lst .ro 1 (if e = 0 then encB b else []), .int .i64 e], penV b e) :=
  t_PDone (encB b) e (by
    by_cases h : e = 0
    · subst h; simp [s_PDone, c_CloneB b hb]
    · simp [s_PDone, h, bne_t h])
theorem c_New : tbl E0 58 [] [] = some ([.ref 64 0], [(64, [.lst (.own (.E 64 0)) 1 [], .int .i64 0])]) := t_New rfl
theorem c_Of (b : List UInt8) (hb : b.length ≤ 211106232532992) : tbl E0 62 [.lst .ro 1 (encB b)] [] = some ([.ref 64 0], [(64, [.lst .ro 1 (encB b), .int .i64 0])]) :=
  t_Of b (by simp [s_Of, c_CloneB b hb])
def grp : Nat → Nat → List UInt8 → Nat × Nat × Int
  | _, _, [] => (0, 0, 5)
  | i, u, c :: l => if (i = 9 ∧ 1 < c.toNat) ∨ (0 < i ∧ c.toNat = 0) then (0, 0, 4) else if c.toNat < 128 then (u + c.toNat * 128 ^ i, i + 1, 0) else grp (i + 1) (u + c.toNat % 128 * 128 ^ i) l
def grpS (b : List UInt8) (e : Int) : Nat × List UInt8 × Int := if e ≠ 0 then (0, b, e) else if (grp 0 0 b).2.2 ≠ 0 then (0, b, (grp 0 0 b).2.2) else ((grp 0 0 b).1, b.drop (grp 0 0 b).2.1, 0)
def countS (b : List UInt8) (e : Int) (m : Int) : Int × List UInt8 × Int :=
  if e ≠ 0 then (0, b, e) else if (grp 0 0 b).2.2 ≠ 0 then (0, b, (grp 0 0 b).2.2) else if 9223372036854775808 ≤ (grp 0 0 b).1 then (0, b, 4) else if max m 0 < ((grp 0 0 b).1 : Int) then (0, b, 7) else ((grp 0 0 b).1, b.drop (grp 0 0 b).2.1, 0)
def numS (b : List UInt8) (e : Int) : Int × List UInt8 × Int := (unz (grpS b e).1, (grpS b e).2)
def takeS (b : List UInt8) (e : Int) (n : Nat) : List UInt8 × List UInt8 × Int := if e ≠ 0 then ([], b, e) else if b.length < n then ([], b, 5) else (b.take n, b.drop n, 0)
def wordOf (x : Nat) (l : List UInt8) : Nat := l.foldl (fun x c => 256 * x + c.toNat) x
def wordS (b : List UInt8) (e : Int) : Nat × List UInt8 × Int := (wordOf 0 (takeS b e 4).1, (takeS b e 4).2)
def textS (b : List UInt8) (e : Int) (m : Int) : List UInt8 × List UInt8 × Int :=
  let c := countS b e m
  let t := takeS c.2.1 c.2.2 c.1.toNat
  (t.1, if t.2.2 = 5 then b else t.2.1, t.2.2)
def endS (b : List UInt8) (e : Int) : Int := if e ≠ 0 then e else if b = [] then 0 else 6
theorem grp_bound : ∀ (l : List UInt8) (i u : Nat), i ≤ 9 → u < 128 ^ i → (grp i u l).1 < 18446744073709551616 ∧ ((grp i u l).2.2 = 0 → (grp i u l).2.1 ≤ i + l.length) ∧ ((grp i u l).2.2 = 0 ∨ (grp i u l).2.2 = 4 ∨ (grp i u l).2.2 = 5)
  | [], i, u, hi, hu => by simp [grp]
  | c :: l, i, u, hi, hu => by
    have hc := c.toNat_lt
    rw [grp]
    split
    · simp
    · rename_i h1
      split
      · rename_i h2
        refine ⟨?_, fun _ => by simp, .inl rfl⟩
        show u + c.toNat * 128 ^ i < _
        have h9 : i = 9 → c.toNat ≤ 1 := fun h => by omega
        have hp : i ≤ 8 → (128 : Nat) ^ i ≤ 128 ^ 8 := fun h => Nat.pow_le_pow_right (by decide) h
        by_cases hi9 : i = 9
        · subst hi9
          have := h9 rfl
          have : c.toNat * 128 ^ 9 ≤ 1 * 128 ^ 9 := Nat.mul_le_mul_right _ this
          omega
        · have h8 := hp (by omega)
          have : c.toNat * 128 ^ i ≤ 127 * 128 ^ 8 := Nat.mul_le_mul (by omega) h8
          omega
      · rename_i h2
        have hi9 : i ≠ 9 := fun h => by omega
        have h3 : u + c.toNat % 128 * 128 ^ i < 128 ^ (i + 1) := by
          have : c.toNat % 128 * 128 ^ i ≤ 127 * 128 ^ i := Nat.mul_le_mul_right _ (by omega)
          rw [Nat.pow_succ]; omega
        obtain ⟨a1, a2, a3⟩ := grp_bound l (i + 1) _ (by omega) h3
        exact ⟨a1, fun h => by have := a2 h; simp; omega, a3⟩
theorem c_egroupsL (l : List UInt8) : ∀ (r : List UInt8) (i u : Nat), l.drop i = r → i ≤ 9 → u < 128 ^ i → l.length ≤ 211106232532992 →
    ltbl E0 111 0 5 [.int .u64 u, .lst .ro 1 (encB l), .int .i64 l.length, .int .i64 i] [[.lst .ro 1 (encB l), .int .i64 0]] =
      some (if (grp i u r).2.2 = 5 then (1, [], [[.lst .ro 1 (encB l), .int .i64 0]]) else if (grp i u r).2.2 = 4 then (0, [.int .u64 0], [[.lst .ro 1 (encB l), .int .i64 4]]) else (0, [.int .u64 (grp i u r).1], [[.lst .ro 1 (encB (l.drop (grp i u r).2.1)), .int .i64 0]])) := by
  intro r
  induction r with
  | nil =>
    intro i u hr hi hu hl
    have h : l.length ≤ i := by simpa using hr
    refine t_egroupsL l l u l.length i 0 ?_
    have : ¬ ((i : Int) < l.length) := by omega
    simp [s_egroupsL, this, grp]
  | cons c r ih =>
    intro i u hr hi hu hl
    have hlt : i < l.length := by
      rcases Nat.lt_or_ge i l.length with h | h
      · exact h
      · rw [List.drop_eq_nil_of_le h] at hr; cases hr
    have hget : l[i]? = some c := by
      rw [List.drop_eq_getElem_cons hlt] at hr
      injection hr with h1 h2
      rw [List.getElem?_eq_getElem hlt, h1]
    have hr2 : l.drop (i + 1) = r := by
      rw [List.drop_eq_getElem_cons hlt] at hr
      injection hr
    have hc := c.toNat_lt
    refine t_egroupsL l l u l.length i 0 ?_
    have h1 : (i : Int) < l.length := by omega
    have h7 : IntKind.u64.wrap (IntKind.i64.wrap ((7 : Int) * (i : Int))) = ((7 * i : Nat) : Int) := by
      rw [wrap_i64 _ (by omega) (by omega), wrap_u64_id (by omega) (by omega)]; omega
    have hi1 : IntKind.i64.wrap ((i : Int) + 1) = ((i + 1 : Nat) : Int) := by rw [wrap_i64 _ (by omega) (by omega)]; omega
    have hmin : min (7 * i) 64 = 7 * i := by omega
    have hp9 : (128 : Nat) ^ i ≤ 128 ^ 9 := Nat.pow_le_pow_right (by decide) hi
    have h27 : (2 : Nat) ^ (7 * i) = 128 ^ i := by rw [Nat.pow_mul]
    have hu64 : u < 18446744073709551616 := by omega
    have hnew : ∀ d : Nat, d < 128 → (i = 9 → d ≤ 1) → bits .or .u64 (u : Int) (IntKind.u64.wrap (IntKind.u64.wrap (d : Int) * (2 : Int) ^ (7 * i))) = ((u + d * 128 ^ i : Nat) : Int) := by
      intro d hd h9
      have hb : d * 128 ^ i < 18446744073709551616 := by
        by_cases hi9 : i = 9
        · subst hi9
          have : d * 128 ^ 9 ≤ 1 * 128 ^ 9 := Nat.mul_le_mul_right _ (h9 rfl)
          omega
        · have h8 : (128 : Nat) ^ i ≤ 128 ^ 8 := Nat.pow_le_pow_right (by decide) (by omega)
          have : d * 128 ^ i ≤ 127 * 128 ^ 8 := Nat.mul_le_mul (by omega) h8
          omega
      have e1 : (IntKind.u64.wrap (d : Int)) * (2 : Int) ^ (7 * i) = ((d * 128 ^ i : Nat) : Int) := by
        rw [wrap_u64_id (by omega) (by omega), ← h27]; simp
      rw [e1, wrap_u64_id (by omega) (by omega), bits_or64 u _ hu64 hb, ← h27, or_add u d (7 * i) (by rw [h27]; exact hu), h27]
    have h10 : decide ((i : Int) > 0) = decide (0 < i) := by rw [Bool.eq_iff_iff, decide_eq_true_eq, decide_eq_true_eq]; omega
    have h9 : ((i : Int) == 9) = decide (i = 9) := by rw [Bool.eq_iff_iff]; simp; omega
    have hc0 : ((c.toNat : Int) == 0) = decide (c.toNat = 0) := by rw [Bool.eq_iff_iff, beq_iff_eq, decide_eq_true_eq]; omega
    have hc1 : decide ((c.toNat : Int) > 1) = decide (1 < c.toNat) := by rw [Bool.eq_iff_iff, decide_eq_true_eq, decide_eq_true_eq]; omega
    have hjoin : ∀ (f : (Bool → Option LR) → Option LR), f = (fun x2 => bif ((i : Int) == 9) then (bif decide ((c.toNat : Int) > 1) then x2 true else (bif decide ((i : Int) > 0) then x2 ((c.toNat : Int) == 0) else x2 false)) else (bif decide ((i : Int) > 0) then x2 ((c.toNat : Int) == 0) else x2 false)) →
        f (fun b => some (Tok.tok b)) = some (Tok.tok (decide ((i = 9 ∧ 1 < c.toNat) ∨ (0 < i ∧ c.toNat = 0)))) := by
      intro f hf
      subst hf
      simp only [h9, h10, hc0, hc1]
      by_cases a1 : i = 9 <;> by_cases a2 : 1 < c.toNat <;> by_cases a3 : 0 < i <;> by_cases a4 : c.toNat = 0 <;> simp [a1, a2, a3, a4] <;> omega
    simp only [s_egroupsL, h1, decide_true, cond_true, OA_chk, nthE, Int.toNat_natCast, encB_get, hget, Option.map_some, u_asI, OA_join, h7, hmin, hi1, andn128 _ hc]
    rw [hjoin _ rfl]
    simp only [Option.bind_some, Tok.untok_tok]
    by_cases hbad : (i = 9 ∧ 1 < c.toNat) ∨ (0 < i ∧ c.toNat = 0)
    · have hg : grp i u (c :: r) = (0, 0, 4) := by rw [grp, if_pos hbad]
      simp [hbad, hg]
    · simp only [hbad, decide_false, cond_false, Int.natCast_nonneg, decide_true, cond_true]
      have hd := hnew (c.toNat % 128) (by omega) (fun h => by omega)
      rw [hd]
      by_cases hs : c.toNat < 128
      · have hg : grp i u (c :: r) = (u + c.toNat * 128 ^ i, i + 1, 0) := by rw [grp, if_neg hbad, if_pos hs]
        have hs2 : (c.toNat : Int) < 128 := by omega
        have hm : c.toNat % 128 = c.toNat := by omega
        have hle : (i : Int) + 1 ≤ l.length := by omega
        rw [hg, hm]
        simp [hs2, encB_take, encB_drop, List.take_of_length_le, hle]
      · have hg : grp i u (c :: r) = grp (i + 1) (u + c.toNat % 128 * 128 ^ i) r := by rw [grp, if_neg hbad, if_neg hs]
        have hs2 : ¬ (c.toNat : Int) < 128 := by omega
        have hi9 : i ≠ 9 := fun h => by omega
        have h3 : u + c.toNat % 128 * 128 ^ i < 128 ^ (i + 1) := by
          have : c.toNat % 128 * 128 ^ i ≤ 127 * 128 ^ i := Nat.mul_le_mul_right _ (by omega)
          rw [Nat.pow_succ]; omega
        rw [hg]
        simp only [hs2, decide_false, cond_false]
        exact ih (i + 1) _ hr2 (by omega) h3 hl
theorem c_egroups (b : List UInt8) (e : Int) (hb : b.length ≤ 211106232532992) : tbl E0 111 [.ref 0 0] (eyeV b e) = some ([.int .u64 (grpS b e).1], eyeV (grpS b e).2.1 (grpS b e).2.2) :=
  t_egroups b e (by
    by_cases h : e = 0
    · subst h
      have hL := c_egroupsL b b 0 0 rfl (by omega) (by decide) hb
      have hg := (grp_bound b 0 0 (by omega) (by decide)).2.2
      simp only [Int.natCast_zero] at hL
      unfold grpS
      rcases hg with hg | hg | hg <;> simp [s_egroups, hL, hg]
    · simp [s_egroups, grpS, h, bne_t h])
theorem c_take (b : List UInt8) (e : Int) (n : Nat) : tbl E0 113 [.ref 0 0, .int .i64 n] (eyeV b e) = some ([.lst .ro 1 (encB (takeS b e n).1)], eyeV (takeS b e n).2.1 (takeS b e n).2.2) :=
  t_take b e n (by
    unfold takeS
    by_cases h : e = 0
    · subst h
      by_cases h2 : b.length < n
      · have h3 : (b.length : Int) < n := by omega
        simp [s_take, h2, h3, encB_nil]
      · have h3 : ¬ (b.length : Int) < n := by omega
        have h4 : (n : Int) ≤ b.length := by omega
        simp [s_take, h2, h3, h4, encB_take, encB_drop, List.take_of_length_le]
    · simp [s_take, h, bne_t h, encB_nil])
theorem takeS_len (b : List UInt8) (e : Int) (n : Nat) : (takeS b e n).1.length = n ∨ (takeS b e n).1 = [] := by
  unfold takeS
  by_cases h : e = 0 <;> by_cases h2 : b.length < n <;> simp [h, h2]
  omega
theorem c_left (b : List UInt8) (e : Int) : tbl E0 110 [.ref 0 0] (eyeV b e) = some ([.lst .ro 1 (encB b)], eyeV b e) := t_left b e rfl
theorem c_back (b c : List UInt8) (e f : Int) : tbl E0 112 [.ref 0 0, .lst .ro 1 (encB c), .int .i64 f] (eyeV b e) = some ([], eyeV c f) := t_back b c e f rfl
theorem fdiv63' (u : Nat) : (u : Int).fdiv ((2 : Int) ^ (63 : Nat)) = ((u / 9223372036854775808 : Nat) : Int) := by
  rw [Int.fdiv_eq_ediv_of_nonneg _ (by decide), show (2 : Int) ^ 63 = 9223372036854775808 by decide]; omega
theorem max_eq (n : Int) : (if n < 0 then (0 : Int) else n) = max n 0 := by split <;> omega
theorem c_ECount (b : List UInt8) (e m : Int) (hb : b.length ≤ 211106232532992) : tbl E0 63 [.ref 0 0, .int .i64 m] (eyeV b e) = some ([.int .i64 (countS b e m).1], eyeV (countS b e m).2.1 (countS b e m).2.2) :=
  t_ECount b e m (by
    have hg := c_egroups b e hb
    have hbd := (grp_bound b 0 0 (by omega) (by decide)).1
    simp only [s_ECount, OA_call, c_left, Option.bind_some, u_asC, u_asL, u_asI, u_asN, Nat.beq_eq_true_eq, hg, OA_chk, cond_true, c_back, fdiv63', max_eq, r_b0']
    unfold countS grpS
    by_cases h : e = 0
    · subst h
      by_cases hf : (grp 0 0 b).2.2 = 0
      · simp only [ne_eq, not_true_eq_false, if_false, hf]
        by_cases h63 : 9223372036854775808 ≤ (grp 0 0 b).1
        · have : ((grp 0 0 b).1 / 9223372036854775808 : Nat) = 1 := by omega
          simp [h63, this]
        · have h0 : ((grp 0 0 b).1 / 9223372036854775808 : Nat) = 0 := by omega
          simp only [h0, wrap_i64 ((grp 0 0 b).1 : Int) (by omega) (by omega)]
          by_cases hm : max m 0 < ((grp 0 0 b).1 : Int)
          · simp [h63, hm]
          · simp [h63, hm]
      · have hm : ¬ max m 0 < 0 := by omega
        simp [hf, hm]
    · have hm : ¬ max m 0 < 0 := by omega
      simp [h, hm])
end Go.Proofs.Ytmpfeofeokmooaa.V
namespace Go.Proofs.Ytmpfeofeokmooaa.V
open Go
theorem grpS_bound (b : List UInt8) (e : Int) : (grpS b e).1 < 18446744073709551616 := by
  have := (grp_bound b 0 0 (by omega) (by decide)).1
  unfold grpS
  split
  · simp
  · split
    · simp
    · exact this
theorem grpS_len (b : List UInt8) (e : Int) : (grpS b e).2.1.length ≤ b.length := by unfold grpS; split <;> (try split) <;> simp
theorem countS_len (b : List UInt8) (e m : Int) : (countS b e m).2.1.length ≤ b.length := by unfold countS; split <;> (try split) <;> (try split) <;> (try split) <;> simp
theorem takeS_len2 (b : List UInt8) (e : Int) (n : Nat) : (takeS b e n).2.1.length ≤ b.length := by unfold takeS; split <;> (try split) <;> simp
theorem countS_nonneg (b : List UInt8) (e m : Int) : 0 ≤ (countS b e m).1 := by unfold countS; split <;> (try split) <;> (try split) <;> (try split) <;> simp
theorem countS_le (b : List UInt8) (e m : Int) : (countS b e m).1 ≤ max m 0 := by unfold countS; split <;> (try split) <;> (try split) <;> (try split) <;> simp <;> omega
theorem c_ENum (b : List UInt8) (e : Int) (hb : b.length ≤ 211106232532992) : tbl E0 138 [.ref 0 0] (eyeV b e) = some ([.int .i64 (numS b e).1], eyeV (numS b e).2.1 (numS b e).2.2) :=
  t_ENum b e (by
    simp only [s_ENum, OA_call, c_egroups b e hb, Option.bind_some, u_asC, u_asL, u_asI, u_asN, r_b0', OA_chk, cond_true, xor_unz (grpS_bound b e)]
    rfl)
theorem c_EWordL (l b : List UInt8) (e : Int) : ∀ (r : List UInt8) (i x : Nat), l.drop i = r → i ≤ l.length → l.length ≤ 4 → x < 256 ^ i →
    ltbl E0 83 0 3 [.int .u32 x, .lst .ro 1 (encB l), .int .i64 l.length, .int .i64 i] [[.lst .ro 1 (encB b), .int .i64 e]] = some (1, [.int .u32 (wordOf x r)], [[.lst .ro 1 (encB b), .int .i64 e]]) := by
  intro r
  induction r with
  | nil =>
    intro i x hr hi hl hx
    have h : l.length ≤ i := by simpa using hr
    refine t_EWordL _ _ _ _ _ _ ?_
    have : ¬ ((i : Int) < l.length) := by omega
    simp [s_EWordL, this, wordOf]
  | cons c r ih =>
    intro i x hr hi hl hx
    have hlt : i < l.length := by
      rcases Nat.lt_or_ge i l.length with h | h
      · exact h
      · rw [List.drop_eq_nil_of_le h] at hr; cases hr
    have hget : l[i]? = some c := by
      rw [List.drop_eq_getElem_cons hlt] at hr
      injection hr with h1 h2
      rw [List.getElem?_eq_getElem hlt, h1]
    have hr2 : l.drop (i + 1) = r := by
      rw [List.drop_eq_getElem_cons hlt] at hr
      injection hr
    have hc := c.toNat_lt
    have hp : (256 : Nat) ^ i ≤ 256 ^ 3 := Nat.pow_le_pow_right (by decide) (by omega)
    refine t_EWordL _ _ _ _ _ _ ?_
    have h1 : (i : Int) < l.length := by omega
    have hi1 : IntKind.i64.wrap ((i : Int) + 1) = ((i + 1 : Nat) : Int) := by rw [wrap_i64 _ (by omega) (by omega)]; omega
    have hx2 : IntKind.u32.wrap ((x : Int) * 2 ^ (8 : Nat)) = ((x * 2 ^ 8 : Nat) : Int) := by rw [wrap_u32_id (by omega) (by omega)]; simp
    have hc2 : IntKind.u32.wrap (c.toNat : Int) = ((c.toNat : Nat) : Int) := wrap_u32_id (by omega) (by omega)
    have ho : bits .or .u32 ((x * 2 ^ 8 : Nat) : Int) (c.toNat : Int) = ((256 * x + c.toNat : Nat) : Int) := by
      rw [bits_or32 _ _ (by omega) (by omega), Nat.or_comm, or_add _ _ _ hc]; congr 1; omega
    have h3 : 256 * x + c.toNat < 256 ^ (i + 1) := by rw [Nat.pow_succ]; omega
    simp only [s_EWordL, h1, decide_true, cond_true, OA_chk, nthE, Int.toNat_natCast, encB_get, hget, Option.map_some, u_asI, hi1, hx2, hc2, ho, Int.natCast_nonneg]
    exact ih (i + 1) _ hr2 (by omega) hl h3
theorem c_EWord (b : List UInt8) (e : Int) : tbl E0 83 [.ref 0 0] (eyeV b e) = some ([.int .u32 (wordS b e).1], eyeV (wordS b e).2.1 (wordS b e).2.2) :=
  t_EWord b e (by
    have ht := c_take b e 4
    have hl := c_EWordL (takeS b e 4).1 (takeS b e 4).2.1 (takeS b e 4).2.2 (takeS b e 4).1 0 0 rfl (Nat.zero_le _) (by rcases takeS_len b e 4 with h | h <;> simp [h]) (by decide)
    simp only [Int.natCast_zero] at hl
    rw [show ((4 : Nat) : Int) = 4 from rfl] at ht
    simp [s_EWord, ht, hl, wordS])
theorem c_EText (b : List UInt8) (e m : Int) (hb : b.length ≤ 211106232532992) : tbl E0 64 [.ref 0 0, .int .i64 m] (eyeV b e) = some ([.str (textS b e m).1], eyeV (textS b e m).2.1 (textS b e m).2.2) :=
  t_EText b e m (by
    have hc := c_ECount b e m hb
    have h0 := countS_nonneg b e m
    have ht := c_take (countS b e m).2.1 (countS b e m).2.2 (countS b e m).1.toNat
    rw [Int.toNat_of_nonneg h0] at ht
    by_cases h5 : (takeS (countS b e m).2.1 (countS b e m).2.2 (countS b e m).1.toNat).2.2 = 5
    · simp [s_EText, c_left, hc, ht, textS, h5, orFail]
    · simp [s_EText, c_left, hc, ht, textS, h5, orFail])
theorem c_Left (b : List UInt8) (e : Int) : tbl E0 86 [.ref 0 0] (eyeV b e) = some ([.int .i64 b.length], eyeV b e) := t_Left b e (by simp [s_Left, c_left])
theorem c_Bad (b : List UInt8) (e : Int) : tbl E0 84 [.ref 0 0] (eyeV b e) = some ([.int .i64 e], eyeV b e) := t_Bad b e rfl
theorem c_End (b : List UInt8) (e : Int) : tbl E0 65 [.ref 0 0] (eyeV b e) = some ([.int .i64 (endS b e)], eyeV b e) :=
  t_End b e (by
    unfold endS
    by_cases h : e = 0
    · subst h
      cases b with
      | nil => simp [s_End, c_Bad, c_Left]
      | cons c b => have : (0 : Int) < (b.length : Int) + 1 := by omega
                    simp [s_End, c_Bad, c_Left, this]
    · simp [s_End, c_Bad, h, bne_t h])
end Go.Proofs.Ytmpfeofeokmooaa.V
namespace Go.Proofs.Ytmpfeofeokmooaa.V
open Go
end Go.Proofs.Ytmpfeofeokmooaa.V
namespace Go.Proofs.Ytmpfeofeokmooaa.V
open Go
end Go.Proofs.Ytmpfeofeokmooaa.V
namespace Go.Proofs.Ytmpfeofeokmooaa.V
open Go
theorem textS_len (b : List UInt8) (e m : Int) : (textS b e m).2.1.length ≤ b.length := by
  unfold textS
  simp only
  split
  · exact Nat.le_refl _
  · exact Nat.le_trans (takeS_len2 _ _ _) (countS_len b e m)
theorem pow_step (u : Nat) (i : Nat) : u % 128 * 128 ^ i + u / 128 * 128 ^ (i + 1) = u * 128 ^ i := by
  have h := Nat.div_add_mod u 128
  rw [Nat.pow_succ]
  generalize 128 ^ i = p
  have e : u / 128 * (p * 128) = 128 * (u / 128) * p := by
    rw [Nat.mul_comm p 128, ← Nat.mul_assoc, Nat.mul_comm (u / 128) 128]
  rw [e, ← Nat.add_mul]
  congr 1
  omega
theorem grp_cnt (rest : List UInt8) (u : Nat) : ∀ (i a : Nat), i ≤ 9 → u < 2 ^ (64 - 7 * i) → (0 < i → 0 < u) → grp i a (cnt u ++ rest) = (a + u * 128 ^ i, i + (cnt u).length, 0) := by
  induction u using cnt.induct with
  | case1 u h =>
    intro i a hi hu h0
    rw [cnt, if_pos h]
    have hb : (byt u).toNat = u := byt_toNat (by omega)
    simp only [List.singleton_append, grp, hb, List.length_singleton]
    have hbad : ¬ ((i = 9 ∧ 1 < u) ∨ (0 < i ∧ u = 0)) := by
      rintro (⟨h9, h1⟩ | ⟨h1, h2⟩)
      · subst h9
        have : (2 : Nat) ^ (64 - 7 * 9) = 2 := by decide
        omega
      · have := h0 h1; omega
    rw [if_neg hbad, if_pos h]
  | case2 u h ih =>
    intro i a hi hu h0
    rw [cnt, if_neg h]
    have hb : (byt (u % 128 + 128)).toNat = u % 128 + 128 := byt_toNat (by omega)
    simp only [List.cons_append, grp, hb, List.length_cons]
    have hi9 : i ≠ 9 := by
      intro h9
      subst h9
      have : (2 : Nat) ^ (64 - 7 * 9) = 2 := by decide
      omega
    have hbad : ¬ ((i = 9 ∧ 1 < u % 128 + 128) ∨ (0 < i ∧ u % 128 + 128 = 0)) := by omega
    rw [if_neg hbad, if_neg (by omega)]
    have hp : u / 128 < 2 ^ (64 - 7 * (i + 1)) := by
      have e : 64 - 7 * i = (64 - 7 * (i + 1)) + 7 := by omega
      rw [e, Nat.pow_add] at hu
      exact Nat.div_lt_of_lt_mul (by rw [Nat.mul_comm]; exact hu)
    rw [ih (i + 1) _ (by omega) hp (fun _ => by omega)]
    have e1 : (u % 128 + 128) % 128 = u % 128 := by omega
    rw [e1, ← pow_step u i]
    simp only [Prod.mk.injEq, and_true]
    omega
theorem grp_cnt0 {u : Nat} (h : u < 18446744073709551616) (rest : List UInt8) : grp 0 0 (cnt u ++ rest) = (u, (cnt u).length, 0) := by
  rw [grp_cnt rest u 0 0 (by omega) h (by omega)]; simp
theorem countS_cnt {u : Nat} {m : Int} (h : u < 9223372036854775808) (hm : (u : Int) ≤ m) (rest : List UInt8) : countS (cnt u ++ rest) 0 m = ((u : Int), rest, 0) := by
  unfold countS
  rw [grp_cnt0 (by omega)]
  have h1 : ¬ 9223372036854775808 ≤ u := by omega
  have h2 : ¬ max m 0 < (u : Int) := by omega
  simp [h1, h2]
theorem numS_cnt {n : Int} (h : -9223372036854775808 ≤ n) (h' : n ≤ 9223372036854775807) (rest : List UInt8) : numS (cnt (zz n) ++ rest) 0 = (n, rest, 0) := by
  unfold numS grpS
  rw [grp_cnt0 (zz_lt h h')]
  simp [unz_zz]
end Go.Proofs.Ytmpfeofeokmooaa.V
namespace Go.Proofs.Ytmpfeofeokmooaa.V
open Go
theorem rgtS_1 {f : Fld} (k : f.kind = 1) : rgtS f = (decide (0 ≤ f.id) && (decide (f.id ≤ 255) && (decide (-1099511627776 ≤ f.lo) && (decide (f.lo ≤ f.hi) && (decide (f.hi ≤ 1099511627776) && decide (f.most = 0)))))) := by
  simp [rgtS, k, Bool.and_assoc, Bool.decide_and]
theorem rgtS_2 {f : Fld} (k : f.kind = 2) : rgtS f = (decide (0 ≤ f.id) && (decide (f.id ≤ 255) && (decide (f.lo = 0) && (decide (f.hi = 0) && decide (f.most = 0))))) := by
  simp [rgtS, k, Bool.and_assoc, Bool.decide_and]
theorem rgtS_3 {f : Fld} (k : f.kind = 3) : rgtS f = (decide (0 ≤ f.id) && (decide (f.id ≤ 255) && (decide (f.lo = 0) && (decide (f.hi = 0) && (decide (1 ≤ f.most) && decide (f.most ≤ 1000)))))) := by
  simp [rgtS, k, Bool.and_assoc, Bool.decide_and]
theorem rgtS_4 {f : Fld} (k : f.kind = 4) : rgtS f = (decide (0 ≤ f.id) && (decide (f.id ≤ 255) && (decide (f.lo = 0) && (decide (f.hi = 0) && (decide (0 ≤ f.most) && decide (f.most ≤ 32)))))) := by
  simp [rgtS, k, Bool.and_assoc, Bool.decide_and]
theorem rgtS_0 {f : Fld} (k1 : f.kind ≠ 1) (k2 : f.kind ≠ 2) (k3 : f.kind ≠ 3) (k4 : f.kind ≠ 4) : rgtS f = false := by
  simp [rgtS, k1, k2, k3, k4]
theorem c_fRight (f : Fld) : tbl E0 142 [fldV f] [] = some ([.bool (rgtS f)], []) :=
  t_fRight f (by
    unfold s_fRight
    by_cases i0 : f.id < 0
    · have : rgtS f = false := by have : ¬ (0 ≤ f.id) := by omega
                                  simp [rgtS, this]
      simp [i0, this]
    · by_cases i1 : 255 < f.id
      · have : rgtS f = false := by have : ¬ (f.id ≤ 255) := by omega
                                    simp [rgtS, this]
        simp [i0, i1, this]
      · have j0 : 0 ≤ f.id := by omega
        have j1 : f.id ≤ 255 := by omega
        simp only [OA_chk, cond_true, OA_join, i0, decide_false, cond_false, show ¬ (f.id > 255) from i1, Option.bind_some, Tok.untok_tok, tok_cond]
        by_cases k1 : f.kind = 1
        · rw [rgtS_1 k1]
          by_cases a : -1099511627776 ≤ f.lo <;> by_cases b : f.lo ≤ f.hi <;> by_cases c : f.hi ≤ 1099511627776 <;> by_cases d : f.lo = 0 <;> by_cases e : f.most = 0 <;> simp [*]
        · by_cases k2 : f.kind = 2
          · rw [rgtS_2 k2]
            by_cases a : f.lo = 0 <;> by_cases b : f.hi = 0 <;> by_cases e : f.most = 0 <;> simp [*]
          · by_cases k3 : f.kind = 3
            · rw [rgtS_3 k3]
              by_cases a : f.lo = 0 <;> by_cases b : f.hi = 0 <;> by_cases c : 1 ≤ f.most <;> simp [*]
            · by_cases k4 : f.kind = 4
              · rw [rgtS_4 k4]
                by_cases a : f.lo = 0 <;> by_cases b : f.hi = 0 <;> by_cases c : 0 ≤ f.most <;> simp [*]
              · rw [rgtS_0 k1 k2 k3 k4]
                by_cases a : f.lo = 0 <;> simp [*])
theorem c_fbounds (f : Fld) (h : f.kind = 3 → rgtS f = true) : tbl E0 156 [fldV f] [] = some ([.int .i64 (loS f), .int .i64 (hiS f)], []) :=
  t_fbounds f (by
    unfold s_fbounds
    by_cases k1 : f.kind = 1
    · simp [k1, loS, hiS]
    · by_cases k2 : f.kind = 2
      · simp [k2, loS, hiS]
      · by_cases k3 : f.kind = 3
        · have h' := h k3
          rw [rgtS_3 k3] at h'
          simp only [Bool.and_eq_true, decide_eq_true_eq] at h'
          rw [wrap_i64 _ (by omega) (by omega)]
          simp [k3, loS, hiS]
        · simp [k1, k2, k3, loS, hiS])
theorem c_fwidthL (n : Nat) : ∀ (w : Nat), n < 9223372036854775808 → w + n < 9223372036854775808 → ltbl E0 162 0 2 [.int .i64 (n : Int), .int .i64 (w : Int)] [] = some (1, [.int .i64 ((w + wdS n : Nat) : Int)], []) := by
  induction n using wdS.induct with
  | case1 =>
    intro w hn hw
    exact t_fwidthL _ _ (by rw [wdS]; simp [s_fwidthL])
  | case2 n h ih =>
    intro w hn hw
    refine t_fwidthL _ _ ?_
    have h0 : (n : Int) > 0 := by omega
    have e : (n : Int).fdiv ((2 : Int) ^ (8 : Nat)) = ((n / 256 : Nat) : Int) := by rw [Int.fdiv_eq_ediv_of_nonneg _ (by decide)]; omega
    have e2 : IntKind.i64.wrap ((w : Int) + 1) = ((w + 1 : Nat) : Int) := by rw [wrap_i64 _ (by omega) (by omega)]; omega
    have e3 : wdS n = wdS (n / 256) + 1 := by rw [wdS]; simp [h]
    have := ih (w + 1) (by omega) (by omega)
    rw [e3, show w + (wdS (n / 256) + 1) = w + 1 + wdS (n / 256) by omega, ← this]
    simp only [s_fwidthL, h0, decide_true, cond_true, OA_chk, e, e2]
theorem c_fwidth (n : Int) (h : n < 9223372036854775808) : tbl E0 162 [.int .i64 n] [] = some ([.int .i64 (wdS n.toNat : Nat)], []) :=
  t_fwidth n (by
    by_cases h0 : 0 ≤ n
    · have := c_fwidthL n.toNat 0 (by omega) (by omega)
      rw [show (n.toNat : Int) = n by omega] at this
      simp only [Int.natCast_zero] at this
      simp [s_fwidth, this]
    · have e : ltbl E0 162 0 2 [.int .i64 n, .int .i64 0] [] = some (1, [.int .i64 0], []) := t_fwidthL _ _ (by
        have : ¬ (0 < n) := by omega
        simp [s_fwidthL, this])
      have e0 : n.toNat = 0 := by omega
      rw [e0, wdS]
      simp [s_fwidth, e])
theorem rgt_rng {f : Fld} (h : rgtS f = true) : 0 ≤ f.id ∧ f.id ≤ 255 ∧ (f.kind = 1 ∨ f.kind = 2 ∨ f.kind = 3 ∨ f.kind = 4) ∧ 0 ≤ hiS f - loS f ∧ hiS f - loS f ≤ 2199023255552 ∧ (f.kind ≠ 1 → f.lo = 0 ∧ f.hi = 0) ∧ (f.kind = 1 → -1099511627776 ≤ f.lo ∧ f.lo ≤ f.hi ∧ f.hi ≤ 1099511627776 ∧ f.most = 0) ∧ 0 ≤ f.most ∧ f.most ≤ 1000 ∧ (f.kind = 4 → f.most ≤ 32) ∧ (f.kind = 3 → 1 ≤ f.most) ∧ (f.kind = 2 → f.most = 0) := by
  by_cases k1 : f.kind = 1
  · rw [rgtS_1 k1] at h; simp [k1, loS, hiS] at h ⊢; omega
  · by_cases k2 : f.kind = 2
    · rw [rgtS_2 k2] at h; simp [k2, loS, hiS] at h ⊢; omega
    · by_cases k3 : f.kind = 3
      · rw [rgtS_3 k3] at h; simp [k3, loS, hiS] at h ⊢; omega
      · by_cases k4 : f.kind = 4
        · rw [rgtS_4 k4] at h; simp [k4, loS, hiS] at h ⊢; omega
        · rw [rgtS_0 k1 k2 k3 k4] at h; cases h
theorem c_fwide (f : Fld) (h : rgtS f = true) : tbl E0 160 [fldV f] [] = some ([.int .i64 (wdS (hiS f - loS f).toNat : Nat)], []) :=
  t_fwide f (by
    have r := rgt_rng h
    have e := c_fbounds f (fun _ => h)
    have e2 := c_fwidth (hiS f - loS f) (by omega)
    simp only [s_fwide, OA_chk, cond_true, OA_callx, e, Option.bind_some, u_asC, u_asI, u_asN, wrap_i64 (hiS f - loS f) (by omega) (by omega), e2])
theorem c_fSize (f : Fld) : tbl E0 155 [fldV f] [] = some ([.int .i64 (sizeS f)], []) :=
  t_fSize f (by
    have e := c_fRight f
    simp only [s_fSize, OA_chk, cond_true, OA_callx, e, Option.bind_some, u_asC, u_asB, u_asI, u_asN]
    cases h : rgtS f with
    | false => simp [sizeS, h]
    | true =>
      have r := rgt_rng h
      have e2 := c_fwide f h
      by_cases k4 : f.kind = 4
      · rw [wrap_i64 (f.most + 1) (by omega) (by omega)]
        simp [sizeS, h, k4]
      · by_cases k2 : f.kind = 2
        · simp [sizeS, h, k2, hiS, loS, wdS]
        · simp only [sizeS, h, k4, k2, beq_f k4, beq_f k2, if_true, if_false, Bool.not_true, cond_false, e2, Option.bind_some, u_asC, u_asI, u_asN])
end Go.Proofs.Ytmpfeofeokmooaa.V
namespace Go.Proofs.Ytmpfeofeokmooaa.V
open Go
theorem drop_c {α : Type} {l r : List α} {i : Nat} {a : α} (h : l.drop i = a :: r) : i < l.length ∧ l[i]? = some a ∧ l.drop (i + 1) = r := by
  have hlt : i < l.length := by
    rcases Nat.lt_or_ge i l.length with h' | h'
    · exact h'
    · rw [List.drop_eq_nil_of_le h'] at h; cases h
  rw [List.drop_eq_getElem_cons hlt] at h
  injection h with h1 h2
  exact ⟨hlt, by rw [List.getElem?_eq_getElem hlt, h1], h2⟩
theorem i64_succ {i : Nat} (h : i < 9223372036854775807) : IntKind.i64.wrap ((i : Int) + 1) = ((i + 1 : Nat) : Int) := by rw [wrap_i64 _ (by omega) (by omega)]; omega
theorem wdS_le (k : Nat) : ∀ n, n < 256 ^ k → wdS n ≤ k := by
  induction k with
  | zero => intro n h; simp at h; subst h; rw [wdS]; simp
  | succ k ih =>
    intro n h
    rw [wdS]
    split
    · omega
    · have := ih (n / 256) (by rw [Nat.div_lt_iff_lt_mul (by omega)]; rw [Nat.pow_succ] at h; exact h)
      omega
theorem sizeS_rng (f : Fld) : 0 ≤ sizeS f ∧ sizeS f ≤ 33 := by
  unfold sizeS
  split
  · rename_i h
    have r := rgt_rng h
    split
    · rename_i k; have := r.2.2.2.2.2.2.2.2.2.1 k; omega
    · have := wdS_le 6 (hiS f - loS f).toNat (by have : (256 : Nat) ^ 6 = 281474976710656 := by decide
                                                 omega)
      omega
  · omega
theorem longS_cons (f : Fld) (l : List Fld) : longS (f :: l) = sizeS f + longS l := by simp [longS]
theorem c_sLongL (l : List Fld) (hl : l.length ≤ 211106232532992) : ∀ (r : List Fld) (i : Nat) (n : Int), l.drop i = r → 0 ≤ n → n ≤ 33 * i →
    ltbl E0 141 0 3 [.int .i64 n, fldsV l, .int .i64 l.length, .int .i64 i] [] = some (1, [.int .i64 (n + longS r)], []) := by
  intro r
  induction r with
  | nil =>
    intro i n hr h0 h1
    have h : l.length ≤ i := by simpa using hr
    refine t_sLongL _ _ _ _ ?_
    have : ¬ ((i : Int) < l.length) := by omega
    simp [s_sLongL, this, longS]
  | cons f r ih =>
    intro i n hr h0 h1
    obtain ⟨hlt, hget, hr2⟩ := drop_c hr
    have hs := sizeS_rng f
    have h2 : (i : Int) < l.length := by omega
    have e1 := i64_succ (i := i) (by omega)
    have e2 : IntKind.i64.wrap (n + sizeS f) = n + sizeS f := wrap_i64 _ (by omega) (by omega)
    have h := ih (i + 1) (n + sizeS f) hr2 (by omega) (by omega)
    have c := c_fSize f
    refine t_sLongL _ _ _ _ ?_
    rw [longS_cons, ← Int.add_assoc, ← h]
    simp only [s_sLongL, h2, decide_true, cond_true, OA_chk, Int.natCast_nonneg, nthE, Int.toNat_natCast, List.getElem?_map, hget, Option.map_some, u_asA, u_asC, u_asI, u_asN, OA_callx, c, Option.bind_some, e1, e2]
theorem c_sLong (f : Frm) (h : f.fields.length ≤ 211106232532992) : tbl E0 141 [frmV f] [] = some ([.int .i64 (longS f.fields)], []) :=
  t_sLong f (by
    have e := c_sLongL f.fields h f.fields 0 0 rfl (by omega) (by omega)
    simp only [Int.natCast_zero, Int.zero_add] at e
    simp [s_sLong, e])
theorem setAt_bool (s : List Bool) (k : Nat) (b : Bool) : setAt (s.map AV.bool) k [AV.bool b] = (s.set k b).map AV.bool := by
  simp [setAt, List.map_set]
theorem all_flat_bool (s : List Bool) : (s.map AV.bool).all AV.flat1 = true := by
  simp [List.all_map, Function.comp_def, AV.flat1]
def freshS : List Bool → List Fld → Bool
  | _, [] => true
  | s, f :: l => rgtS f && !((s[f.id.toNat]?).getD false) && freshS (s.set f.id.toNat true) l
theorem c_sFineL (l : List Fld) (hl : l.length ≤ 211106232532992) : ∀ (r : List Fld) (i : Nat) (s : List Bool), l.drop i = r → s.length = 256 →
    ltbl E0 118 0 5 [fldsV l, .int .i64 l.length, .int .i64 i] [s.map AV.bool] = some (if freshS s r then (1, [], []) else (0, [.bool false], [])) := by
  intro r
  induction r with
  | nil =>
    intro i s hr hs
    have h : l.length ≤ i := by simpa using hr
    refine t_sFineL _ _ _ _ ?_
    have : ¬ ((i : Int) < l.length) := by omega
    simp [s_sFineL, this, freshS]
  | cons f r ih =>
    intro i s hr hs
    obtain ⟨hlt, hget, hr2⟩ := drop_c hr
    have h2 : (i : Int) < l.length := by omega
    have e1 := i64_succ (i := i) (by omega)
    have h := ih (i + 1) (s.set f.id.toNat true) hr2 (by simpa using hs)
    have c := c_fRight f
    refine t_sFineL _ _ _ _ ?_
    simp only [s_sFineL, h2, decide_true, cond_true, OA_chk, Int.natCast_nonneg, nthE, Int.toNat_natCast, List.getElem?_map, hget, Option.map_some, u_asA, u_asC, u_asI, u_asB, u_asN, OA_callx, OA_join, c, Option.bind_some, e1, freshS]
    by_cases hg : rgtS f = true
    · have rr := rgt_rng hg
      have hk : f.id.toNat < s.length := by omega
      have g : s[f.id.toNat]? = some s[f.id.toNat] := List.getElem?_eq_getElem hk
      have a1 : 0 ≤ f.id := rr.1
      have a2 : f.id < ((256 : Nat) : Int) := by omega
      have a3 : 0 + f.id.toNat * 1 = f.id.toNat := by omega
      have a4 : (f.id.toNat + 1).ble (List.map AV.bool s).length = true := by rw [Nat.ble_eq, List.length_map]; omega
      simp only [hg, a1, a2, a3, a4, decide_true, Bool.and_self, cond_true, g, Option.map_some, u_asB, Bool.not_true, cond_false, Option.bind_some, Tok.untok_tok, setAt_bool, all_flat_bool, h, Option.getD_some, Bool.true_and]
      by_cases hb : s[f.id.toNat] = true
      · simp [hb]
      · have hb : s[f.id.toNat] = false := by simpa using hb
        simp [hb]
    · have hg : rgtS f = false := by simpa using hg
      simp [hg]
theorem freshS_iff : ∀ (l : List Fld) (s : List Bool), s.length = 256 → (freshS s l = true ↔ (∀ f ∈ l, rgtS f = true ∧ s[f.id.toNat]? = some false) ∧ nodupI (l.map Fld.id) = true)
  | [], s, _ => by simp [freshS, nodupI]
  | f :: l, s, hs => by
    have ih := freshS_iff l (s.set f.id.toNat true) (by simpa using hs)
    simp only [freshS, Bool.and_eq_true, ih, List.map_cons, nodupI, Bool.not_eq_true', List.mem_cons, forall_eq_or_imp]
    have key : rgtS f = true → ((s[f.id.toNat]?).getD false = false ↔ s[f.id.toNat]? = some false) := by
      intro hg
      have rr := rgt_rng hg
      have hk : f.id.toNat < s.length := by omega
      rw [List.getElem?_eq_getElem hk]
      simp
    have key2 : rgtS f = true → ∀ g, rgtS g = true → ((s.set f.id.toNat true)[g.id.toNat]? = some false ↔ (s[g.id.toNat]? = some false ∧ g.id ≠ f.id)) := by
      intro hg g hgg
      have r1 := rgt_rng hg
      have r2 := rgt_rng hgg
      rw [List.getElem?_set]
      by_cases e : f.id.toNat = g.id.toNat
      · have e' : g.id = f.id := by omega
        rw [if_pos e, if_pos (by omega)]
        simp [e']
      · have e' : g.id ≠ f.id := by omega
        rw [if_neg e]
        simp [e']
    constructor
    · rintro ⟨⟨h1, h2⟩, h3, h4⟩
      refine ⟨⟨⟨h1, (key h1).1 h2⟩, fun g hg => ⟨(h3 g hg).1, ((key2 h1 g (h3 g hg).1).1 (h3 g hg).2).1⟩⟩, ?_, h4⟩
      simp only [List.any_map, List.any_eq_false, Function.comp_apply, beq_iff_eq]
      intro g hg
      exact ((key2 h1 g (h3 g hg).1).1 (h3 g hg).2).2
    · rintro ⟨⟨⟨h1, h2⟩, h3⟩, h4, h5⟩
      refine ⟨⟨h1, (key h1).2 h2⟩, fun g hg => ⟨(h3 g hg).1, (key2 h1 g (h3 g hg).1).2 ⟨(h3 g hg).2, ?_⟩⟩, h5⟩
      simp only [List.any_map, List.any_eq_false, Function.comp_apply, beq_iff_eq] at h4
      exact h4 g hg
theorem freshS_0 (l : List Fld) : freshS (List.replicate 256 false) l = (l.all rgtS && nodupI (l.map Fld.id)) := by
  rw [Bool.eq_iff_iff, freshS_iff _ _ List.length_replicate]
  simp only [Bool.and_eq_true, List.all_eq_true]
  constructor
  · rintro ⟨h1, h2⟩; exact ⟨fun f hf => (h1 f hf).1, h2⟩
  · rintro ⟨h1, h2⟩
    refine ⟨fun f hf => ⟨h1 f hf, ?_⟩, h2⟩
    have r := rgt_rng (h1 f hf)
    rw [List.getElem?_replicate, if_pos (by omega)]
set_option maxRecDepth 20000 in
theorem bools256 : (List.replicate 256 false).map AV.bool = [.bool false, .bool false, .bool false, .bool false, .bool false, .bool false, .bool false, .bool false, .bool false, .bool false, .bool false, .bool false, .bool false, .bool false, .bool false, .bool false, .bool false, .bool false, .bool false, .bool false, .bool false, .bool false, .bool false, .bool false, .bool false, .bool false, .bool false, .bool false, .bool false, .bool false, .bool false, .bool false, .bool false, .bool false, .bool false, .bool false, .bool false, .bool false, .bool false, .bool false, .bool false, .bool false, .bool false, .bool false, .bool false, .bool false, .bool false, .bool false, .bool false, .bool false, .bool false, .bool false, .bool false, .bool false, .bool false, .bool false, .bool false, .bool false, .bool false, .bool false, .bool false, .bool false, .bool false, .bool false, .bool false, .bool false, .bool false, .bool false, .bool false, .bool false, .bool false, .bool false, .bool false, .bool false, .bool false, .bool false, .bool false, .bool false, .bool false, .bool false, .bool false, .bool false, .bool false, .bool false, .bool false, .bool false, .bool false, .bool false, .bool false, .bool false, .bool false, .bool false, .bool false, .bool false, .bool false, .bool false, .bool false, .bool false, .bool false, .bool false, .bool false, .bool false, .bool false, .bool false, .bool false, .bool false, .bool false, .bool false, .bool false, .bool false, .bool false, .bool false, .bool false, .bool false, .bool false, .bool false, .bool false, .bool false, .bool false, .bool false, .bool false, .bool false, .bool false, .bool false, .bool false, .bool false, .bool false, .bool false, .bool false, .bool false, .bool false, .bool false, .bool false, .bool false, .bool false, .bool false, .bool false, .bool false, .bool false, .bool false, .bool false, .bool false, .bool false, .bool false, .bool false, .bool false, .bool false, .bool false, .bool false, .bool false, .bool false, .bool false, .bool false, .bool false, .bool false, .bool false, .bool false, .bool false, .bool false, .bool false, .bool false, .bool false, .bool false, .bool false, .bool false, .bool false, .bool false, .bool false, .bool false, .bool false, .bool false, .bool false, .bool false, .bool false, .bool false, .bool false, .bool false, .bool false, .bool false, .bool false, .bool false, .bool false, .bool false, .bool false, .bool false, .bool false, .bool false, .bool false, .bool false, .bool false, .bool false, .bool false, .bool false, .bool false, .bool false, .bool false, .bool false, .bool false, .bool false, .bool false, .bool false, .bool false, .bool false, .bool false, .bool false, .bool false, .bool false, .bool false, .bool false, .bool false, .bool false, .bool false, .bool false, .bool false, .bool false, .bool false, .bool false, .bool false, .bool false, .bool false, .bool false, .bool false, .bool false, .bool false, .bool false, .bool false, .bool false, .bool false, .bool false, .bool false, .bool false, .bool false, .bool false, .bool false, .bool false, .bool false, .bool false, .bool false, .bool false, .bool false, .bool false, .bool false, .bool false, .bool false, .bool false, .bool false, .bool false, .bool false, .bool false, .bool false, .bool false, .bool false, .bool false, .bool false, .bool false, .bool false] := rfl
set_option maxRecDepth 20000 in
theorem c_sFine (f : Frm) (h : f.fields.length ≤ 211106232532992) : tbl E0 118 [frmV f] [] = some ([.bool (fineS f)], []) :=
  t_sFine f (by
    have e := c_sFineL f.fields h f.fields 0 (List.replicate 256 false) rfl List.length_replicate
    simp only [Int.natCast_zero, freshS_0] at e
    rw [bools256] at e
    have c := c_sLong f h
    simp only [s_sFine, OA_chk, cond_true, OA_join, OA_asm, List.length_map, OA_callx, c, Option.bind_some, u_asC, u_asI, u_asB, u_asN, OA_loop, e]
    unfold fineS
    by_cases a1 : f.id < 0
    · have : ¬ (0 ≤ f.id) := by omega
      simp [a1, this]
    · by_cases a2 : f.id > 200
      · have : ¬ (f.id ≤ 200) := by omega
        simp [a1, a2, this]
      · by_cases a3 : (f.fields.length : Int) < 1
        · have : ¬ (1 ≤ f.fields.length) := by omega
          simp [a1, a2, a3, this]
        · by_cases a4 : (f.fields.length : Int) > 8
          · have : ¬ (f.fields.length ≤ 8) := by omega
            simp [a1, a2, a3, a4, this]
          · by_cases a5 : longS f.fields > 64
            · have : ¬ (longS f.fields ≤ 64) := by omega
              simp [a1, a2, a3, a4, a5, this]
            · have b1 : 0 ≤ f.id ∧ f.id ≤ 200 := by omega
              have b2 : 1 ≤ f.fields.length ∧ f.fields.length ≤ 8 := by omega
              have b3 : longS f.fields ≤ 64 := by omega
              simp only [a1, a2, a3, a4, a5, b1, b2, b3, decide_true, decide_false, cond_false, Option.bind_some, Tok.untok_tok, Bool.true_and, and_self]
              cases (f.fields.all rgtS && nodupI (f.fields.map Fld.id)) <;> simp)
end Go.Proofs.Ytmpfeofeokmooaa.V
namespace Go.Proofs.Ytmpfeofeokmooaa.V
open Go
theorem bor (b : Bool) : b = true ∨ b = false := by cases b <;> simp
def Sml (s : Sch) : Prop := s.forms.length ≤ 211106232532992 ∧ ∀ f ∈ s.forms, f.fields.length ≤ 211106232532992
theorem mem_drop {α : Type} {l r : List α} {i : Nat} {a : α} (h : l.drop i = a :: r) : a ∈ l := List.mem_of_mem_drop (h ▸ List.mem_cons_self : a ∈ l.drop i)
theorem c_sRightL (l : List Frm) (hl : l.length ≤ 211106232532992) (hf : ∀ f ∈ l, f.fields.length ≤ 211106232532992) : ∀ (r : List Frm) (i : Nat) (last : Int), l.drop i = r →
    ltbl E0 68 0 5 [.int .i64 last, frmsV l, .int .i64 l.length, .int .i64 i] [] = some (if risingS last r then (1, [], []) else (0, [.bool false], [])) := by
  intro r
  induction r with
  | nil =>
    intro i last hr
    have h : l.length ≤ i := by simpa using hr
    refine t_sRightL _ _ _ _ ?_
    have : ¬ ((i : Int) < l.length) := by omega
    simp [s_sRightL, this, risingS]
  | cons f r ih =>
    intro i last hr
    obtain ⟨hlt, hget, hr2⟩ := drop_c hr
    have h2 : (i : Int) < l.length := by omega
    have e1 := i64_succ (i := i) (by omega)
    have h := ih (i + 1) f.id hr2
    have c := c_sFine f (hf f (mem_drop hr))
    refine t_sRightL _ _ _ _ ?_
    simp only [s_sRightL, h2, decide_true, cond_true, OA_chk, Int.natCast_nonneg, nthE, Int.toNat_natCast, List.getElem?_map, hget, Option.map_some, u_asA, u_asC, u_asI, u_asB, u_asL, u_asN, OA_callx, OA_join, c, Option.bind_some, e1, h, risingS]
    by_cases a : f.id ≤ last
    · have : ¬ (last < f.id) := by omega
      rcases bor (fineS f) with hb | hb <;> simp [hb, a, this]
    · have b : last < f.id := by omega
      rcases bor (fineS f) with hb | hb <;> simp [hb, a, b]
theorem c_sRight (s : Sch) (h : Sml s) : tbl E0 68 [schV s] [] = some ([.bool (schS s)], []) :=
  t_sRight s (by
    have e := c_sRightL s.forms h.1 h.2 s.forms 0 (-1) rfl
    simp only [Int.natCast_zero] at e
    simp only [s_sRight, OA_chk, cond_true, OA_join, OA_asm, List.length_map, Option.bind_some, u_asC, u_asI, u_asB, u_asN, OA_loop, e]
    unfold schS
    by_cases a1 : s.ver < 1
    · have : ¬ (1 ≤ s.ver) := by omega
      simp [a1, this]
    · by_cases a2 : s.ver > 65535
      · have : ¬ (s.ver ≤ 65535) := by omega
        simp [a1, a2, this]
      · by_cases a4 : (s.forms.length : Int) > 8
        · have : ¬ (s.forms.length ≤ 8) := by omega
          simp [a1, a2, a4, this]
        · have b1 : 1 ≤ s.ver ∧ s.ver ≤ 65535 := by omega
          have b2 : s.forms.length ≤ 8 := by omega
          simp only [a1, a2, a4, b1, b2, decide_true, decide_false, cond_false, Option.bind_some, Tok.untok_tok, Bool.true_and, and_self]
          rcases bor (risingS (-1) s.forms) with hb | hb <;> simp [hb])
end Go.Proofs.Ytmpfeofeokmooaa.V
namespace Go.Proofs.Ytmpfeofeokmooaa.V
open Go
def big (f : Frm) : Bool := decide (40 < f.fields.length)
def greatS (s : Sch) : Bool := (s.forms.take 41).any big || decide (40 < s.forms.length)
theorem sml_of {s : Sch} (h : greatS s = false) : Sml s := by
  unfold greatS at h
  simp only [Bool.or_eq_false_iff, decide_eq_false_iff_not, List.any_eq_false, big, decide_eq_true_eq] at h
  refine ⟨by omega, fun f hf => ?_⟩
  have := h.1 f (by rw [List.take_of_length_le (by omega)]; exact hf)
  omega
theorem fld_eq (a b : Fld) : (a.id == b.id && (a.kind == b.kind && (a.lo == b.lo && (a.hi == b.hi && (a.most == b.most && true))))) = decide (a = b) := by
  rw [Bool.eq_iff_iff]
  cases a; cases b
  simp
theorem frm_eq (a b : Frm) : decide (a = b) = (decide (a.id = b.id) && decide (a.fields = b.fields)) := by
  rw [Bool.eq_iff_iff]
  cases a; cases b
  simp
theorem sch_eq (a b : Sch) : decide (a = b) = (decide (a.ver = b.ver) && decide (a.forms = b.forms)) := by
  rw [Bool.eq_iff_iff]
  cases a; cases b
  simp
theorem c_ySameFormL (a b : Frm) (hl : a.fields.length ≤ 211106232532992) (hab : a.fields.length = b.fields.length) : ∀ (r r' : List Fld) (i : Nat), a.fields.drop i = r → b.fields.drop i = r' →
    ltbl E0 39 0 4 [.int .i64 i] [[.int .i64 a.id, fldsV a.fields], [.int .i64 b.id, fldsV b.fields]] = some (if r = r' then (1, [], []) else (0, [.bool false], [])) := by
  intro r
  induction r with
  | nil =>
    intro r' i hr hr'
    have h : a.fields.length ≤ i := by simpa using hr
    have : r' = [] := by rw [← hr']; simp; omega
    subst this
    refine t_ySameFormL _ _ _ ?_
    have : ¬ ((i : Int) < a.fields.length) := by omega
    simp [s_ySameFormL, this]
  | cons x r ih =>
    intro r' i hr hr'
    obtain ⟨hlt, hget, hr2⟩ := drop_c hr
    cases r' with
    | nil => simp at hr'; omega
    | cons y r' =>
      obtain ⟨_, hget', hr2'⟩ := drop_c hr'
      have h2 : (i : Int) < a.fields.length := by omega
      have e1 := i64_succ (i := i) (by omega)
      have h := ih r' (i + 1) hr2 hr2'
      refine t_ySameFormL _ _ _ ?_
      simp only [s_ySameFormL, OA_asm, List.length_map, h2, decide_true, cond_true, OA_chk, Int.natCast_nonneg, nthE, Int.toNat_natCast, List.getElem?_map, hget, hget', Option.map_some, u_asA, u_asC, u_asI, u_asB, u_asL, u_asN, e1, h, fld_eq]
      by_cases e : x = y
      · simp [e]
      · simp [e]
theorem c_ySameForm (a b : Frm) (h : a.fields.length ≤ 211106232532992) : tbl E0 39 [frmV a, frmV b] [] = some ([.bool (decide (a = b))], []) :=
  t_ySameForm a b (by
    rw [frm_eq]
    simp only [s_ySameForm, OA_chk, cond_true, OA_join, OA_asm, List.length_map, OA_loop]
    by_cases i0 : a.id = b.id
    · rw [show (a.id != b.id) = false by simp [i0], cond_false]
      by_cases hab : a.fields.length = b.fields.length
      · have e := c_ySameFormL a b h hab a.fields b.fields 0 rfl rfl
        simp only [Int.natCast_zero] at e
        rw [show ((a.fields.length : Int) != (b.fields.length : Int)) = false by rw [hab]; simp]
        simp only [Option.bind_some, Tok.untok_tok, cond_false, e]
        by_cases e2 : a.fields = b.fields <;> simp [i0, e2]
      · have : ¬ (a.fields = b.fields) := fun e => hab (by rw [e])
        rw [show ((a.fields.length : Int) != (b.fields.length : Int)) = true from bne_t (by omega)]
        simp [i0, this]
    · simp [i0])
theorem c_EqualFL (a b : List Fld) (hl : a.length ≤ 211106232532992) (hab : a.length = b.length) : ∀ (r r' : List Fld) (i : Nat), a.drop i = r → b.drop i = r' →
    ltbl E0 103 0 4 [fldsV a, fldsV b, .int .i64 a.length, .int .i64 i] [] = some (if r = r' then (1, [], []) else (0, [.bool false], [])) := by
  intro r
  induction r with
  | nil =>
    intro r' i hr hr'
    have h : a.length ≤ i := by simpa using hr
    have : r' = [] := by rw [← hr']; simp; omega
    subst this
    refine t_EqualFL _ _ _ _ ?_
    have : ¬ ((i : Int) < a.length) := by omega
    simp [s_EqualFL, this]
  | cons x r ih =>
    intro r' i hr hr'
    obtain ⟨hlt, hget, hr2⟩ := drop_c hr
    cases r' with
    | nil => simp at hr'; omega
    | cons y r' =>
      obtain ⟨_, hget', hr2'⟩ := drop_c hr'
      have h2 : (i : Int) < a.length := by omega
      have e1 := i64_succ (i := i) (by omega)
      have h := ih r' (i + 1) hr2 hr2'
      refine t_EqualFL _ _ _ _ ?_
      simp only [s_EqualFL, OA_asm, List.length_map, h2, decide_true, cond_true, OA_chk, Int.natCast_nonneg, nthE, Int.toNat_natCast, List.getElem?_map, hget, hget', Option.map_some, u_asA, u_asC, u_asI, u_asB, u_asL, u_asN, e1, h, fld_eq]
      by_cases e : x = y
      · simp [e]
      · simp [e]
theorem c_EqualF (a b : List Fld) (h : a.length ≤ 211106232532992) : tbl E0 103 [fldsV a, fldsV b] [] = some ([.bool (decide (a = b))], []) :=
  t_EqualF a b (by
    simp only [s_EqualF, OA_asm, List.length_map, OA_loop]
    by_cases hab : a.length = b.length
    · have e := c_EqualFL a b h hab a b 0 rfl rfl
      simp only [Int.natCast_zero] at e
      have h' : ((a.length : Int) != (b.length : Int)) = false := by rw [hab]; simp
      rw [h', cond_false, e]
      by_cases e2 : a = b <;> simp [e2]
    · have : ¬ (a = b) := fun e => hab (by rw [e])
      have h' : ((a.length : Int) != (b.length : Int)) = true := bne_t (by omega)
      rw [h']
      simp [this])
theorem c_ySameL (a b : Sch) (hs : Sml a) (hab : a.forms.length = b.forms.length) : ∀ (r r' : List Frm) (i : Nat), a.forms.drop i = r → b.forms.drop i = r' →
    ltbl E0 31 0 4 [.int .i64 i] [[.int .i64 a.ver, frmsV a.forms], [.int .i64 b.ver, frmsV b.forms]] = some (if r = r' then (1, [], []) else (0, [.bool false], [])) := by
  have hl := hs.1
  intro r
  induction r with
  | nil =>
    intro r' i hr hr'
    have h : a.forms.length ≤ i := by simpa using hr
    have : r' = [] := by rw [← hr']; simp; omega
    subst this
    refine t_ySameL _ _ _ ?_
    have : ¬ ((i : Int) < a.forms.length) := by omega
    simp [s_ySameL, this]
  | cons x r ih =>
    intro r' i hr hr'
    obtain ⟨hlt, hget, hr2⟩ := drop_c hr
    cases r' with
    | nil => simp at hr'; omega
    | cons y r' =>
      obtain ⟨_, hget', hr2'⟩ := drop_c hr'
      have h2 : (i : Int) < a.forms.length := by omega
      have e1 := i64_succ (i := i) (by omega)
      have h := ih r' (i + 1) hr2 hr2'
      have c := c_ySameForm x y (hs.2 x (mem_drop hr))
      refine t_ySameL _ _ _ ?_
      simp only [s_ySameL, OA_asm, List.length_map, h2, decide_true, cond_true, OA_chk, Int.natCast_nonneg, nthE, Int.toNat_natCast, List.getElem?_map, hget, hget', Option.map_some, u_asA, u_asC, u_asI, u_asB, u_asL, u_asN, OA_callx, c, Option.bind_some, e1, h]
      by_cases e : x = y
      · simp [e]
      · simp [e]
theorem c_ySame (a b : Sch) (h : Sml a) : tbl E0 31 [schV a, schV b] [] = some ([.bool (decide (a = b))], []) :=
  t_ySame a b (by
    rw [sch_eq]
    simp only [s_ySame, OA_chk, cond_true, OA_join, OA_asm, List.length_map, OA_loop]
    by_cases i0 : a.ver = b.ver
    · rw [show (a.ver != b.ver) = false by simp [i0], cond_false]
      by_cases hab : a.forms.length = b.forms.length
      · have e := c_ySameL a b h hab a.forms b.forms 0 rfl rfl
        simp only [Int.natCast_zero] at e
        rw [show ((a.forms.length : Int) != (b.forms.length : Int)) = false by rw [hab]; simp]
        simp only [Option.bind_some, Tok.untok_tok, cond_false, e]
        by_cases e2 : a.forms = b.forms <;> simp [i0, e2]
      · have : ¬ (a.forms = b.forms) := fun e => hab (by rw [e])
        rw [show ((a.forms.length : Int) != (b.forms.length : Int)) = true from bne_t (by omega)]
        simp [i0, this]
    · simp [i0])
end Go.Proofs.Ytmpfeofeokmooaa.V
namespace Go.Proofs.Ytmpfeofeokmooaa.V
open Go
end Go.Proofs.Ytmpfeofeokmooaa.V
namespace Go.Proofs.Ytmpfeofeokmooaa.V
open Go
def fldB (f : Fld) : List UInt8 := cnt f.id.toNat ++ cnt f.kind.toNat ++ (if f.kind = 1 then cnt (zz f.lo) ++ cnt (zz f.hi) else if f.kind = 3 ∨ f.kind = 4 then cnt f.most.toNat else [])
def fldsB (l : List Fld) : List UInt8 := (l.map fldB).flatten
def frmB (f : Frm) : List UInt8 := cnt f.id.toNat ++ cnt f.fields.length ++ fldsB f.fields
def frmsB (l : List Frm) : List UInt8 := (l.map frmB).flatten
def schB (s : Sch) : List UInt8 := cnt s.ver.toNat ++ cnt s.forms.length ++ frmsB s.forms
abbrev St := List UInt8 × Int
def tkFld (q : St) : Fld × St :=
  if (countS (countS q.1 q.2 255).2.1 (countS q.1 q.2 255).2.2 4).1 = 1 then
    (⟨(countS q.1 q.2 255).1, (countS (countS q.1 q.2 255).2.1 (countS q.1 q.2 255).2.2 4).1,
      (numS (countS (countS q.1 q.2 255).2.1 (countS q.1 q.2 255).2.2 4).2.1 (countS (countS q.1 q.2 255).2.1 (countS q.1 q.2 255).2.2 4).2.2).1,
      (numS (numS (countS (countS q.1 q.2 255).2.1 (countS q.1 q.2 255).2.2 4).2.1 (countS (countS q.1 q.2 255).2.1 (countS q.1 q.2 255).2.2 4).2.2).2.1 (numS (countS (countS q.1 q.2 255).2.1 (countS q.1 q.2 255).2.2 4).2.1 (countS (countS q.1 q.2 255).2.1 (countS q.1 q.2 255).2.2 4).2.2).2.2).1, 0⟩,
     (numS (numS (countS (countS q.1 q.2 255).2.1 (countS q.1 q.2 255).2.2 4).2.1 (countS (countS q.1 q.2 255).2.1 (countS q.1 q.2 255).2.2 4).2.2).2.1 (numS (countS (countS q.1 q.2 255).2.1 (countS q.1 q.2 255).2.2 4).2.1 (countS (countS q.1 q.2 255).2.1 (countS q.1 q.2 255).2.2 4).2.2).2.2).2)
  else if (countS (countS q.1 q.2 255).2.1 (countS q.1 q.2 255).2.2 4).1 = 3 ∨ (countS (countS q.1 q.2 255).2.1 (countS q.1 q.2 255).2.2 4).1 = 4 then
    (⟨(countS q.1 q.2 255).1, (countS (countS q.1 q.2 255).2.1 (countS q.1 q.2 255).2.2 4).1, 0, 0,
      (countS (countS (countS q.1 q.2 255).2.1 (countS q.1 q.2 255).2.2 4).2.1 (countS (countS q.1 q.2 255).2.1 (countS q.1 q.2 255).2.2 4).2.2 1000).1⟩,
     (countS (countS (countS q.1 q.2 255).2.1 (countS q.1 q.2 255).2.2 4).2.1 (countS (countS q.1 q.2 255).2.1 (countS q.1 q.2 255).2.2 4).2.2 1000).2)
  else (⟨(countS q.1 q.2 255).1, (countS (countS q.1 q.2 255).2.1 (countS q.1 q.2 255).2.2 4).1, 0, 0, 0⟩, (countS (countS q.1 q.2 255).2.1 (countS q.1 q.2 255).2.2 4).2)
def tkFlds : Nat → St → List Fld × St
  | 0, q => ([], q)
  | n + 1, q => ((tkFld q).1 :: (tkFlds n (tkFld q).2).1, (tkFlds n (tkFld q).2).2)
def tkFrm (q : St) : Frm × St :=
  (⟨(countS q.1 q.2 200).1, (tkFlds (countS (countS q.1 q.2 200).2.1 (countS q.1 q.2 200).2.2 8).1.toNat (countS (countS q.1 q.2 200).2.1 (countS q.1 q.2 200).2.2 8).2).1⟩,
   (tkFlds (countS (countS q.1 q.2 200).2.1 (countS q.1 q.2 200).2.2 8).1.toNat (countS (countS q.1 q.2 200).2.1 (countS q.1 q.2 200).2.2 8).2).2)
def tkFrms : Nat → St → List Frm × St
  | 0, q => ([], q)
  | n + 1, q => ((tkFrm q).1 :: (tkFrms n (tkFrm q).2).1, (tkFrms n (tkFrm q).2).2)
def tkSch (b : List UInt8) : Sch × St :=
  (⟨(countS b 0 65535).1, (tkFrms (countS (countS b 0 65535).2.1 (countS b 0 65535).2.2 8).1.toNat (countS (countS b 0 65535).2.1 (countS b 0 65535).2.2 8).2).1⟩,
   (tkFrms (countS (countS b 0 65535).2.1 (countS b 0 65535).2.2 8).1.toNat (countS (countS b 0 65535).2.1 (countS b 0 65535).2.2 8).2).2)
def parS (b : List UInt8) : Sch × Int :=
  if endS (tkSch b).2.1 (tkSch b).2.2 ≠ 0 then (⟨0, []⟩, endS (tkSch b).2.1 (tkSch b).2.2)
  else if schS (tkSch b).1 then ((tkSch b).1, 0) else (⟨0, []⟩, 2)
theorem tkFld_len (q : St) : (tkFld q).2.1.length ≤ q.1.length := by
  unfold tkFld
  have h1 := countS_len q.1 q.2 255
  have h2 := countS_len (countS q.1 q.2 255).2.1 (countS q.1 q.2 255).2.2 4
  split
  · exact Nat.le_trans (grpS_len _ _) (Nat.le_trans (grpS_len _ _) (Nat.le_trans h2 h1))
  · split
    · exact Nat.le_trans (countS_len _ _ _) (Nat.le_trans h2 h1)
    · exact Nat.le_trans h2 h1
theorem tkFlds_len : ∀ (n : Nat) (q : St), (tkFlds n q).2.1.length ≤ q.1.length
  | 0, q => Nat.le_refl _
  | n + 1, q => Nat.le_trans (tkFlds_len n _) (tkFld_len q)
theorem tkFrm_len (q : St) : (tkFrm q).2.1.length ≤ q.1.length :=
  Nat.le_trans (tkFlds_len _ _) (Nat.le_trans (countS_len _ _ _) (countS_len _ _ _))
theorem tkFlds_n : ∀ (n : Nat) (q : St), (tkFlds n q).1.length = n
  | 0, q => rfl
  | n + 1, q => by simp [tkFlds, tkFlds_n n]
theorem tkFrms_n : ∀ (n : Nat) (q : St), (tkFrms n q).1.length = n
  | 0, q => rfl
  | n + 1, q => by simp [tkFrms, tkFrms_n n]
theorem tkFld_fldB (f : Fld) (hf : f.ok) (hr : rgtS f = true) (rest : List UInt8) : tkFld (fldB f ++ rest, 0) = (f, (rest, 0)) := by
  have r := rgt_rng hr
  obtain ⟨_, ⟨_, _⟩, ⟨_, _⟩, ⟨_, _⟩, ⟨_, _⟩⟩ := hf
  have e1 : ∀ t, countS (cnt f.id.toNat ++ t) 0 255 = (f.id, t, 0) := fun t => by rw [countS_cnt (by omega) (by omega), Int.toNat_of_nonneg (by omega)]
  have e2 : ∀ t, countS (cnt f.kind.toNat ++ t) 0 4 = (f.kind, t, 0) := fun t => by rw [countS_cnt (by omega) (by omega), Int.toNat_of_nonneg (by omega)]
  have e3 : ∀ t, countS (cnt f.most.toNat ++ t) 0 1000 = (f.most, t, 0) := fun t => by rw [countS_cnt (by omega) (by omega), Int.toNat_of_nonneg (by omega)]
  have e4 : ∀ t, numS (cnt (zz f.lo) ++ t) 0 = (f.lo, t, 0) := fun t => numS_cnt (by omega) (by omega) t
  have e5 : ∀ t, numS (cnt (zz f.hi) ++ t) 0 = (f.hi, t, 0) := fun t => numS_cnt (by omega) (by omega) t
  obtain ⟨id, kind, lo, hi, most⟩ := f
  simp only at *
  unfold tkFld fldB
  simp only [List.append_assoc, e1, e2]
  by_cases k1 : kind = 1
  · subst k1
    have := (r.2.2.2.2.2.2.1 rfl).2.2.2
    subst this
    simp [e4, e5]
  · obtain ⟨z1, z2⟩ := r.2.2.2.2.2.1 k1
    subst z1; subst z2
    by_cases k3 : kind = 3 ∨ kind = 4
    · simp [k1, k3, e3]
    · have k2 : kind = 2 := by omega
      subst k2
      have := r.2.2.2.2.2.2.2.2.2.2.2 rfl
      subst this
      simp
theorem tkFlds_fldsB : ∀ (l : List Fld), (∀ f ∈ l, f.ok ∧ rgtS f = true) → ∀ rest, tkFlds l.length (fldsB l ++ rest, 0) = (l, (rest, 0))
  | [], _, rest => rfl
  | f :: l, h, rest => by
    have h1 := tkFld_fldB f (h f (by simp)).1 (h f (by simp)).2 (fldsB l ++ rest)
    have h2 := tkFlds_fldsB l (fun g hg => h g (by simp [hg])) rest
    have e : fldsB (f :: l) ++ rest = fldB f ++ (fldsB l ++ rest) := by simp [fldsB]
    rw [e, List.length_cons, tkFlds, h1, h2]
theorem fineS_iff (f : Frm) : fineS f = true ↔ (0 ≤ f.id ∧ f.id ≤ 200) ∧ (1 ≤ f.fields.length ∧ f.fields.length ≤ 8) ∧ longS f.fields ≤ 64 ∧ (∀ x ∈ f.fields, rgtS x = true) ∧ nodupI (f.fields.map Fld.id) = true := by
  unfold fineS
  simp only [Bool.and_eq_true, decide_eq_true_eq, List.all_eq_true, and_assoc]
theorem tkFrm_frmB (f : Frm) (hf : f.ok) (hr : fineS f = true) (rest : List UInt8) : tkFrm (frmB f ++ rest, 0) = (f, (rest, 0)) := by
  obtain ⟨h1, h2, _, h4, _⟩ := (fineS_iff f).1 hr
  unfold tkFrm frmB
  simp only [List.append_assoc]
  rw [countS_cnt (by omega) (by omega)]
  simp only
  rw [countS_cnt (by omega) (by omega)]
  simp only [Int.toNat_natCast]
  rw [tkFlds_fldsB f.fields (fun x hx => ⟨hf.2 x hx, h4 x hx⟩) rest, Int.toNat_of_nonneg h1.1]
theorem risingS_all : ∀ (l : List Frm) (n : Int), risingS n l = true → ∀ f ∈ l, fineS f = true
  | [], n, _, f, hf => by cases hf
  | g :: l, n, h, f, hf => by
    simp only [risingS, Bool.and_eq_true] at h
    rcases List.mem_cons.1 hf with rfl | hf
    · exact h.1.1
    · exact risingS_all l _ h.2 f hf
theorem tkFrms_frmsB : ∀ (l : List Frm), (∀ f ∈ l, f.ok ∧ fineS f = true) → ∀ rest, tkFrms l.length (frmsB l ++ rest, 0) = (l, (rest, 0))
  | [], _, rest => rfl
  | f :: l, h, rest => by
    have h1 := tkFrm_frmB f (h f (by simp)).1 (h f (by simp)).2 (frmsB l ++ rest)
    have h2 := tkFrms_frmsB l (fun g hg => h g (by simp [hg])) rest
    have e : frmsB (f :: l) ++ rest = frmB f ++ (frmsB l ++ rest) := by simp [frmsB]
    rw [e, List.length_cons, tkFrms, h1, h2]
theorem schS_iff (s : Sch) : schS s = true ↔ (1 ≤ s.ver ∧ s.ver ≤ 65535) ∧ s.forms.length ≤ 8 ∧ risingS (-1) s.forms = true := by
  unfold schS
  simp only [Bool.and_eq_true, decide_eq_true_eq, and_assoc]
theorem tkSch_schB (s : Sch) (hs : s.ok) (hr : schS s = true) : tkSch (schB s) = (s, ([], 0)) := by
  obtain ⟨h1, h2, h3⟩ := (schS_iff s).1 hr
  unfold tkSch schB
  rw [List.append_assoc, countS_cnt (by omega) (by omega)]
  simp only
  rw [countS_cnt (by omega) (by omega)]
  simp only [Int.toNat_natCast]
  have h := tkFrms_frmsB s.forms (fun f hf => ⟨hs.2 f hf, risingS_all _ _ h3 f hf⟩) []
  rw [List.append_nil] at h
  rw [h, Int.toNat_of_nonneg (by omega)]
theorem parS_schB (s : Sch) (hs : s.ok) (hr : schS s = true) : parS (schB s) = (s, 0) := by
  unfold parS
  rw [tkSch_schB s hs hr]
  simp [endS, hr]
def FldsOK (l : List Fld) : Prop := ∀ f ∈ l, f.ok ∧ rgtS f = true
end Go.Proofs.Ytmpfeofeokmooaa.V
namespace Go.Proofs.Ytmpfeofeokmooaa.V
open Go
theorem pow_le_i {i : Nat} (h : i ≤ 8) : 128 ≤ 2 ^ (64 - 7 * i) :=
  Nat.le_trans (by decide : 128 ≤ 2 ^ (64 - 7 * 8)) (Nat.pow_le_pow_right (by omega) (by omega))
theorem grp_inv : ∀ (l : List UInt8) (i a x j : Nat), i ≤ 9 → grp i a l = (x, j, 0) → ∃ u, u < 2 ^ (64 - 7 * i) ∧ (0 < i → 0 < u) ∧ x = a + u * 128 ^ i ∧ j = i + (cnt u).length ∧ l = cnt u ++ l.drop (cnt u).length
  | [], i, a, x, j, hi, h => by simp [grp] at h
  | c :: l, i, a, x, j, hi, h => by
    rw [grp] at h
    by_cases hb : (i = 9 ∧ 1 < c.toNat) ∨ (0 < i ∧ c.toNat = 0)
    · rw [if_pos hb] at h; simp at h
    · rw [if_neg hb] at h
      by_cases hc : c.toNat < 128
      · rw [if_pos hc] at h
        simp only [Prod.mk.injEq] at h
        obtain ⟨rfl, rfl, _⟩ := h
        have e : cnt c.toNat = [c] := by rw [cnt, if_pos hc, byt_self]
        refine ⟨c.toNat, ?_, fun h0 => by omega, rfl, by rw [e]; rfl, by rw [e]; rfl⟩
        by_cases h9 : i = 9
        · subst h9
          have : (2 : Nat) ^ (64 - 7 * 9) = 2 := by decide
          omega
        · have := pow_le_i (i := i) (by omega)
          omega
      · rw [if_neg hc] at h
        have h9 : i ≠ 9 := by intro h9; exact hb (Or.inl ⟨h9, by omega⟩)
        obtain ⟨u, h1, h2, h3, h4, h5⟩ := grp_inv l (i + 1) _ x j (by omega) h
        have hu := h2 (by omega)
        have hcl : c.toNat < 256 := c.toNat_lt
        have e : cnt (c.toNat % 128 + 128 * u) = c :: cnt u := by
          rw [cnt, if_neg (by omega)]
          have e1 : (c.toNat % 128 + 128 * u) / 128 = u := by omega
          have e2 : (c.toNat % 128 + 128 * u) % 128 + 128 = c.toNat := by omega
          rw [e1, e2, byt_self]
        refine ⟨c.toNat % 128 + 128 * u, ?_, fun _ => by omega, ?_, ?_, ?_⟩
        · have e3 : 64 - 7 * i = (64 - 7 * (i + 1)) + 7 := by omega
          rw [e3, Nat.pow_add]
          generalize 2 ^ (64 - 7 * (i + 1)) = p at h1
          have : (2 : Nat) ^ 7 = 128 := by decide
          rw [this]
          omega
        · rw [h3, Nat.pow_succ]
          generalize 128 ^ i = p
          rw [Nat.add_mul]
          have : u * (p * 128) = 128 * u * p := by rw [Nat.mul_comm p 128, ← Nat.mul_assoc, Nat.mul_comm u 128]
          omega
        · rw [e, List.length_cons]; omega
        · rw [e, List.length_cons, List.drop_succ_cons, List.cons_append, ← h5]
theorem zz_unz {u : Nat} : zz (unz u) = u := by unfold unz zz; split <;> split <;> omega
theorem grpS_inv {b : List UInt8} {e : Int} (h : (grpS b e).2.2 = 0) : e = 0 ∧ (grpS b e).1 < 18446744073709551616 ∧ b = cnt (grpS b e).1 ++ (grpS b e).2.1 := by
  unfold grpS at h ⊢
  by_cases he : e = 0
  · subst he
    simp only [ne_eq, not_true_eq_false, if_false] at h ⊢
    by_cases hg : (grp 0 0 b).2.2 = 0
    · obtain ⟨u, h1, _, h3, h4, h5⟩ := grp_inv b 0 0 (grp 0 0 b).1 (grp 0 0 b).2.1 (by omega) (by rw [← hg])
      simp only [hg, not_true_eq_false, if_false]
      simp only [Nat.pow_zero, Nat.mul_one, Nat.zero_add] at h3 h4
      rw [h3, h4]
      exact ⟨trivial, h1, h5⟩
    · simp [hg] at h
  · simp [he] at h
theorem numS_inv {b : List UInt8} {e : Int} (h : (numS b e).2.2 = 0) : e = 0 ∧ (-9223372036854775808 ≤ (numS b e).1 ∧ (numS b e).1 ≤ 9223372036854775807) ∧ b = cnt (zz (numS b e).1) ++ (numS b e).2.1 := by
  obtain ⟨h1, h2, h3⟩ := grpS_inv (b := b) (e := e) h
  exact ⟨h1, unz_range h2, by unfold numS; rw [zz_unz]; exact h3⟩
theorem countS_inv {b : List UInt8} {e m : Int} (h : (countS b e m).2.2 = 0) : e = 0 ∧ b = cnt (countS b e m).1.toNat ++ (countS b e m).2.1 := by
  unfold countS at h ⊢
  by_cases he : e = 0
  · subst he
    simp only [ne_eq, not_true_eq_false, if_false] at h ⊢
    by_cases hg : (grp 0 0 b).2.2 = 0
    · obtain ⟨u, h1, _, h3, h4, h5⟩ := grp_inv b 0 0 (grp 0 0 b).1 (grp 0 0 b).2.1 (by omega) (by rw [← hg])
      simp only [hg, not_true_eq_false, if_false] at h ⊢
      simp only [Nat.pow_zero, Nat.mul_one, Nat.zero_add] at h3 h4
      split at h
      · simp at h
      · rename_i ha
        rw [if_neg ha]
        split at h
        · simp at h
        · rename_i hb
          rw [if_neg hb]
          simp only [Int.toNat_natCast]
          rw [h3, h4]
          exact ⟨trivial, h5⟩
    · simp [hg] at h
  · simp [he] at h
theorem tkFld_inv {q : St} (h : (tkFld q).2.2 = 0) : q.2 = 0 ∧ q.1 = fldB (tkFld q).1 ++ (tkFld q).2.1 := by
  unfold tkFld at h ⊢
  unfold fldB
  by_cases k1 : (countS (countS q.1 q.2 255).2.1 (countS q.1 q.2 255).2.2 4).1 = 1
  · simp only [k1, if_true] at h ⊢
    obtain ⟨a1, _, a2⟩ := numS_inv h
    obtain ⟨b1, _, b2⟩ := numS_inv a1
    obtain ⟨c1, c2⟩ := countS_inv b1
    obtain ⟨d1, d2⟩ := countS_inv c1
    refine ⟨d1, ?_⟩
    rw [k1] at c2
    simp only [List.append_assoc]
    rw [← a2, ← b2, ← c2]
    exact d2
  · by_cases k3 : (countS (countS q.1 q.2 255).2.1 (countS q.1 q.2 255).2.2 4).1 = 3 ∨ (countS (countS q.1 q.2 255).2.1 (countS q.1 q.2 255).2.2 4).1 = 4
    · simp only [k1, k3, if_true, if_false] at h ⊢
      obtain ⟨a1, a2⟩ := countS_inv h
      obtain ⟨c1, c2⟩ := countS_inv a1
      obtain ⟨d1, d2⟩ := countS_inv c1
      refine ⟨d1, ?_⟩
      simp only [List.append_assoc]
      rw [← a2, ← c2]
      exact d2
    · simp only [k1, k3, if_false] at h ⊢
      obtain ⟨c1, c2⟩ := countS_inv h
      obtain ⟨d1, d2⟩ := countS_inv c1
      refine ⟨d1, ?_⟩
      simp only [List.append_assoc, List.nil_append]
      rw [← c2]
      exact d2
theorem tkFlds_inv : ∀ (n : Nat) (q : St), (tkFlds n q).2.2 = 0 → q.2 = 0 ∧ q.1 = fldsB (tkFlds n q).1 ++ (tkFlds n q).2.1
  | 0, q, h => ⟨h, rfl⟩
  | n + 1, q, h => by
    obtain ⟨h1, h2⟩ := tkFlds_inv n _ h
    obtain ⟨h3, h4⟩ := tkFld_inv h1
    refine ⟨h3, ?_⟩
    simp only [tkFlds, fldsB, List.map_cons, List.flatten_cons, List.append_assoc] at h2 ⊢
    rw [← h2]
    exact h4
theorem tkFrm_inv {q : St} (h : (tkFrm q).2.2 = 0) : q.2 = 0 ∧ q.1 = frmB (tkFrm q).1 ++ (tkFrm q).2.1 := by
  obtain ⟨a1, a2⟩ := tkFlds_inv _ _ h
  obtain ⟨b1, b2⟩ := countS_inv a1
  obtain ⟨c1, c2⟩ := countS_inv b1
  refine ⟨c1, ?_⟩
  simp only [tkFrm, frmB, tkFlds_n, List.append_assoc]
  rw [← a2, ← b2]
  exact c2
theorem tkFrms_inv : ∀ (n : Nat) (q : St), (tkFrms n q).2.2 = 0 → q.2 = 0 ∧ q.1 = frmsB (tkFrms n q).1 ++ (tkFrms n q).2.1
  | 0, q, h => ⟨h, rfl⟩
  | n + 1, q, h => by
    obtain ⟨h1, h2⟩ := tkFrms_inv n _ h
    obtain ⟨h3, h4⟩ := tkFrm_inv h1
    refine ⟨h3, ?_⟩
    simp only [tkFrms, frmsB, List.map_cons, List.flatten_cons, List.append_assoc] at h2 ⊢
    rw [← h2]
    exact h4
theorem parS_inv {b : List UInt8} (h : (parS b).2 = 0) : schS (parS b).1 = true ∧ schB (parS b).1 = b := by
  unfold parS at h ⊢
  by_cases he : endS (tkSch b).2.1 (tkSch b).2.2 = 0
  · rw [if_neg (by simpa using he)] at h ⊢
    by_cases hs : schS (tkSch b).1 = true
    · rw [if_pos hs]
      refine ⟨hs, ?_⟩
      have h0 : (tkSch b).2.2 = 0 := by
        unfold endS at he
        split at he
        · exact he
        · rename_i h; simpa using h
      have h1 : (tkSch b).2.1 = [] := by
        unfold endS at he
        rw [if_neg (by simpa using h0)] at he
        split at he
        · assumption
        · cases he
      obtain ⟨a1, a2⟩ := tkFrms_inv _ _ h0
      obtain ⟨b1, b2⟩ := countS_inv a1
      obtain ⟨c1, c2⟩ := countS_inv b1
      have e : (tkFrms (countS (countS b 0 65535).2.1 (countS b 0 65535).2.2 8).1.toNat (countS (countS b 0 65535).2.1 (countS b 0 65535).2.2 8).2).2.1 = [] := h1
      rw [e, List.append_nil] at a2
      simp only [tkSch, schB, tkFrms_n, List.append_assoc]
      rw [← a2, ← b2]
      exact c2.symm
    · rw [if_neg hs] at h
      cases h
  · rw [if_pos he] at h
    exact absurd h he
end Go.Proofs.Ytmpfeofeokmooaa.V
namespace Go.Proofs.Ytmpfeofeokmooaa.V
open Go
def Stp.ok (x : Stp) : Prop := i64 x.op ∧ i64 x.form ∧ i64 x.field ∧ i64 x.place ∧ i64 x.to ∧ i64 x.a ∧ i64 x.b ∧ x.f.ok ∧ i64 x.n ∧ (∀ n ∈ x.t, i64 n) ∧ ∀ f ∈ x.fields, f.ok
def Stp.sml (x : Stp) : Prop := x.t.length ≤ 211106232532992 ∧ x.fields.length ≤ 211106232532992
def opsL : List Int := [1, 2, 3, 4, 5, 6, 7, 8, 9, 10, 21, 22, 23, 24, 25, 26, 27, 28, 29, 30]
def usesS (op : Int) : List Int :=
  if op = 1 then [0, 2, 6, 7] else if op = 22 then [0, 2, 6, 7] else if op = 2 then [0, 1, 7] else if op = 3 then [0, 1, 6] else if op = 23 then [0, 1, 6]
  else if op = 4 then [0, 1, 5] else if op = 24 then [0, 1, 5, 6] else if op = 5 then [0, 1, 4, 8] else if op = 25 then [0, 1, 8] else if op = 6 then [0, 1, 4, 3]
  else if op = 26 then [0, 1, 4, 3, 6] else if op = 7 then [0, 1, 2] else if op = 27 then [0, 1, 2] else if op = 8 then [0, 1, 3] else if op = 28 then [0, 1, 3]
  else if op = 9 then [0, 9] else if op = 30 then [0, 9] else if op = 10 then [0] else if op = 29 then [0] else if op = 21 then [0, 1] else []
def hasS (op p : Int) : Bool := (usesS op).contains p
def inS (n lo hi : Int) : Bool := decide (lo ≤ n) && decide (n ≤ hi)
def longestS (f : Fld) : Int := if f.kind = 4 then f.most else 0
def hasV (f : Fld) (n : Int) (s : List UInt8) : Bool := rgtS f && (inS n (loS f) (hiS f) && decide ((s.length : Int) ≤ longestS f))
def apartS (l : List Int) (below : Int) : Bool := (l.all fun n => inS n 0 (below - 1)) && nodupI l && decide (1 ≤ l.length ∧ l.length ≤ 64)
def fitsS (x : Stp) (p : Int) : Bool :=
  if p = 0 then inS x.form 0 200 else if p = 1 then inS x.field 0 255 else if p = 2 then inS x.place 0 8 else if p = 3 then inS x.to 0 255 && x.to != x.field
  else if p = 4 then (if x.op = 5 then inS x.a 1 1000 else inS x.a 2 1048576)
  else if p = 5 then inS x.a (-1048576) 1048576 && (x.a != 0 && inS x.b (-1099511627776) 1099511627776)
  else if p = 6 then rgtS x.f && (x.op == 1 || (x.op == 22 || x.f.id == x.field))
  else if p = 7 then (if x.op = 2 then inS x.n (-1099511627776) 1099511627776 && decide ((x.s.length : Int) ≤ 32) else hasV x.f x.n x.s)
  else if p = 8 then apartS x.t (if x.op = 5 then x.a else 1000)
  else fineS ⟨x.form, x.fields⟩
def fld0 : Fld := ⟨0, 0, 0, 0, 0⟩
def onlyS (x : Stp) : Stp :=
  ⟨x.op, if hasS x.op 0 then x.form else 0, if hasS x.op 1 then x.field else 0, if hasS x.op 2 then x.place else 0, if hasS x.op 3 then x.to else 0,
    if hasS x.op 4 || hasS x.op 5 then x.a else 0, if hasS x.op 5 then x.b else 0, if hasS x.op 6 then x.f else fld0, if hasS x.op 7 then x.n else 0, if hasS x.op 7 then x.s else [],
    if hasS x.op 8 then x.t else [], if hasS x.op 9 then x.fields else []⟩
def tRightS (x : Stp) : Bool := (usesS x.op).all (fitsS x) && (!(usesS x.op).isEmpty && decide (x = onlyS x))
theorem op_in (op : Int) : op ∈ opsL ∨ (op ∉ opsL ∧ usesS op = []) := by
  by_cases h : op ∈ opsL
  · exact .inl h
  · refine .inr ⟨h, ?_⟩
    simp only [opsL, List.mem_cons, List.not_mem_nil, or_false, not_or] at h
    obtain ⟨h1, h2, h3, h4, h5, h6, h7, h8, h9, h10, h11, h12, h13, h14, h15, h16, h17, h18, h19, h20⟩ := h
    simp only [usesS, h1, h2, h3, h4, h5, h6, h7, h8, h9, h10, h11, h12, h13, h14, h15, h16, h17, h18, h19, h20, if_false]
theorem op_all {p : Int → Prop} (op : Int) (h : ∀ o ∈ opsL, p o) (h0 : op ∉ opsL → usesS op = [] → p op) : p op := by
  rcases op_in op with h1 | ⟨h1, h2⟩
  · exact h op h1
  · exact h0 h1 h2
theorem uses_bound (x : Stp) : ∀ (i : Nat) (p : Int), (usesS x.op)[i]? = some p → p = 8 → ((usesS x.op).take i).all (fitsS x) = true → 1 ≤ (if x.op = 5 then x.a else 1000) ∧ (if x.op = 5 then x.a else 1000) ≤ 1000 := by
  intro i p h1 h2 h3
  by_cases ho : x.op = 5
  · subst h2
    have hu : usesS x.op = [0, 1, 4, 8] := by rw [ho]; rfl
    rw [hu] at h1 h3
    match i, h1, h3 with
    | 3, _, h3 =>
      simp [fitsS, ho, inS] at h3
      simp only [ho, if_true]
      omega
    | 0, h1, _ => simp at h1
    | 1, h1, _ => simp at h1
    | 2, h1, _ => simp at h1
    | n + 4, h1, _ => simp at h1
  · simp [ho]
theorem uses_len (op : Int) : (usesS op).length ≤ 5 := by
  refine op_all (p := fun op => (usesS op).length ≤ 5) op ?_ ?_
  · decide
  · intro _ h; simp [h]
end Go.Proofs.Ytmpfeofeokmooaa.V
namespace Go.Proofs.Ytmpfeofeokmooaa.V
open Go
def fldW (f : Fld) : List UInt8 := cnt f.id.toNat ++ (cnt f.kind.toNat ++ (cnt (zz f.lo) ++ (cnt (zz f.hi) ++ cnt f.most.toNat)))
def fldsW (l : List Fld) : List UInt8 := (l.map fldW).flatten
def intsB (l : List Int) : List UInt8 := (l.map fun n => cnt n.toNat).flatten
def prtB (x : Stp) (p : Int) : List UInt8 :=
  if p = 0 then cnt x.form.toNat else if p = 1 then cnt x.field.toNat else if p = 2 then cnt x.place.toNat else if p = 3 then cnt x.to.toNat
  else if p = 4 then cnt x.a.toNat else if p = 5 then cnt (zz x.a) ++ cnt (zz x.b) else if p = 6 then fldW x.f
  else if p = 7 then cnt (zz x.n) ++ (cnt x.s.length ++ x.s) else if p = 8 then cnt x.t.length ++ intsB x.t
  else cnt x.fields.length ++ fldsW x.fields
def prtsB (x : Stp) (l : List Int) : List UInt8 := (l.map (prtB x)).flatten
def stpB (x : Stp) : List UInt8 := cnt x.op.toNat ++ prtsB x (usesS x.op)
def stpsB (l : List Stp) : List UInt8 := (l.map stpB).flatten
def lstB (l : List Stp) : List UInt8 := cnt l.length ++ stpsB l
def cS (q : St) (m : Int) : Int × St := countS q.1 q.2 m
def nS (q : St) : Int × St := numS q.1 q.2
def xS (q : St) (m : Int) : List UInt8 × St := textS q.1 q.2 m
def tkFldW (q : St) : Fld × St :=
  (⟨(cS q 255).1, (cS (cS q 255).2 4).1, (nS (cS (cS q 255).2 4).2).1, (nS (nS (cS (cS q 255).2 4).2).2).1, (cS (nS (nS (cS (cS q 255).2 4).2).2).2 1000).1⟩, (cS (nS (nS (cS (cS q 255).2 4).2).2).2 1000).2)
def tkFldsW : Nat → St → List Fld × St
  | 0, q => ([], q)
  | n + 1, q => ((tkFldW q).1 :: (tkFldsW n (tkFldW q).2).1, (tkFldsW n (tkFldW q).2).2)
def tkInts : Nat → St → List Int × St
  | 0, q => ([], q)
  | n + 1, q => ((cS q 1000).1 :: (tkInts n (cS q 1000).2).1, (tkInts n (cS q 1000).2).2)
def setP (x : Stp) (p : Int) (q : St) : Stp × St :=
  if p = 0 then ({ x with form := (cS q 200).1 }, (cS q 200).2) else if p = 1 then ({ x with field := (cS q 255).1 }, (cS q 255).2)
  else if p = 2 then ({ x with place := (cS q 8).1 }, (cS q 8).2) else if p = 3 then ({ x with to := (cS q 255).1 }, (cS q 255).2)
  else if p = 4 then ({ x with a := (cS q 1048576).1 }, (cS q 1048576).2) else if p = 5 then ({ x with a := (nS q).1, b := (nS (nS q).2).1 }, (nS (nS q).2).2)
  else if p = 6 then ({ x with f := (tkFldW q).1 }, (tkFldW q).2) else if p = 7 then ({ x with n := (nS q).1, s := (xS (nS q).2 32).1 }, (xS (nS q).2 32).2)
  else if p = 8 then ({ x with t := x.t ++ (tkInts (cS q 64).1.toNat (cS q 64).2).1 }, (tkInts (cS q 64).1.toNat (cS q 64).2).2)
  else ({ x with fields := x.fields ++ (tkFldsW (cS q 8).1.toNat (cS q 8).2).1 }, (tkFldsW (cS q 8).1.toNat (cS q 8).2).2)
def rdPs : List Int → Stp → St → Stp × St
  | [], x, q => (x, q)
  | p :: l, x, q => rdPs l (setP x p q).1 (setP x p q).2
def stp0 (op : Int) : Stp := ⟨op, 0, 0, 0, 0, 0, 0, fld0, 0, [], [], []⟩
def tkStp (q : St) : Stp × St := rdPs (usesS (cS q 30).1) (stp0 (cS q 30).1) (cS q 30).2
def tkStps : Nat → St → List Stp × St
  | 0, q => ([], q)
  | n + 1, q => ((tkStp q).1 :: (tkStps n (tkStp q).2).1, (tkStps n (tkStp q).2).2)
def tkLst (b : List UInt8) : List Stp × St := tkStps (cS (b, 0) 40).1.toNat (cS (b, 0) 40).2
def parT (b : List UInt8) : List Stp × Int :=
  if endS (tkLst b).2.1 (tkLst b).2.2 ≠ 0 then ([], endS (tkLst b).2.1 (tkLst b).2.2)
  else if (tkLst b).1.all tRightS then ((tkLst b).1, 0) else ([], 2)
theorem cS_len (q : St) (m : Int) : (cS q m).2.1.length ≤ q.1.length := countS_len _ _ _
theorem nS_len (q : St) : (nS q).2.1.length ≤ q.1.length := grpS_len _ _
theorem xS_len (q : St) (m : Int) : (xS q m).2.1.length ≤ q.1.length := textS_len _ _ _
theorem tkFldW_len (q : St) : (tkFldW q).2.1.length ≤ q.1.length :=
  Nat.le_trans (cS_len _ _) (Nat.le_trans (nS_len _) (Nat.le_trans (nS_len _) (Nat.le_trans (cS_len _ _) (cS_len _ _))))
theorem tkFldsW_len : ∀ (n : Nat) (q : St), (tkFldsW n q).2.1.length ≤ q.1.length
  | 0, q => Nat.le_refl _
  | n + 1, q => Nat.le_trans (tkFldsW_len n _) (tkFldW_len q)
theorem tkInts_len : ∀ (n : Nat) (q : St), (tkInts n q).2.1.length ≤ q.1.length
  | 0, q => Nat.le_refl _
  | n + 1, q => Nat.le_trans (tkInts_len n _) (cS_len q _)
theorem setP_len (x : Stp) (p : Int) (q : St) : (setP x p q).2.1.length ≤ q.1.length := by
  unfold setP
  repeat' split
  all_goals first | exact cS_len _ _ | exact Nat.le_trans (nS_len _) (nS_len _) | exact tkFldW_len _ | exact Nat.le_trans (xS_len _ _) (nS_len _) | exact Nat.le_trans (tkInts_len _ _) (cS_len _ _) | exact Nat.le_trans (tkFldsW_len _ _) (cS_len _ _)
theorem rdPs_len : ∀ (l : List Int) (x : Stp) (q : St), (rdPs l x q).2.1.length ≤ q.1.length
  | [], x, q => Nat.le_refl _
  | p :: l, x, q => Nat.le_trans (rdPs_len l _ _) (setP_len x p q)
theorem tkStp_len (q : St) : (tkStp q).2.1.length ≤ q.1.length := Nat.le_trans (rdPs_len _ _ _) (cS_len _ _)
theorem tkInts_n : ∀ (n : Nat) (q : St), (tkInts n q).1.length = n
  | 0, q => rfl
  | n + 1, q => by simp [tkInts, tkInts_n n]
theorem tkFldsW_n : ∀ (n : Nat) (q : St), (tkFldsW n q).1.length = n
  | 0, q => rfl
  | n + 1, q => by simp [tkFldsW, tkFldsW_n n]
theorem tkStps_n : ∀ (n : Nat) (q : St), (tkStps n q).1.length = n
  | 0, q => rfl
  | n + 1, q => by simp [tkStps, tkStps_n n]
theorem cS_cnt {n m : Int} (h0 : 0 ≤ n) (h1 : n ≤ m) (hm : m ≤ 1048576) (t : List UInt8) : cS (cnt n.toNat ++ t, 0) m = (n, (t, 0)) := by
  unfold cS
  rw [countS_cnt (by omega) (by omega), Int.toNat_of_nonneg h0]
theorem nS_cnt {n : Int} (h : i64 n) (t : List UInt8) : nS (cnt (zz n) ++ t, 0) = (n, (t, 0)) := numS_cnt h.1 h.2 t
theorem xS_cnt {s : List UInt8} {m : Int} (h : (s.length : Int) ≤ m) (hm : m ≤ 1048576) (t : List UInt8) : xS (cnt s.length ++ (s ++ t), 0) m = (s, (t, 0)) := by
  unfold xS textS
  rw [countS_cnt (by omega) h]
  have h2 : ¬ s.length + t.length < s.length := by omega
  unfold takeS
  simp [h2]
theorem tkFldW_fldW (f : Fld) (hf : f.ok) (hr : rgtS f = true) (rest : List UInt8) : tkFldW (fldW f ++ rest, 0) = (f, (rest, 0)) := by
  have r := rgt_rng hr
  obtain ⟨_, ⟨_, _⟩, g1, g2, ⟨_, _⟩⟩ := hf
  unfold tkFldW fldW
  simp only [List.append_assoc]
  rw [cS_cnt (by omega) (by omega) (by omega)]
  simp only
  rw [cS_cnt (by omega) (by omega) (by omega)]
  simp only
  rw [nS_cnt g1]
  simp only
  rw [nS_cnt g2]
  simp only
  rw [cS_cnt (by omega) (by omega) (by omega)]
theorem tkFldsW_fldsW : ∀ (l : List Fld), (∀ f ∈ l, f.ok ∧ rgtS f = true) → ∀ rest, tkFldsW l.length (fldsW l ++ rest, 0) = (l, (rest, 0))
  | [], _, rest => rfl
  | f :: l, h, rest => by
    have h1 := tkFldW_fldW f (h f (by simp)).1 (h f (by simp)).2 (fldsW l ++ rest)
    have h2 := tkFldsW_fldsW l (fun g hg => h g (by simp [hg])) rest
    have e : fldsW (f :: l) ++ rest = fldW f ++ (fldsW l ++ rest) := by simp [fldsW]
    rw [e, List.length_cons, tkFldsW, h1, h2]
theorem tkInts_intsB : ∀ (l : List Int), (∀ n ∈ l, 0 ≤ n ∧ n ≤ 1000) → ∀ rest, tkInts l.length (intsB l ++ rest, 0) = (l, (rest, 0))
  | [], _, rest => rfl
  | n :: l, h, rest => by
    have h1 := cS_cnt (h n (by simp)).1 (h n (by simp)).2 (by omega) (intsB l ++ rest)
    have h2 := tkInts_intsB l (fun g hg => h g (by simp [hg])) rest
    have e : intsB (n :: l) ++ rest = cnt n.toNat ++ (intsB l ++ rest) := by simp [intsB]
    rw [e, List.length_cons, tkInts, h1, h2]
def cpP (x y : Stp) (p : Int) : Stp :=
  if p = 0 then { y with form := x.form } else if p = 1 then { y with field := x.field } else if p = 2 then { y with place := x.place } else if p = 3 then { y with to := x.to }
  else if p = 4 then { y with a := x.a } else if p = 5 then { y with a := x.a, b := x.b } else if p = 6 then { y with f := x.f } else if p = 7 then { y with n := x.n, s := x.s }
  else if p = 8 then { y with t := y.t ++ x.t } else { y with fields := y.fields ++ x.fields }
theorem pr_cases {p : Int} (hp : 0 ≤ p ∧ p ≤ 9) : p = 0 ∨ p = 1 ∨ p = 2 ∨ p = 3 ∨ p = 4 ∨ p = 5 ∨ p = 6 ∨ p = 7 ∨ p = 8 ∨ p = 9 := by omega
theorem fineS_fld {x : Stp} (h : fineS ⟨x.form, x.fields⟩ = true) : x.fields.length ≤ 8 ∧ ∀ f ∈ x.fields, rgtS f = true := by
  obtain ⟨_, h2, _, h4, _⟩ := (fineS_iff _).1 h
  exact ⟨h2.2, h4⟩
theorem hasV_s {f : Fld} {n : Int} {s : List UInt8} (h : hasV f n s = true) : s.length ≤ 32 := by
  simp only [hasV, Bool.and_eq_true, decide_eq_true_eq] at h
  obtain ⟨g1, _, g2⟩ := h
  unfold longestS at g2
  by_cases k : f.kind = 4
  · rw [if_pos k] at g2
    rw [rgtS_4 k] at g1
    simp only [Bool.and_eq_true, decide_eq_true_eq] at g1
    omega
  · rw [if_neg k] at g2
    omega
def Fits (x : Stp) (p : Int) : Prop := (0 ≤ p ∧ p ≤ 9) ∧ fitsS x p = true ∧ (p = 8 → (if x.op = 5 then x.a else 1000) ≤ 1000)
theorem fits_s {x : Stp} (h : fitsS x 7 = true) : x.s.length ≤ 32 := by
  simp [fitsS, inS] at h
  split at h
  · omega
  · exact hasV_s h
theorem fits_t {x : Stp} (h : Fits x 8) : (∀ n ∈ x.t, 0 ≤ n ∧ n ≤ 1000) ∧ x.t.length ≤ 64 := by
  obtain ⟨_, h2, h3⟩ := h
  simp [fitsS, apartS, inS] at h2
  have := h3 rfl
  exact ⟨fun n hn => by have := h2.1.1 n hn; omega, h2.2.2⟩
theorem fits_l {x : Stp} (h : fitsS x 9 = true) : x.fields.length ≤ 8 ∧ ∀ f ∈ x.fields, rgtS f = true := by
  simp [fitsS] at h
  exact fineS_fld h
theorem setP_prtB (x y : Stp) (hx : x.ok) (p : Int) (hp : Fits x p) (rest : List UInt8) : setP y p (prtB x p ++ rest, 0) = (cpP x y p, (rest, 0)) := by
  obtain ⟨h1, h2, h3, h4, h5, h6, h7, h8, h9, h10, h11⟩ := hx
  have hp0 := hp
  obtain ⟨hr, hf, hb⟩ := hp
  rcases pr_cases hr with rfl | rfl | rfl | rfl | rfl | rfl | rfl | rfl | rfl | rfl <;> simp only [setP, prtB, cpP, if_true, Int.reduceEq, if_false, List.append_assoc]
  · simp [fitsS, inS] at hf
    rw [cS_cnt (by omega) (by omega) (by omega)]
  · simp [fitsS, inS] at hf
    rw [cS_cnt (by omega) (by omega) (by omega)]
  · simp [fitsS, inS] at hf
    rw [cS_cnt (by omega) (by omega) (by omega)]
  · simp [fitsS, inS] at hf
    rw [cS_cnt (by omega) (by omega) (by omega)]
  · simp [fitsS, inS] at hf
    have : 0 ≤ x.a ∧ x.a ≤ 1048576 := by split at hf <;> omega
    rw [cS_cnt (by omega) (by omega) (by omega)]
  · rw [nS_cnt h6]
    simp only
    rw [nS_cnt h7]
  · simp [fitsS, inS] at hf
    rw [tkFldW_fldW _ h8 hf.1]
  · have := fits_s hf
    rw [nS_cnt h9]
    simp only
    rw [xS_cnt (by omega) (by omega)]
  · obtain ⟨g1, g2⟩ := fits_t hp0
    have e := cS_cnt (n := (x.t.length : Int)) (m := 64) (by omega) (by omega) (by omega) (intsB x.t ++ rest)
    simp only [Int.toNat_natCast] at e
    rw [e]
    simp only [Int.toNat_natCast]
    rw [tkInts_intsB x.t g1]
  · obtain ⟨g1, g2⟩ := fits_l hf
    have e := cS_cnt (n := (x.fields.length : Int)) (m := 8) (by omega) (by omega) (by omega) (fldsW x.fields ++ rest)
    simp only [Int.toNat_natCast] at e
    rw [e]
    simp only [Int.toNat_natCast]
    rw [tkFldsW_fldsW x.fields (fun f hf => ⟨h11 f hf, g2 f hf⟩)]
theorem rdPs_prtsB (x : Stp) (hx : x.ok) : ∀ (l : List Int) (y : Stp), (∀ p ∈ l, Fits x p) → ∀ rest, rdPs l y (prtsB x l ++ rest, 0) = (l.foldl (cpP x) y, (rest, 0))
  | [], y, _, rest => rfl
  | p :: l, y, h, rest => by
    have e : prtsB x (p :: l) ++ rest = prtB x p ++ (prtsB x l ++ rest) := by simp [prtsB]
    rw [e, rdPs, setP_prtB x y hx p (h p (by simp)), List.foldl_cons]
    exact rdPs_prtsB x hx l _ (fun p hp => h p (by simp [hp])) rest
theorem uses_rng (op : Int) : ∀ p ∈ usesS op, 0 ≤ p ∧ p ≤ 9 := by
  refine op_all (p := fun op => ∀ p ∈ usesS op, 0 ≤ p ∧ p ≤ 9) op ?_ ?_
  · decide
  · intro _ h; simp [h]
theorem cp_only (x : Stp) : (usesS x.op).foldl (cpP x) (stp0 x.op) = onlyS x := by
  obtain ⟨op, form, field, place, to, a, b, f, n, s, t, fields⟩ := x
  refine op_all (p := fun op => (usesS (Stp.mk op form field place to a b f n s t fields).op).foldl (cpP ⟨op, form, field, place, to, a, b, f, n, s, t, fields⟩) (stp0 op) = onlyS ⟨op, form, field, place, to, a, b, f, n, s, t, fields⟩) op ?_ ?_
  · intro o ho
    simp only [opsL, List.mem_cons, List.not_mem_nil, or_false] at ho
    rcases ho with rfl | rfl | rfl | rfl | rfl | rfl | rfl | rfl | rfl | rfl | rfl | rfl | rfl | rfl | rfl | rfl | rfl | rfl | rfl | rfl <;> simp [usesS, cpP, stp0, onlyS, hasS]
  · intro _ h
    simp [h, stp0, onlyS, hasS]
theorem right_fits {x : Stp} (h : tRightS x = true) : (∀ p ∈ usesS x.op, Fits x p) ∧ x.op ∈ opsL ∧ x = onlyS x := by
  simp only [tRightS, Bool.and_eq_true, List.all_eq_true, decide_eq_true_eq, Bool.not_eq_true', List.isEmpty_eq_false_iff] at h
  obtain ⟨h1, h2, h3⟩ := h
  refine ⟨fun p hp => ⟨uses_rng _ p hp, h1 p hp, fun h8 => ?_⟩, ?_, h3⟩
  · obtain ⟨i, hi, e⟩ := List.mem_iff_getElem.1 hp
    exact (uses_bound x i p (by rw [← e]; exact List.getElem?_eq_getElem hi) h8 (List.all_eq_true.2 fun q hq => h1 q (List.mem_of_mem_take hq))).2
  · rcases op_in x.op with h | ⟨_, h⟩
    · exact h
    · exact absurd h h2
theorem ops_rng {op : Int} (h : op ∈ opsL) : 1 ≤ op ∧ op ≤ 30 := by
  revert op; decide
theorem tkStp_stpB (x : Stp) (hx : x.ok) (hr : tRightS x = true) (rest : List UInt8) : tkStp (stpB x ++ rest, 0) = (x, (rest, 0)) := by
  obtain ⟨h1, h2, h3⟩ := right_fits hr
  have h4 := ops_rng h2
  unfold tkStp stpB
  rw [List.append_assoc, cS_cnt (by omega) (by omega) (by omega)]
  simp only
  rw [rdPs_prtsB x hx _ _ h1, cp_only, ← h3]
theorem tkStps_stpsB : ∀ (l : List Stp), (∀ x ∈ l, x.ok ∧ tRightS x = true) → ∀ rest, tkStps l.length (stpsB l ++ rest, 0) = (l, (rest, 0))
  | [], _, rest => rfl
  | x :: l, h, rest => by
    have h1 := tkStp_stpB x (h x (by simp)).1 (h x (by simp)).2 (stpsB l ++ rest)
    have h2 := tkStps_stpsB l (fun g hg => h g (by simp [hg])) rest
    have e : stpsB (x :: l) ++ rest = stpB x ++ (stpsB l ++ rest) := by simp [stpsB]
    rw [e, List.length_cons, tkStps, h1, h2]
theorem parT_lstB (l : List Stp) (hl : l.length ≤ 40) (h : ∀ x ∈ l, x.ok ∧ tRightS x = true) : parT (lstB l) = (l, 0) := by
  have e : tkLst (lstB l) = (l, ([], 0)) := by
    have e := cS_cnt (n := (l.length : Int)) (m := 40) (by omega) (by omega) (by omega) (stpsB l)
    simp only [Int.toNat_natCast] at e
    have e2 := tkStps_stpsB l h []
    rw [List.append_nil] at e2
    unfold tkLst lstB
    rw [e]
    simp only [Int.toNat_natCast]
    exact e2
  have e2 : l.all tRightS = true := List.all_eq_true.2 fun x hx => (h x hx).2
  unfold parT
  rw [e]
  simp [endS, e2]
theorem cS_inv {q : St} {m : Int} (h : (cS q m).2.2 = 0) : q.2 = 0 ∧ q.1 = cnt (cS q m).1.toNat ++ (cS q m).2.1 := countS_inv h
theorem nS_inv {q : St} (h : (nS q).2.2 = 0) : q.2 = 0 ∧ q.1 = cnt (zz (nS q).1) ++ (nS q).2.1 := by
  obtain ⟨h1, _, h3⟩ := numS_inv h
  exact ⟨h1, h3⟩
theorem xS_inv {q : St} {m : Int} (h : (xS q m).2.2 = 0) : q.2 = 0 ∧ q.1 = cnt (xS q m).1.length ++ ((xS q m).1 ++ (xS q m).2.1) := by
  unfold xS textS at h ⊢
  simp only at h ⊢
  rw [if_neg (by omega)]
  unfold takeS at h ⊢
  by_cases he : (countS q.1 q.2 m).2.2 = 0
  · obtain ⟨h1, h2⟩ := countS_inv he
    simp only [he, ne_eq, not_true_eq_false, if_false] at h ⊢
    split at h
    · simp at h
    · rename_i hl
      rw [if_neg hl]
      simp only [List.take_append_drop]
      refine ⟨h1, ?_⟩
      rw [List.length_take, Nat.min_eq_left (by omega)]
      exact h2
  · simp only [he, ne_eq, not_false_eq_true, if_true] at h
theorem tkFldW_inv {q : St} (h : (tkFldW q).2.2 = 0) : q.2 = 0 ∧ q.1 = fldW (tkFldW q).1 ++ (tkFldW q).2.1 := by
  obtain ⟨a1, a2⟩ := cS_inv h
  obtain ⟨b1, b2⟩ := nS_inv a1
  obtain ⟨c1, c2⟩ := nS_inv b1
  obtain ⟨d1, d2⟩ := cS_inv c1
  obtain ⟨e1, e2⟩ := cS_inv d1
  refine ⟨e1, ?_⟩
  simp only [tkFldW, fldW, List.append_assoc]
  rw [← a2, ← b2, ← c2, ← d2]
  exact e2
theorem tkFldsW_inv : ∀ (n : Nat) (q : St), (tkFldsW n q).2.2 = 0 → q.2 = 0 ∧ q.1 = fldsW (tkFldsW n q).1 ++ (tkFldsW n q).2.1
  | 0, q, h => ⟨h, rfl⟩
  | n + 1, q, h => by
    obtain ⟨h1, h2⟩ := tkFldsW_inv n _ h
    obtain ⟨h3, h4⟩ := tkFldW_inv h1
    refine ⟨h3, ?_⟩
    simp only [tkFldsW, fldsW, List.map_cons, List.flatten_cons, List.append_assoc] at h2 ⊢
    rw [← h2]
    exact h4
theorem tkInts_inv : ∀ (n : Nat) (q : St), (tkInts n q).2.2 = 0 → q.2 = 0 ∧ q.1 = intsB (tkInts n q).1 ++ (tkInts n q).2.1
  | 0, q, h => ⟨h, rfl⟩
  | n + 1, q, h => by
    obtain ⟨h1, h2⟩ := tkInts_inv n _ h
    obtain ⟨h3, h4⟩ := cS_inv h1
    refine ⟨h3, ?_⟩
    simp only [tkInts, intsB, List.map_cons, List.flatten_cons, List.append_assoc] at h2 ⊢
    rw [← h2]
    exact h4
theorem setP_inv {x : Stp} {p : Int} {q : St} (hp : 0 ≤ p ∧ p ≤ 9) (h8 : p = 8 → x.t = []) (h9 : p = 9 → x.fields = []) (h : (setP x p q).2.2 = 0) : q.2 = 0 ∧ q.1 = prtB (setP x p q).1 p ++ (setP x p q).2.1 := by
  rcases pr_cases hp with rfl | rfl | rfl | rfl | rfl | rfl | rfl | rfl | rfl | rfl <;> simp only [setP, prtB, if_true, Int.reduceEq, if_false, List.append_assoc] at h ⊢
  · exact cS_inv h
  · exact cS_inv h
  · exact cS_inv h
  · exact cS_inv h
  · exact cS_inv h
  · obtain ⟨a1, a2⟩ := nS_inv h
    obtain ⟨b1, b2⟩ := nS_inv a1
    exact ⟨b1, by rw [← a2]; exact b2⟩
  · exact tkFldW_inv h
  · obtain ⟨a1, a2⟩ := xS_inv h
    obtain ⟨b1, b2⟩ := nS_inv a1
    exact ⟨b1, by rw [← a2]; exact b2⟩
  · obtain ⟨a1, a2⟩ := tkInts_inv _ _ h
    obtain ⟨b1, b2⟩ := cS_inv a1
    refine ⟨b1, ?_⟩
    rw [h8 rfl, List.nil_append, tkInts_n, ← a2]
    exact b2
  · obtain ⟨a1, a2⟩ := tkFldsW_inv _ _ h
    obtain ⟨b1, b2⟩ := cS_inv a1
    refine ⟨b1, ?_⟩
    rw [h9 rfl, List.nil_append, tkFldsW_n, ← a2]
    exact b2
def farP (p r : Int) : Bool := p != r && !(p == 4 && r == 5) && !(p == 5 && r == 4)
def okL : List Int → Bool
  | [] => true
  | p :: l => decide (0 ≤ p ∧ p ≤ 9) && (l.all fun r => farP p r) && okL l
theorem okL_uses (op : Int) : okL (usesS op) = true := by
  refine op_all (p := fun op => okL (usesS op) = true) op ?_ ?_
  · decide
  · intro _ h; simp [h, okL]
theorem setP_far (x : Stp) {p r : Int} (q : St) (hp : 0 ≤ p ∧ p ≤ 9) (hr : 0 ≤ r ∧ r ≤ 9) (h : farP p r = true) : prtB (setP x r q).1 p = prtB x p ∧ (p = 8 → (setP x r q).1.t = x.t) ∧ (p = 9 → (setP x r q).1.fields = x.fields) := by
  rcases pr_cases hp with rfl | rfl | rfl | rfl | rfl | rfl | rfl | rfl | rfl | rfl <;> rcases pr_cases hr with rfl | rfl | rfl | rfl | rfl | rfl | rfl | rfl | rfl | rfl <;> first | (exfalso; revert h; decide) | simp [setP, prtB]
theorem rdPs_far {p : Int} (hp : 0 ≤ p ∧ p ≤ 9) : ∀ (l : List Int) (x : Stp) (q : St), okL l = true → (∀ r ∈ l, farP p r = true) → prtB (rdPs l x q).1 p = prtB x p
  | [], x, q, _, _ => rfl
  | r :: l, x, q, ho, h => by
    simp only [okL, Bool.and_eq_true, decide_eq_true_eq] at ho
    rw [rdPs, rdPs_far hp l _ _ ho.2 (fun s hs => h s (by simp [hs]))]
    exact (setP_far x q hp ho.1.1 (h r (by simp))).1
theorem rdPs_inv : ∀ (l : List Int) (x : Stp) (q : St), okL l = true → (8 ∈ l → x.t = []) → (9 ∈ l → x.fields = []) → (rdPs l x q).2.2 = 0 → q.2 = 0 ∧ q.1 = prtsB (rdPs l x q).1 l ++ (rdPs l x q).2.1
  | [], x, q, _, _, _, h => ⟨h, rfl⟩
  | p :: l, x, q, ho, h8, h9, h => by
    simp only [okL, Bool.and_eq_true, decide_eq_true_eq, List.all_eq_true] at ho
    obtain ⟨⟨hp, hfar⟩, ho⟩ := ho
    have ho' := ho
    have sym : ∀ r, farP p r = true → farP r p = true := fun r => by unfold farP; simp only [Bool.and_eq_true, bne_iff_ne, Bool.not_eq_true', Bool.and_eq_false_iff, beq_eq_false_iff_ne]; grind
    have g8 : 8 ∈ l → (setP x p q).1.t = [] := fun hm => by
      rw [(setP_far x q (by omega) hp (sym _ (hfar 8 hm))).2.1 rfl]
      exact h8 (by simp [hm])
    have g9 : 9 ∈ l → (setP x p q).1.fields = [] := fun hm => by
      rw [(setP_far x q (by omega) hp (sym _ (hfar 9 hm))).2.2 rfl]
      exact h9 (by simp [hm])
    obtain ⟨a1, a2⟩ := rdPs_inv l _ _ ho' g8 g9 h
    obtain ⟨b1, b2⟩ := setP_inv hp (fun e => h8 (by simp [e])) (fun e => h9 (by simp [e])) a1
    refine ⟨b1, ?_⟩
    have e : prtsB (rdPs (p :: l) x q).1 (p :: l) = prtB (rdPs l (setP x p q).1 (setP x p q).2).1 p ++ prtsB (rdPs l (setP x p q).1 (setP x p q).2).1 l := by simp [prtsB, rdPs]
    rw [e, rdPs_far hp l _ _ ho' hfar, List.append_assoc]
    rw [rdPs, ← a2]
    exact b2
theorem setP_op (x : Stp) (p : Int) (q : St) : (setP x p q).1.op = x.op := by
  unfold setP
  repeat' split
  all_goals rfl
theorem rdPs_op : ∀ (l : List Int) (x : Stp) (q : St), (rdPs l x q).1.op = x.op
  | [], x, q => rfl
  | p :: l, x, q => by rw [rdPs, rdPs_op l, setP_op]
theorem tkStp_op (q : St) : (tkStp q).1.op = (cS q 30).1 := rdPs_op _ _ _
theorem tkStp_inv {q : St} (h : (tkStp q).2.2 = 0) : q.2 = 0 ∧ q.1 = stpB (tkStp q).1 ++ (tkStp q).2.1 := by
  obtain ⟨a1, a2⟩ := rdPs_inv _ _ _ (okL_uses _) (fun _ => rfl) (fun _ => rfl) h
  obtain ⟨b1, b2⟩ := cS_inv a1
  refine ⟨b1, ?_⟩
  unfold stpB
  rw [tkStp_op, List.append_assoc]
  simp only [tkStp]
  rw [← a2]
  exact b2
theorem tkStps_inv : ∀ (n : Nat) (q : St), (tkStps n q).2.2 = 0 → q.2 = 0 ∧ q.1 = stpsB (tkStps n q).1 ++ (tkStps n q).2.1
  | 0, q, h => ⟨h, rfl⟩
  | n + 1, q, h => by
    obtain ⟨h1, h2⟩ := tkStps_inv n _ h
    obtain ⟨h3, h4⟩ := tkStp_inv h1
    refine ⟨h3, ?_⟩
    simp only [tkStps, stpsB, List.map_cons, List.flatten_cons, List.append_assoc] at h2 ⊢
    rw [← h2]
    exact h4
theorem cS_rng (q : St) {m : Int} (hm : 0 ≤ m) : 0 ≤ (cS q m).1 ∧ (cS q m).1 ≤ m := by
  unfold cS countS
  repeat' split
  all_goals (try simp) <;> omega
theorem parT_inv {b : List UInt8} (h : (parT b).2 = 0) : (parT b).1.all tRightS = true ∧ (parT b).1.length ≤ 40 ∧ lstB (parT b).1 = b := by
  unfold parT at h ⊢
  by_cases he : endS (tkLst b).2.1 (tkLst b).2.2 = 0
  · rw [if_neg (by simpa using he)] at h ⊢
    by_cases hs : (tkLst b).1.all tRightS = true
    · rw [if_pos hs]
      have h0 : (tkLst b).2.2 = 0 := by
        unfold endS at he
        split at he
        · exact he
        · rename_i h; simpa using h
      have h1 : (tkLst b).2.1 = [] := by
        unfold endS at he
        rw [if_neg (by simpa using h0)] at he
        split at he
        · assumption
        · cases he
      obtain ⟨a1, a2⟩ := tkStps_inv _ _ h0
      obtain ⟨b1, b2⟩ := cS_inv a1
      have e : (tkStps (cS (b, 0) 40).1.toNat (cS (b, 0) 40).2).2.1 = [] := h1
      rw [e, List.append_nil] at a2
      have hr := cS_rng (b, 0) (m := 40) (by omega)
      refine ⟨hs, ?_, ?_⟩
      · unfold tkLst
        rw [tkStps_n]
        omega
      · simp only [tkLst, lstB, tkStps_n]
        rw [← a2]
        exact b2.symm
    · rw [if_neg hs] at h
      cases h
  · rw [if_pos he] at h
    exact absurd h he
end Go.Proofs.Ytmpfeofeokmooaa.V
namespace Go.Proofs.Ytmpfeofeokmooaa.V
open Go
open AV (int lst agg str bool ref clo)
open List (map)
abbrev stpO (x : Stp) (k m : Nm) : List AV := [.int .i64 x.op, .int .i64 x.form, .int .i64 x.field, .int .i64 x.place, .int .i64 x.to, .int .i64 x.a, .int .i64 x.b, .int .i64 x.f.id, .int .i64 x.f.kind, .int .i64 x.f.lo, .int .i64 x.f.hi, .int .i64 x.f.most, .int .i64 x.n, .str x.s, .lst (.own k) 1 (x.t.map fun n => AV.int .i64 n), .lst (.own m) 5 (x.fields.map fldV)]
def s_writeField {α : Type} (A : Alg α) (b : List AV) (x : Fld) (e : Int) (kc : List AV → List (Nat × List AV) → α) : α :=
  A.chk true (A.call 59 [ref 0 0, int .i64 x.id] [(0, [lst (.own (.E 0 0)) 1 b, int .i64 e])] fun l0 l1 => asC A l1 fun x2 l3 => bif (x2.1.beq 0) then (asC A x2.2 fun v4 l5 => asOwn A 1 v4 fun x6 l7 => asC A l5 fun v8 l9 => asI A .i64 v8 fun n10 => asN A l9 (asN A l0 (asN A l3 (A.call 59 [ref 0 0, int .i64 x.kind] [(0, [lst (.own (.E 0 0)) 1 l7, int .i64 n10])] fun l11 l12 => asC A l12 fun x13 l14 => bif (x13.1.beq 0) then (asC A x13.2 fun v15 l16 => asOwn A 1 v15 fun x17 l18 => asC A l16 fun v19 l20 => asI A .i64 v19 fun n21 => asN A l20 (asN A l11 (asN A l14 (A.call 133 [ref 0 0, int .i64 x.lo] [(0, [lst (.own (.E 0 0)) 1 l18, int .i64 n21])] fun l22 l23 => asC A l23 fun x24 l25 => bif (x24.1.beq 0) then (asC A x24.2 fun v26 l27 => asOwn A 1 v26 fun x28 l29 => asC A l27 fun v30 l31 => asI A .i64 v30 fun n32 => asN A l31 (asN A l22 (asN A l25 (A.call 133 [ref 0 0, int .i64 x.hi] [(0, [lst (.own (.E 0 0)) 1 l29, int .i64 n32])] fun l33 l34 => asC A l34 fun x35 l36 => bif (x35.1.beq 0) then (asC A x35.2 fun v37 l38 => asOwn A 1 v37 fun x39 l40 => asC A l38 fun v41 l42 => asI A .i64 v41 fun n43 => asN A l42 (asN A l33 (asN A l36 (A.call 59 [ref 0 0, int .i64 x.most] [(0, [lst (.own (.E 0 0)) 1 l40, int .i64 n43])] fun l44 l45 => asC A l45 fun x46 l47 => bif (x46.1.beq 0) then (asC A x46.2 fun v48 l49 => asOwn A 1 v48 fun x50 l51 => asC A l49 fun v52 l53 => asI A .i64 v52 fun n54 => asN A l53 (asN A l44 (asN A l47 (kc [] [(0, [lst (.own (.E 0 0)) 1 l51, int .i64 n54])])))) else A.fail)))) else A.fail)))) else A.fail)))) else A.fail)))) else A.fail)
def s_twrite {α : Type} (A : Alg α) (b : List AV) (x : Stp) (p : Int) (e : Int) (kc : List AV → List (Nat × List AV) → α) : α :=
  A.chk true (bif (p == (0 : Int)) then (A.call 59 [ref 0 0, int .i64 x.form] [(0, [lst (.own (.E 0 0)) 1 b, int .i64 e])] fun l0 l1 => asC A l1 fun x2 l3 => bif (x2.1.beq 0) then (asC A x2.2 fun v4 l5 => asOwn A 1 v4 fun x6 l7 => asC A l5 fun v8 l9 => asI A .i64 v8 fun n10 => asN A l9 (asN A l0 (asN A l3 (kc [] [(0, [lst (.own (.E 0 0)) 1 l7, int .i64 n10])])))) else A.fail) else (bif (p == (1 : Int)) then (A.call 59 [ref 0 0, int .i64 x.field] [(0, [lst (.own (.E 0 0)) 1 b, int .i64 e])] fun l11 l12 => asC A l12 fun x13 l14 => bif (x13.1.beq 0) then (asC A x13.2 fun v15 l16 => asOwn A 1 v15 fun x17 l18 => asC A l16 fun v19 l20 => asI A .i64 v19 fun n21 => asN A l20 (asN A l11 (asN A l14 (kc [] [(0, [lst (.own (.E 0 0)) 1 l18, int .i64 n21])])))) else A.fail) else (bif (p == (2 : Int)) then (A.call 59 [ref 0 0, int .i64 x.place] [(0, [lst (.own (.E 0 0)) 1 b, int .i64 e])] fun l22 l23 => asC A l23 fun x24 l25 => bif (x24.1.beq 0) then (asC A x24.2 fun v26 l27 => asOwn A 1 v26 fun x28 l29 => asC A l27 fun v30 l31 => asI A .i64 v30 fun n32 => asN A l31 (asN A l22 (asN A l25 (kc [] [(0, [lst (.own (.E 0 0)) 1 l29, int .i64 n32])])))) else A.fail) else (bif (p == (3 : Int)) then (A.call 59 [ref 0 0, int .i64 x.to] [(0, [lst (.own (.E 0 0)) 1 b, int .i64 e])] fun l33 l34 => asC A l34 fun x35 l36 => bif (x35.1.beq 0) then (asC A x35.2 fun v37 l38 => asOwn A 1 v37 fun x39 l40 => asC A l38 fun v41 l42 => asI A .i64 v41 fun n43 => asN A l42 (asN A l33 (asN A l36 (kc [] [(0, [lst (.own (.E 0 0)) 1 l40, int .i64 n43])])))) else A.fail) else (bif (p == (4 : Int)) then (A.call 59 [ref 0 0, int .i64 x.a] [(0, [lst (.own (.E 0 0)) 1 b, int .i64 e])] fun l44 l45 => asC A l45 fun x46 l47 => bif (x46.1.beq 0) then (asC A x46.2 fun v48 l49 => asOwn A 1 v48 fun x50 l51 => asC A l49 fun v52 l53 => asI A .i64 v52 fun n54 => asN A l53 (asN A l44 (asN A l47 (kc [] [(0, [lst (.own (.E 0 0)) 1 l51, int .i64 n54])])))) else A.fail) else (bif (p == (5 : Int)) then (A.call 133 [ref 0 0, int .i64 x.a] [(0, [lst (.own (.E 0 0)) 1 b, int .i64 e])] fun l55 l56 => asC A l56 fun x57 l58 => bif (x57.1.beq 0) then (asC A x57.2 fun v59 l60 => asOwn A 1 v59 fun x61 l62 => asC A l60 fun v63 l64 => asI A .i64 v63 fun n65 => asN A l64 (asN A l55 (asN A l58 (A.call 133 [ref 0 0, int .i64 x.b] [(0, [lst (.own (.E 0 0)) 1 l62, int .i64 n65])] fun l66 l67 => asC A l67 fun x68 l69 => bif (x68.1.beq 0) then (asC A x68.2 fun v70 l71 => asOwn A 1 v70 fun x72 l73 => asC A l71 fun v74 l75 => asI A .i64 v74 fun n76 => asN A l75 (asN A l66 (asN A l69 (kc [] [(0, [lst (.own (.E 0 0)) 1 l73, int .i64 n76])])))) else A.fail)))) else A.fail) else (bif (p == (6 : Int)) then (A.chk true (A.call 137 [ref 0 0, agg [int .i64 x.f.id, int .i64 x.f.kind, int .i64 x.f.lo, int .i64 x.f.hi, int .i64 x.f.most]] [(0, [lst (.own (.E 0 0)) 1 b, int .i64 e])] fun l77 l78 => asC A l78 fun x79 l80 => bif (x79.1.beq 0) then (asC A x79.2 fun v81 l82 => asOwn A 1 v81 fun x83 l84 => asC A l82 fun v85 l86 => asI A .i64 v85 fun n87 => asN A l86 (asN A l77 (asN A l80 (kc [] [(0, [lst (.own (.E 0 0)) 1 l84, int .i64 n87])])))) else A.fail)) else (bif (p == (7 : Int)) then (A.call 133 [ref 0 0, int .i64 x.n] [(0, [lst (.own (.E 0 0)) 1 b, int .i64 e])] fun l88 l89 => asC A l89 fun x90 l91 => bif (x90.1.beq 0) then (asC A x90.2 fun v92 l93 => asOwn A 1 v92 fun x94 l95 => asC A l93 fun v96 l97 => asI A .i64 v96 fun n98 => asN A l97 (asN A l88 (asN A l91 (A.call 60 [ref 0 0, str x.s] [(0, [lst (.own (.E 0 0)) 1 l95, int .i64 n98])] fun l99 l100 => asC A l100 fun x101 l102 => bif (x101.1.beq 0) then (asC A x101.2 fun v103 l104 => asOwn A 1 v103 fun x105 l106 => asC A l104 fun v107 l108 => asI A .i64 v107 fun n109 => asN A l108 (asN A l99 (asN A l102 (kc [] [(0, [lst (.own (.E 0 0)) 1 l106, int .i64 n109])])))) else A.fail)))) else A.fail) else (bif (p == (8 : Int)) then (A.asm ((map (fun n => int .i64 n) x.t).length ≤ maxL) (A.call 59 [ref 0 0, int .i64 (↑(map (fun n => int .i64 n) x.t).length : Int)] [(0, [lst (.own (.E 0 0)) 1 b, int .i64 e])] fun l110 l111 => asC A l111 fun x112 l113 => bif (x112.1.beq 0) then (asC A x112.2 fun v114 l115 => asOwn A 1 v114 fun x116 l117 => asC A l115 fun v118 l119 => asI A .i64 v118 fun n120 => asN A l119 (asN A l110 (asN A l113 (A.asm ((map (fun n => int .i64 n) x.t).length ≤ maxL) (A.loop 23 [lst .ro 1 (map (fun n => int .i64 n) x.t), int .i64 (↑(map (fun n => int .i64 n) x.t).length : Int), int .i64 0] [[lst (.own (.O 0 0)) 1 l117, int .i64 n120]] fun j121 l122 l123 => bif (j121.beq 2) then (asN A l122 (asC A l123 fun l124 l125 => asC A l124 fun v126 l127 => asOwn A 1 v126 fun x128 l129 => bif (x128.beq (.O (0 : Nat) (0 : Nat))) then (asC A l127 fun v130 l131 => asI A .i64 v130 fun n132 => asN A l131 (asN A l125 (kc [] [(0, [lst (.own (.E 0 0)) 1 l129, int .i64 n132])]))) else A.fail)) else A.fail))))) else A.fail)) else (bif (p == (9 : Int)) then (A.asm ((map fldV x.fields).length ≤ maxL) (A.call 59 [ref 0 0, int .i64 (↑(map fldV x.fields).length : Int)] [(0, [lst (.own (.E 0 0)) 1 b, int .i64 e])] fun l133 l134 => asC A l134 fun x135 l136 => bif (x135.1.beq 0) then (asC A x135.2 fun v137 l138 => asOwn A 1 v137 fun x139 l140 => asC A l138 fun v141 l142 => asI A .i64 v141 fun n143 => asN A l142 (asN A l133 (asN A l136 (A.asm ((map fldV x.fields).length ≤ maxL) (A.loop 30 [lst .ro 5 (map fldV x.fields), int .i64 (↑(map fldV x.fields).length : Int), int .i64 0] [[lst (.own (.O 0 0)) 1 l140, int .i64 n143]] fun j144 l145 l146 => bif (j144.beq 4) then (asN A l145 (asC A l146 fun l147 l148 => asC A l147 fun v149 l150 => asOwn A 1 v149 fun x151 l152 => bif (x151.beq (.O (0 : Nat) (0 : Nat))) then (asC A l150 fun v153 l154 => asI A .i64 v153 fun n155 => asN A l154 (asN A l148 (kc [] [(0, [lst (.own (.E 0 0)) 1 l152, int .i64 n155])]))) else A.fail)) else A.fail))))) else A.fail)) else (kc [] [(0, [lst (.own (.E 0 0)) 1 b, int .i64 e])])))))))))))
def s_twriteT {α : Type} (A : Alg α) (l : List Int) (b : List AV) (m : Int) (i : Int) (e : Int) (next : List AV → List (List AV) → α) (kc : Nat → List AV → List (List AV) → α) : α :=
  bif (decide (i < m)) then (A.chk (decide ((0 : Int) ≤ i)) (nthE A (map (fun n => int .i64 n) l) i.toNat fun v0 => asI A .i64 v0 fun n1 => A.call 59 [ref 0 0, int .i64 n1] [(0, [lst (.own (.E 0 0)) 1 b, int .i64 e])] fun l2 l3 => asC A l3 fun x4 l5 => bif (x4.1.beq 0) then (asC A x4.2 fun v6 l7 => asOwn A 1 v6 fun x8 l9 => asC A l7 fun v10 l11 => asI A .i64 v10 fun n12 => asN A l11 (asN A l2 (asN A l5 (next [lst .ro 1 (map (fun n => int .i64 n) l), int .i64 m, int .i64 (IntKind.i64.wrap (i + (1 : Int)))] [[lst (.own (.O 0 0)) 1 l9, int .i64 n12]])))) else A.fail)) else (kc 2 [] [[lst (.own (.O 0 0)) 1 b, int .i64 e]])
def s_twriteF {α : Type} (A : Alg α) (l : List Fld) (b : List AV) (m : Int) (i : Int) (e : Int) (next : List AV → List (List AV) → α) (kc : Nat → List AV → List (List AV) → α) : α :=
  bif (decide (i < m)) then (A.chk (decide ((0 : Int) ≤ i)) (nthE A (map fldV l) i.toNat fun v0 => asA A v0 fun l1 => asC A l1 fun v2 l3 => asI A .i64 v2 fun n4 => asC A l3 fun v5 l6 => asI A .i64 v5 fun n7 => asC A l6 fun v8 l9 => asI A .i64 v8 fun n10 => asC A l9 fun v11 l12 => asI A .i64 v11 fun n13 => asC A l12 fun v14 l15 => asI A .i64 v14 fun n16 => asN A l15 (A.chk true (A.chk true (A.chk true (A.chk true (A.call 137 [ref 0 0, agg [int .i64 n4, int .i64 n7, int .i64 n10, int .i64 n13, int .i64 n16]] [(0, [lst (.own (.E 0 0)) 1 b, int .i64 e])] fun l17 l18 => asC A l18 fun x19 l20 => bif (x19.1.beq 0) then (asC A x19.2 fun v21 l22 => asOwn A 1 v21 fun x23 l24 => asC A l22 fun v25 l26 => asI A .i64 v25 fun n27 => asN A l26 (asN A l17 (asN A l20 (next [lst .ro 5 (map fldV l), int .i64 m, int .i64 (IntKind.i64.wrap (i + (1 : Int)))] [[lst (.own (.O 0 0)) 1 l24, int .i64 n27]])))) else A.fail))))))) else (kc 4 [] [[lst (.own (.O 0 0)) 1 b, int .i64 e]])
def s_tPrint {α : Type} (A : Alg α) (l : List Stp) (kc : List AV → List (Nat × List AV) → α) : α :=
  A.asm ((map stpV l).length ≤ maxL) (bif (decide ((↑(map stpV l).length : Int) > (40 : Int))) then (kc [lst .ro 1 [], int .i64 7] []) else (A.call 58 [] [] fun l0 l1 => asC A l0 fun v2 l3 => asRef0 A v2 fun o4 => bif (o4.beq 64) then (asC A l1 fun x5 l6 => bif (x5.1.beq 64) then (asC A x5.2 fun v7 l8 => asOwn A 1 v7 fun x9 l10 => asC A l8 fun v11 l12 => asI A .i64 v11 fun n13 => asN A l12 (asN A l3 (asN A l6 (A.asm ((map stpV l).length ≤ maxL) (A.call 59 [ref 0 0, int .i64 (↑(map stpV l).length : Int)] [(0, [lst (.own (.E 0 0)) 1 l10, int .i64 n13])] fun l14 l15 => asC A l15 fun x16 l17 => bif (x16.1.beq 0) then (asC A x16.2 fun v18 l19 => asOwn A 1 v18 fun x20 l21 => asC A l19 fun v22 l23 => asI A .i64 v22 fun n24 => asN A l23 (asN A l14 (asN A l17 (A.asm ((map stpV l).length ≤ maxL) (A.loop 6 [lst .ro 16 (map stpV l), int .i64 (↑(map stpV l).length : Int), int .i64 0] [[lst (.own (.O 1012 0)) 1 l21, int .i64 n24]] fun j25 l26 l27 => bif (j25.beq 0) then (asC A l26 fun v28 l29 => asL A 1 v28 fun l30 => asC A l29 fun v31 l32 => asI A .i64 v31 fun n33 => asN A l32 (asN A l27 (kc [lst .ro 1 l30, int .i64 n33] []))) else (bif (j25.beq 1) then (asN A l26 (asC A l27 fun l34 l35 => asC A l34 fun v36 l37 => asOwn A 1 v36 fun x38 l39 => bif (x38.beq (.O (1012 : Nat) (0 : Nat))) then (asC A l37 fun v40 l41 => asI A .i64 v40 fun n42 => asN A l41 (asN A l35 (A.call 61 [ref 0 0] [(0, [lst (.own (.E 0 0)) 1 l39, int .i64 n42])] fun l43 l44 => asC A l44 fun x45 l46 => bif (x45.1.beq 0) then (asC A x45.2 fun v47 l48 => asOwn A 1 v47 fun x49 l50 => asC A l48 fun v51 l52 => asI A .i64 v51 fun n53 => asN A l52 (asC A l43 fun v54 l55 => asL A 1 v54 fun l56 => asC A l55 fun v57 l58 => asI A .i64 v57 fun n59 => asN A l58 (asN A l46 (kc [lst .ro 1 l56, int .i64 n59] [])))) else A.fail))) else A.fail)) else A.fail)))))) else A.fail))))) else A.fail) else A.fail))
def s_tPrintL {α : Type} (A : Alg α) (l : List Stp) (b : List AV) (m : Int) (i : Int) (e : Int) (next : List AV → List (List AV) → α) (kc : Nat → List AV → List (List AV) → α) : α :=
  bif (decide (i < m)) then (A.chk (decide ((0 : Int) ≤ i)) (nthE A (map stpV l) i.toNat fun v0 => asA A v0 fun l1 => asC A l1 fun v2 l3 => asI A .i64 v2 fun n4 => asC A l3 fun v5 l6 => asI A .i64 v5 fun n7 => asC A l6 fun v8 l9 => asI A .i64 v8 fun n10 => asC A l9 fun v11 l12 => asI A .i64 v11 fun n13 => asC A l12 fun v14 l15 => asI A .i64 v14 fun n16 => asC A l15 fun v17 l18 => asI A .i64 v17 fun n19 => asC A l18 fun v20 l21 => asI A .i64 v20 fun n22 => asC A l21 fun v23 l24 => asI A .i64 v23 fun n25 => asC A l24 fun v26 l27 => asI A .i64 v26 fun n28 => asC A l27 fun v29 l30 => asI A .i64 v29 fun n31 => asC A l30 fun v32 l33 => asI A .i64 v32 fun n34 => asC A l33 fun v35 l36 => asI A .i64 v35 fun n37 => asC A l36 fun v38 l39 => asI A .i64 v38 fun n40 => asC A l39 fun v41 l42 => asS A v41 fun l43 => asC A l42 fun v44 l45 => asL A 1 v44 fun l46 => asC A l45 fun v47 l48 => asL A 5 v47 fun l49 => asN A l48 (A.chk true (A.chk true (A.chk true (A.chk true (A.callx 69 [agg [int .i64 n4, int .i64 n7, int .i64 n10, int .i64 n13, int .i64 n16, int .i64 n19, int .i64 n22, int .i64 n25, int .i64 n28, int .i64 n31, int .i64 n34, int .i64 n37, int .i64 n40, str l43, lst .ro 1 l46, lst .ro 5 l49]] fun l50 => asC A l50 fun v51 l52 => asB A v51 fun b53 => asN A l52 (bif (!b53) then (kc 0 [lst .ro 1 [], int .i64 2] []) else (A.call 59 [ref 0 0, int .i64 n4] [(0, [lst (.own (.E 0 0)) 1 b, int .i64 e])] fun l54 l55 => asC A l55 fun x56 l57 => bif (x56.1.beq 0) then (asC A x56.2 fun v58 l59 => asOwn A 1 v58 fun x60 l61 => asC A l59 fun v62 l63 => asI A .i64 v62 fun n64 => asN A l63 (asN A l54 (asN A l57 (A.callx 105 [int .i64 n4] fun l65 => asC A l65 fun v66 l67 => asL A 1 v66 fun l68 => asN A l67 (A.asm (l68.length ≤ maxL) (A.loop 12 [lst .ro 16 (map stpV l), int .i64 m, int .i64 i, lst .ro 1 l68, int .i64 (↑l68.length : Int), int .i64 0] [[int .i64 n4, int .i64 n7, int .i64 n10, int .i64 n13, int .i64 n16, int .i64 n19, int .i64 n22, int .i64 n25, int .i64 n28, int .i64 n31, int .i64 n34, int .i64 n37, int .i64 n40, str l43, lst .ro 1 l46, lst .ro 5 l49], [lst (.own (.O 1012 0)) 1 l61, int .i64 n64]] fun j69 l70 l71 => bif (j69.beq 3) then (asC A l70 fun v72 l73 => asL A 16 v72 fun l74 => asC A l73 fun v75 l76 => asI A .i64 v75 fun n77 => asC A l76 fun v78 l79 => asI A .i64 v78 fun n80 => asN A l79 (asC A l71 fun l81 l82 => asC A l81 fun v83 l84 => asOwn A 1 v83 fun x85 l86 => bif (x85.beq (.O (1012 : Nat) (0 : Nat))) then (asC A l84 fun v87 l88 => asI A .i64 v87 fun n89 => asN A l88 (asN A l82 (next [lst .ro 16 l74, int .i64 n77, int .i64 (IntKind.i64.wrap (n80 + (1 : Int)))] [[lst (.own (.O 1012 0)) 1 l86, int .i64 n89]]))) else A.fail)) else A.fail)))))) else A.fail))))))))) else (kc 1 [] [[lst (.own (.O 1012 0)) 1 b, int .i64 e]])
def s_tPrintK {α : Type} (A : Alg α) (l : List Stp) (x : Stp) (u : List Int) (b : List AV) (m : Int) (i : Int) (n : Int) (k : Int) (e : Int) (next : List AV → List (List AV) → α) (kc : Nat → List AV → List (List AV) → α) : α :=
  bif (decide (k < n)) then (A.chk (decide ((0 : Int) ≤ k)) (nthE A (map (fun n => int .i64 n) u) k.toNat fun v0 => asI A .i64 v0 fun n1 => A.chk true (A.call 106 [ref 0 0, agg [int .i64 x.op, int .i64 x.form, int .i64 x.field, int .i64 x.place, int .i64 x.to, int .i64 x.a, int .i64 x.b, int .i64 x.f.id, int .i64 x.f.kind, int .i64 x.f.lo, int .i64 x.f.hi, int .i64 x.f.most, int .i64 x.n, str x.s, lst .ro 1 (map (fun n => int .i64 n) x.t), lst .ro 5 (map fldV x.fields)], int .i64 n1] [(0, [lst (.own (.E 0 0)) 1 b, int .i64 e])] fun l2 l3 => asC A l3 fun x4 l5 => bif (x4.1.beq 0) then (asC A x4.2 fun v6 l7 => asOwn A 1 v6 fun x8 l9 => asC A l7 fun v10 l11 => asI A .i64 v10 fun n12 => asN A l11 (asN A l2 (asN A l5 (next [lst .ro 16 (map stpV l), int .i64 m, int .i64 i, lst .ro 1 (map (fun n => int .i64 n) u), int .i64 n, int .i64 (IntKind.i64.wrap (k + (1 : Int)))] [[int .i64 x.op, int .i64 x.form, int .i64 x.field, int .i64 x.place, int .i64 x.to, int .i64 x.a, int .i64 x.b, int .i64 x.f.id, int .i64 x.f.kind, int .i64 x.f.lo, int .i64 x.f.hi, int .i64 x.f.most, int .i64 x.n, str x.s, lst .ro 1 (map (fun n => int .i64 n) x.t), lst .ro 5 (map fldV x.fields)], [lst (.own (.O 1012 0)) 1 l9, int .i64 n12]])))) else A.fail))) else (kc 3 [lst .ro 16 (map stpV l), int .i64 m, int .i64 i] [[lst (.own (.O 1012 0)) 1 b, int .i64 e]])
def s_readField {α : Type} (A : Alg α) (b : List UInt8) (e : Int) (kc : List AV → List (Nat × List AV) → α) : α :=
  A.call 63 [ref 0 0, int .i64 255] [(0, [lst .ro 1 (encB b), int .i64 e])] fun l0 l1 => asC A l1 fun x2 l3 => bif (x2.1.beq 0) then (asC A x2.2 fun v4 l5 => asL A 1 v4 fun l6 => asC A l5 fun v7 l8 => asI A .i64 v7 fun n9 => asN A l8 (asC A l0 fun v10 l11 => asI A .i64 v10 fun n12 => asN A l11 (asN A l3 (A.call 63 [ref 0 0, int .i64 4] [(0, [lst .ro 1 l6, int .i64 n9])] fun l13 l14 => asC A l14 fun x15 l16 => bif (x15.1.beq 0) then (asC A x15.2 fun v17 l18 => asL A 1 v17 fun l19 => asC A l18 fun v20 l21 => asI A .i64 v20 fun n22 => asN A l21 (asC A l13 fun v23 l24 => asI A .i64 v23 fun n25 => asN A l24 (asN A l16 (A.chk true (A.chk true (A.chk true (A.chk true (A.call 138 [ref 0 0] [(0, [lst .ro 1 l19, int .i64 n22])] fun l26 l27 => asC A l27 fun x28 l29 => bif (x28.1.beq 0) then (asC A x28.2 fun v30 l31 => asL A 1 v30 fun l32 => asC A l31 fun v33 l34 => asI A .i64 v33 fun n35 => asN A l34 (asC A l26 fun v36 l37 => asI A .i64 v36 fun n38 => asN A l37 (asN A l29 (A.chk true (A.call 138 [ref 0 0] [(0, [lst .ro 1 l32, int .i64 n35])] fun l39 l40 => asC A l40 fun x41 l42 => bif (x41.1.beq 0) then (asC A x41.2 fun v43 l44 => asL A 1 v43 fun l45 => asC A l44 fun v46 l47 => asI A .i64 v46 fun n48 => asN A l47 (asC A l39 fun v49 l50 => asI A .i64 v49 fun n51 => asN A l50 (asN A l42 (A.chk true (A.call 63 [ref 0 0, int .i64 1000] [(0, [lst .ro 1 l45, int .i64 n48])] fun l52 l53 => asC A l53 fun x54 l55 => bif (x54.1.beq 0) then (asC A x54.2 fun v56 l57 => asL A 1 v56 fun l58 => asC A l57 fun v59 l60 => asI A .i64 v59 fun n61 => asN A l60 (asC A l52 fun v62 l63 => asI A .i64 v62 fun n64 => asN A l63 (asN A l55 (A.chk true (A.chk true (A.chk true (A.chk true (A.chk true (kc [agg [int .i64 n12, int .i64 n25, int .i64 n38, int .i64 n51, int .i64 n64]] [(0, [lst .ro 1 l58, int .i64 n61])]))))))))) else A.fail))))) else A.fail))))) else A.fail)))))))) else A.fail)))) else A.fail
def s_tread {α : Type} (A : Alg α) (b : List UInt8) (x : Stp) (p : Int) (e : Int) (kc : List AV → List (Nat × List AV) → α) : α :=
  bif (p == (0 : Int)) then (A.call 63 [ref 0 0, int .i64 200] [(0, [lst .ro 1 (encB b), int .i64 e])] fun l0 l1 => asC A l1 fun x2 l3 => bif (x2.1.beq 0) then (asC A x2.2 fun v4 l5 => asL A 1 v4 fun l6 => asC A l5 fun v7 l8 => asI A .i64 v7 fun n9 => asN A l8 (asC A l0 fun v10 l11 => asI A .i64 v10 fun n12 => asN A l11 (asN A l3 (A.chk true (kc [] [(0, [lst .ro 1 l6, int .i64 n9]), (1, [int .i64 x.op, int .i64 n12, int .i64 x.field, int .i64 x.place, int .i64 x.to, int .i64 x.a, int .i64 x.b, int .i64 x.f.id, int .i64 x.f.kind, int .i64 x.f.lo, int .i64 x.f.hi, int .i64 x.f.most, int .i64 x.n, str x.s, lst (.own (.E 1 14)) 1 (map (fun n => int .i64 n) x.t), lst (.own (.E 1 15)) 5 (map fldV x.fields)])]))))) else A.fail) else (bif (p == (1 : Int)) then (A.call 63 [ref 0 0, int .i64 255] [(0, [lst .ro 1 (encB b), int .i64 e])] fun l13 l14 => asC A l14 fun x15 l16 => bif (x15.1.beq 0) then (asC A x15.2 fun v17 l18 => asL A 1 v17 fun l19 => asC A l18 fun v20 l21 => asI A .i64 v20 fun n22 => asN A l21 (asC A l13 fun v23 l24 => asI A .i64 v23 fun n25 => asN A l24 (asN A l16 (A.chk true (kc [] [(0, [lst .ro 1 l19, int .i64 n22]), (1, [int .i64 x.op, int .i64 x.form, int .i64 n25, int .i64 x.place, int .i64 x.to, int .i64 x.a, int .i64 x.b, int .i64 x.f.id, int .i64 x.f.kind, int .i64 x.f.lo, int .i64 x.f.hi, int .i64 x.f.most, int .i64 x.n, str x.s, lst (.own (.E 1 14)) 1 (map (fun n => int .i64 n) x.t), lst (.own (.E 1 15)) 5 (map fldV x.fields)])]))))) else A.fail) else (bif (p == (2 : Int)) then (A.call 63 [ref 0 0, int .i64 8] [(0, [lst .ro 1 (encB b), int .i64 e])] fun l26 l27 => asC A l27 fun x28 l29 => bif (x28.1.beq 0) then (asC A x28.2 fun v30 l31 => asL A 1 v30 fun l32 => asC A l31 fun v33 l34 => asI A .i64 v33 fun n35 => asN A l34 (asC A l26 fun v36 l37 => asI A .i64 v36 fun n38 => asN A l37 (asN A l29 (A.chk true (kc [] [(0, [lst .ro 1 l32, int .i64 n35]), (1, [int .i64 x.op, int .i64 x.form, int .i64 x.field, int .i64 n38, int .i64 x.to, int .i64 x.a, int .i64 x.b, int .i64 x.f.id, int .i64 x.f.kind, int .i64 x.f.lo, int .i64 x.f.hi, int .i64 x.f.most, int .i64 x.n, str x.s, lst (.own (.E 1 14)) 1 (map (fun n => int .i64 n) x.t), lst (.own (.E 1 15)) 5 (map fldV x.fields)])]))))) else A.fail) else (bif (p == (3 : Int)) then (A.call 63 [ref 0 0, int .i64 255] [(0, [lst .ro 1 (encB b), int .i64 e])] fun l39 l40 => asC A l40 fun x41 l42 => bif (x41.1.beq 0) then (asC A x41.2 fun v43 l44 => asL A 1 v43 fun l45 => asC A l44 fun v46 l47 => asI A .i64 v46 fun n48 => asN A l47 (asC A l39 fun v49 l50 => asI A .i64 v49 fun n51 => asN A l50 (asN A l42 (A.chk true (kc [] [(0, [lst .ro 1 l45, int .i64 n48]), (1, [int .i64 x.op, int .i64 x.form, int .i64 x.field, int .i64 x.place, int .i64 n51, int .i64 x.a, int .i64 x.b, int .i64 x.f.id, int .i64 x.f.kind, int .i64 x.f.lo, int .i64 x.f.hi, int .i64 x.f.most, int .i64 x.n, str x.s, lst (.own (.E 1 14)) 1 (map (fun n => int .i64 n) x.t), lst (.own (.E 1 15)) 5 (map fldV x.fields)])]))))) else A.fail) else (bif (p == (4 : Int)) then (A.call 63 [ref 0 0, int .i64 1048576] [(0, [lst .ro 1 (encB b), int .i64 e])] fun l52 l53 => asC A l53 fun x54 l55 => bif (x54.1.beq 0) then (asC A x54.2 fun v56 l57 => asL A 1 v56 fun l58 => asC A l57 fun v59 l60 => asI A .i64 v59 fun n61 => asN A l60 (asC A l52 fun v62 l63 => asI A .i64 v62 fun n64 => asN A l63 (asN A l55 (A.chk true (kc [] [(0, [lst .ro 1 l58, int .i64 n61]), (1, [int .i64 x.op, int .i64 x.form, int .i64 x.field, int .i64 x.place, int .i64 x.to, int .i64 n64, int .i64 x.b, int .i64 x.f.id, int .i64 x.f.kind, int .i64 x.f.lo, int .i64 x.f.hi, int .i64 x.f.most, int .i64 x.n, str x.s, lst (.own (.E 1 14)) 1 (map (fun n => int .i64 n) x.t), lst (.own (.E 1 15)) 5 (map fldV x.fields)])]))))) else A.fail) else (bif (p == (5 : Int)) then (A.call 138 [ref 0 0] [(0, [lst .ro 1 (encB b), int .i64 e])] fun l65 l66 => asC A l66 fun x67 l68 => bif (x67.1.beq 0) then (asC A x67.2 fun v69 l70 => asL A 1 v69 fun l71 => asC A l70 fun v72 l73 => asI A .i64 v72 fun n74 => asN A l73 (asC A l65 fun v75 l76 => asI A .i64 v75 fun n77 => asN A l76 (asN A l68 (A.chk true (A.call 138 [ref 0 0] [(0, [lst .ro 1 l71, int .i64 n74])] fun l78 l79 => asC A l79 fun x80 l81 => bif (x80.1.beq 0) then (asC A x80.2 fun v82 l83 => asL A 1 v82 fun l84 => asC A l83 fun v85 l86 => asI A .i64 v85 fun n87 => asN A l86 (asC A l78 fun v88 l89 => asI A .i64 v88 fun n90 => asN A l89 (asN A l81 (A.chk true (kc [] [(0, [lst .ro 1 l84, int .i64 n87]), (1, [int .i64 x.op, int .i64 x.form, int .i64 x.field, int .i64 x.place, int .i64 x.to, int .i64 n77, int .i64 n90, int .i64 x.f.id, int .i64 x.f.kind, int .i64 x.f.lo, int .i64 x.f.hi, int .i64 x.f.most, int .i64 x.n, str x.s, lst (.own (.E 1 14)) 1 (map (fun n => int .i64 n) x.t), lst (.own (.E 1 15)) 5 (map fldV x.fields)])]))))) else A.fail))))) else A.fail) else (bif (p == (6 : Int)) then (A.call 139 [ref 0 0] [(0, [lst .ro 1 (encB b), int .i64 e])] fun l91 l92 => asC A l92 fun x93 l94 => bif (x93.1.beq 0) then (asC A x93.2 fun v95 l96 => asL A 1 v95 fun l97 => asC A l96 fun v98 l99 => asI A .i64 v98 fun n100 => asN A l99 (asC A l91 fun v101 l102 => asA A v101 fun l103 => asC A l103 fun v104 l105 => asI A .i64 v104 fun n106 => asC A l105 fun v107 l108 => asI A .i64 v107 fun n109 => asC A l108 fun v110 l111 => asI A .i64 v110 fun n112 => asC A l111 fun v113 l114 => asI A .i64 v113 fun n115 => asC A l114 fun v116 l117 => asI A .i64 v116 fun n118 => asN A l117 (asN A l102 (asN A l94 (A.chk true (A.chk true (kc [] [(0, [lst .ro 1 l97, int .i64 n100]), (1, [int .i64 x.op, int .i64 x.form, int .i64 x.field, int .i64 x.place, int .i64 x.to, int .i64 x.a, int .i64 x.b, int .i64 n106, int .i64 n109, int .i64 n112, int .i64 n115, int .i64 n118, int .i64 x.n, str x.s, lst (.own (.E 1 14)) 1 (map (fun n => int .i64 n) x.t), lst (.own (.E 1 15)) 5 (map fldV x.fields)])]))))))) else A.fail) else (bif (p == (7 : Int)) then (A.call 138 [ref 0 0] [(0, [lst .ro 1 (encB b), int .i64 e])] fun l119 l120 => asC A l120 fun x121 l122 => bif (x121.1.beq 0) then (asC A x121.2 fun v123 l124 => asL A 1 v123 fun l125 => asC A l124 fun v126 l127 => asI A .i64 v126 fun n128 => asN A l127 (asC A l119 fun v129 l130 => asI A .i64 v129 fun n131 => asN A l130 (asN A l122 (A.chk true (A.call 64 [ref 0 0, int .i64 32] [(0, [lst .ro 1 l125, int .i64 n128])] fun l132 l133 => asC A l133 fun x134 l135 => bif (x134.1.beq 0) then (asC A x134.2 fun v136 l137 => asL A 1 v136 fun l138 => asC A l137 fun v139 l140 => asI A .i64 v139 fun n141 => asN A l140 (asC A l132 fun v142 l143 => asS A v142 fun l144 => asN A l143 (asN A l135 (A.chk true (kc [] [(0, [lst .ro 1 l138, int .i64 n141]), (1, [int .i64 x.op, int .i64 x.form, int .i64 x.field, int .i64 x.place, int .i64 x.to, int .i64 x.a, int .i64 x.b, int .i64 x.f.id, int .i64 x.f.kind, int .i64 x.f.lo, int .i64 x.f.hi, int .i64 x.f.most, int .i64 n131, str l144, lst (.own (.E 1 14)) 1 (map (fun n => int .i64 n) x.t), lst (.own (.E 1 15)) 5 (map fldV x.fields)])]))))) else A.fail))))) else A.fail) else (bif (p == (8 : Int)) then (A.call 63 [ref 0 0, int .i64 64] [(0, [lst .ro 1 (encB b), int .i64 e])] fun l145 l146 => asC A l146 fun x147 l148 => bif (x147.1.beq 0) then (asC A x147.2 fun v149 l150 => asL A 1 v149 fun l151 => asC A l150 fun v152 l153 => asI A .i64 v152 fun n154 => asN A l153 (asC A l145 fun v155 l156 => asI A .i64 v155 fun n157 => asN A l156 (asN A l148 (A.loop 21 [int .i64 n157, int .i64 0] [[lst .ro 1 l151, int .i64 n154], [int .i64 x.op, int .i64 x.form, int .i64 x.field, int .i64 x.place, int .i64 x.to, int .i64 x.a, int .i64 x.b, int .i64 x.f.id, int .i64 x.f.kind, int .i64 x.f.lo, int .i64 x.f.hi, int .i64 x.f.most, int .i64 x.n, str x.s, lst (.own (.O 1 14)) 1 (map (fun n => int .i64 n) x.t), lst (.own (.O 1 15)) 5 (map fldV x.fields)]] fun j158 l159 l160 => bif (j158.beq 2) then (asN A l159 (asC A l160 fun l161 l162 => asC A l161 fun v163 l164 => asL A 1 v163 fun l165 => asC A l164 fun v166 l167 => asI A .i64 v166 fun n168 => asN A l167 (asC A l162 fun l169 l170 => asC A l169 fun v171 l172 => asI A .i64 v171 fun n173 => asC A l172 fun v174 l175 => asI A .i64 v174 fun n176 => asC A l175 fun v177 l178 => asI A .i64 v177 fun n179 => asC A l178 fun v180 l181 => asI A .i64 v180 fun n182 => asC A l181 fun v183 l184 => asI A .i64 v183 fun n185 => asC A l184 fun v186 l187 => asI A .i64 v186 fun n188 => asC A l187 fun v189 l190 => asI A .i64 v189 fun n191 => asC A l190 fun v192 l193 => asI A .i64 v192 fun n194 => asC A l193 fun v195 l196 => asI A .i64 v195 fun n197 => asC A l196 fun v198 l199 => asI A .i64 v198 fun n200 => asC A l199 fun v201 l202 => asI A .i64 v201 fun n203 => asC A l202 fun v204 l205 => asI A .i64 v204 fun n206 => asC A l205 fun v207 l208 => asI A .i64 v207 fun n209 => asC A l208 fun v210 l211 => asS A v210 fun l212 => asC A l211 fun v213 l214 => asOwn A 1 v213 fun x215 l216 => bif (x215.beq (.O (1 : Nat) (14 : Nat))) then (asC A l214 fun v217 l218 => asOwn A 5 v217 fun x219 l220 => bif (x219.beq (.O (1 : Nat) (15 : Nat))) then (asN A l218 (asN A l170 (kc [] [(0, [lst .ro 1 l165, int .i64 n168]), (1, [int .i64 n173, int .i64 n176, int .i64 n179, int .i64 n182, int .i64 n185, int .i64 n188, int .i64 n191, int .i64 n194, int .i64 n197, int .i64 n200, int .i64 n203, int .i64 n206, int .i64 n209, str l212, lst (.own (.E 1 14)) 1 l216, lst (.own (.E 1 15)) 5 l220])]))) else A.fail) else A.fail))) else A.fail)))) else A.fail) else (bif (p == (9 : Int)) then (A.call 63 [ref 0 0, int .i64 8] [(0, [lst .ro 1 (encB b), int .i64 e])] fun l221 l222 => asC A l222 fun x223 l224 => bif (x223.1.beq 0) then (asC A x223.2 fun v225 l226 => asL A 1 v225 fun l227 => asC A l226 fun v228 l229 => asI A .i64 v228 fun n230 => asN A l229 (asC A l221 fun v231 l232 => asI A .i64 v231 fun n233 => asN A l232 (asN A l224 (A.loop 26 [int .i64 n233, int .i64 0] [[lst .ro 1 l227, int .i64 n230], [int .i64 x.op, int .i64 x.form, int .i64 x.field, int .i64 x.place, int .i64 x.to, int .i64 x.a, int .i64 x.b, int .i64 x.f.id, int .i64 x.f.kind, int .i64 x.f.lo, int .i64 x.f.hi, int .i64 x.f.most, int .i64 x.n, str x.s, lst (.own (.O 1 14)) 1 (map (fun n => int .i64 n) x.t), lst (.own (.O 1 15)) 5 (map fldV x.fields)]] fun j234 l235 l236 => bif (j234.beq 4) then (asN A l235 (asC A l236 fun l237 l238 => asC A l237 fun v239 l240 => asL A 1 v239 fun l241 => asC A l240 fun v242 l243 => asI A .i64 v242 fun n244 => asN A l243 (asC A l238 fun l245 l246 => asC A l245 fun v247 l248 => asI A .i64 v247 fun n249 => asC A l248 fun v250 l251 => asI A .i64 v250 fun n252 => asC A l251 fun v253 l254 => asI A .i64 v253 fun n255 => asC A l254 fun v256 l257 => asI A .i64 v256 fun n258 => asC A l257 fun v259 l260 => asI A .i64 v259 fun n261 => asC A l260 fun v262 l263 => asI A .i64 v262 fun n264 => asC A l263 fun v265 l266 => asI A .i64 v265 fun n267 => asC A l266 fun v268 l269 => asI A .i64 v268 fun n270 => asC A l269 fun v271 l272 => asI A .i64 v271 fun n273 => asC A l272 fun v274 l275 => asI A .i64 v274 fun n276 => asC A l275 fun v277 l278 => asI A .i64 v277 fun n279 => asC A l278 fun v280 l281 => asI A .i64 v280 fun n282 => asC A l281 fun v283 l284 => asI A .i64 v283 fun n285 => asC A l284 fun v286 l287 => asS A v286 fun l288 => asC A l287 fun v289 l290 => asOwn A 1 v289 fun x291 l292 => bif (x291.beq (.O (1 : Nat) (14 : Nat))) then (asC A l290 fun v293 l294 => asOwn A 5 v293 fun x295 l296 => bif (x295.beq (.O (1 : Nat) (15 : Nat))) then (asN A l294 (asN A l246 (kc [] [(0, [lst .ro 1 l241, int .i64 n244]), (1, [int .i64 n249, int .i64 n252, int .i64 n255, int .i64 n258, int .i64 n261, int .i64 n264, int .i64 n267, int .i64 n270, int .i64 n273, int .i64 n276, int .i64 n279, int .i64 n282, int .i64 n285, str l288, lst (.own (.E 1 14)) 1 l292, lst (.own (.E 1 15)) 5 l296])]))) else A.fail) else A.fail))) else A.fail)))) else A.fail) else (kc [] [(0, [lst .ro 1 (encB b), int .i64 e]), (1, [int .i64 x.op, int .i64 x.form, int .i64 x.field, int .i64 x.place, int .i64 x.to, int .i64 x.a, int .i64 x.b, int .i64 x.f.id, int .i64 x.f.kind, int .i64 x.f.lo, int .i64 x.f.hi, int .i64 x.f.most, int .i64 x.n, str x.s, lst (.own (.E 1 14)) 1 (map (fun n => int .i64 n) x.t), lst (.own (.E 1 15)) 5 (map fldV x.fields)])]))))))))))
def s_treadT {α : Type} (A : Alg α) (b : List UInt8) (x : Stp) (m : Int) (i : Int) (e : Int) (next : List AV → List (List AV) → α) (kc : Nat → List AV → List (List AV) → α) : α :=
  bif (decide (i < m)) then (A.both (A.call 63 [ref 0 0, int .i64 1000] [(0, [lst .ro 1 (encB b), int .i64 e])] fun l0 l1 => asC A l1 fun x2 l3 => bif (x2.1.beq 0) then (asC A x2.2 fun v4 l5 => asL A 1 v4 fun l6 => asC A l5 fun v7 l8 => asI A .i64 v7 fun n9 => asN A l8 (asC A l0 fun v10 l11 => asI A .i64 v10 fun n12 => asN A l11 (asN A l3 (A.chk (decide (((map (fun n => int .i64 n) x.t).length + [int .i64 n12].length) * 8 ≤ 211106232532992)) (A.chk true (next [int .i64 m, int .i64 (IntKind.i64.wrap (i + (1 : Int)))] [[lst .ro 1 l6, int .i64 n9], [int .i64 x.op, int .i64 x.form, int .i64 x.field, int .i64 x.place, int .i64 x.to, int .i64 x.a, int .i64 x.b, int .i64 x.f.id, int .i64 x.f.kind, int .i64 x.f.lo, int .i64 x.f.hi, int .i64 x.f.most, int .i64 x.n, str x.s, lst (.own (.O 1 14)) 1 (map (fun n => int .i64 n) x.t ++ [int .i64 n12]), lst (.own (.O 1 15)) 5 (map fldV x.fields)]])))))) else A.fail) (A.call 63 [ref 0 0, int .i64 1000] [(0, [lst .ro 1 (encB b), int .i64 e])] fun l13 l14 => asC A l14 fun x15 l16 => bif (x15.1.beq 0) then (asC A x15.2 fun v17 l18 => asL A 1 v17 fun l19 => asC A l18 fun v20 l21 => asI A .i64 v20 fun n22 => asN A l21 (asC A l13 fun v23 l24 => asI A .i64 v23 fun n25 => asN A l24 (asN A l16 (A.both (A.chk (decide (((map (fun n => int .i64 n) x.t).length + [int .i64 n25].length) * 8 ≤ 211106232532992)) (A.chk true (next [int .i64 m, int .i64 (IntKind.i64.wrap (i + (1 : Int)))] [[lst .ro 1 l19, int .i64 n22], [int .i64 x.op, int .i64 x.form, int .i64 x.field, int .i64 x.place, int .i64 x.to, int .i64 x.a, int .i64 x.b, int .i64 x.f.id, int .i64 x.f.kind, int .i64 x.f.lo, int .i64 x.f.hi, int .i64 x.f.most, int .i64 x.n, str x.s, lst (.own (.O 1 14)) 1 (map (fun n => int .i64 n) x.t ++ [int .i64 n25]), lst (.own (.O 1 15)) 5 (map fldV x.fields)]]))) (A.chk (decide (((map (fun n => int .i64 n) x.t).length + [int .i64 n25].length) * 8 ≤ 211106232532992)) (A.chk true (next [int .i64 m, int .i64 (IntKind.i64.wrap (i + (1 : Int)))] [[lst .ro 1 l19, int .i64 n22], [int .i64 x.op, int .i64 x.form, int .i64 x.field, int .i64 x.place, int .i64 x.to, int .i64 x.a, int .i64 x.b, int .i64 x.f.id, int .i64 x.f.kind, int .i64 x.f.lo, int .i64 x.f.hi, int .i64 x.f.most, int .i64 x.n, str x.s, lst (.own (.O 1 14)) 1 (map (fun n => int .i64 n) x.t ++ [int .i64 n25]), lst (.own (.O 1 15)) 5 (map fldV x.fields)]]))))))) else A.fail)) else (kc 2 [] [[lst .ro 1 (encB b), int .i64 e], [int .i64 x.op, int .i64 x.form, int .i64 x.field, int .i64 x.place, int .i64 x.to, int .i64 x.a, int .i64 x.b, int .i64 x.f.id, int .i64 x.f.kind, int .i64 x.f.lo, int .i64 x.f.hi, int .i64 x.f.most, int .i64 x.n, str x.s, lst (.own (.O 1 14)) 1 (map (fun n => int .i64 n) x.t), lst (.own (.O 1 15)) 5 (map fldV x.fields)]])
def s_treadF {α : Type} (A : Alg α) (b : List UInt8) (x : Stp) (m : Int) (i : Int) (e : Int) (next : List AV → List (List AV) → α) (kc : Nat → List AV → List (List AV) → α) : α :=
  bif (decide (i < m)) then (A.both (A.call 139 [ref 0 0] [(0, [lst .ro 1 (encB b), int .i64 e])] fun l0 l1 => asC A l1 fun x2 l3 => bif (x2.1.beq 0) then (asC A x2.2 fun v4 l5 => asL A 1 v4 fun l6 => asC A l5 fun v7 l8 => asI A .i64 v7 fun n9 => asN A l8 (asC A l0 fun v10 l11 => asA A v10 fun l12 => asC A l12 fun v13 l14 => asI A .i64 v13 fun n15 => asC A l14 fun v16 l17 => asI A .i64 v16 fun n18 => asC A l17 fun v19 l20 => asI A .i64 v19 fun n21 => asC A l20 fun v22 l23 => asI A .i64 v22 fun n24 => asC A l23 fun v25 l26 => asI A .i64 v25 fun n27 => asN A l26 (asN A l11 (asN A l3 (A.chk true (A.chk (decide (((map fldV x.fields).length + [agg [int .i64 n15, int .i64 n18, int .i64 n21, int .i64 n24, int .i64 n27]].length) * 40 ≤ 211106232532992)) (A.chk true (next [int .i64 m, int .i64 (IntKind.i64.wrap (i + (1 : Int)))] [[lst .ro 1 l6, int .i64 n9], [int .i64 x.op, int .i64 x.form, int .i64 x.field, int .i64 x.place, int .i64 x.to, int .i64 x.a, int .i64 x.b, int .i64 x.f.id, int .i64 x.f.kind, int .i64 x.f.lo, int .i64 x.f.hi, int .i64 x.f.most, int .i64 x.n, str x.s, lst (.own (.O 1 14)) 1 (map (fun n => int .i64 n) x.t), lst (.own (.O 1 15)) 5 (map fldV x.fields ++ [agg [int .i64 n15, int .i64 n18, int .i64 n21, int .i64 n24, int .i64 n27]])]])))))))) else A.fail) (A.call 139 [ref 0 0] [(0, [lst .ro 1 (encB b), int .i64 e])] fun l28 l29 => asC A l29 fun x30 l31 => bif (x30.1.beq 0) then (asC A x30.2 fun v32 l33 => asL A 1 v32 fun l34 => asC A l33 fun v35 l36 => asI A .i64 v35 fun n37 => asN A l36 (asC A l28 fun v38 l39 => asA A v38 fun l40 => asC A l40 fun v41 l42 => asI A .i64 v41 fun n43 => asC A l42 fun v44 l45 => asI A .i64 v44 fun n46 => asC A l45 fun v47 l48 => asI A .i64 v47 fun n49 => asC A l48 fun v50 l51 => asI A .i64 v50 fun n52 => asC A l51 fun v53 l54 => asI A .i64 v53 fun n55 => asN A l54 (asN A l39 (asN A l31 (A.both (A.chk true (A.chk (decide (((map fldV x.fields).length + [agg [int .i64 n43, int .i64 n46, int .i64 n49, int .i64 n52, int .i64 n55]].length) * 40 ≤ 211106232532992)) (A.chk true (next [int .i64 m, int .i64 (IntKind.i64.wrap (i + (1 : Int)))] [[lst .ro 1 l34, int .i64 n37], [int .i64 x.op, int .i64 x.form, int .i64 x.field, int .i64 x.place, int .i64 x.to, int .i64 x.a, int .i64 x.b, int .i64 x.f.id, int .i64 x.f.kind, int .i64 x.f.lo, int .i64 x.f.hi, int .i64 x.f.most, int .i64 x.n, str x.s, lst (.own (.O 1 14)) 1 (map (fun n => int .i64 n) x.t), lst (.own (.O 1 15)) 5 (map fldV x.fields ++ [agg [int .i64 n43, int .i64 n46, int .i64 n49, int .i64 n52, int .i64 n55]])]])))) (A.chk true (A.chk (decide (((map fldV x.fields).length + [agg [int .i64 n43, int .i64 n46, int .i64 n49, int .i64 n52, int .i64 n55]].length) * 40 ≤ 211106232532992)) (A.chk true (next [int .i64 m, int .i64 (IntKind.i64.wrap (i + (1 : Int)))] [[lst .ro 1 l34, int .i64 n37], [int .i64 x.op, int .i64 x.form, int .i64 x.field, int .i64 x.place, int .i64 x.to, int .i64 x.a, int .i64 x.b, int .i64 x.f.id, int .i64 x.f.kind, int .i64 x.f.lo, int .i64 x.f.hi, int .i64 x.f.most, int .i64 x.n, str x.s, lst (.own (.O 1 14)) 1 (map (fun n => int .i64 n) x.t), lst (.own (.O 1 15)) 5 (map fldV x.fields ++ [agg [int .i64 n43, int .i64 n46, int .i64 n49, int .i64 n52, int .i64 n55]])]]))))))))) else A.fail)) else (kc 4 [] [[lst .ro 1 (encB b), int .i64 e], [int .i64 x.op, int .i64 x.form, int .i64 x.field, int .i64 x.place, int .i64 x.to, int .i64 x.a, int .i64 x.b, int .i64 x.f.id, int .i64 x.f.kind, int .i64 x.f.lo, int .i64 x.f.hi, int .i64 x.f.most, int .i64 x.n, str x.s, lst (.own (.O 1 14)) 1 (map (fun n => int .i64 n) x.t), lst (.own (.O 1 15)) 5 (map fldV x.fields)]])
def s_tParse {α : Type} (A : Alg α) (b : List UInt8) (kc : List AV → List (Nat × List AV) → α) : α :=
  A.call 62 [lst .ro 1 (encB b)] [] fun l0 l1 => asC A l0 fun v2 l3 => asRef0 A v2 fun o4 => bif (o4.beq 64) then (asC A l1 fun x5 l6 => bif (x5.1.beq 64) then (asC A x5.2 fun v7 l8 => asL A 1 v7 fun l9 => asC A l8 fun v10 l11 => asI A .i64 v10 fun n12 => asN A l11 (asN A l3 (asN A l6 (A.call 63 [ref 0 0, int .i64 40] [(0, [lst .ro 1 l9, int .i64 n12])] fun l13 l14 => asC A l14 fun x15 l16 => bif (x15.1.beq 0) then (asC A x15.2 fun v17 l18 => asL A 1 v17 fun l19 => asC A l18 fun v20 l21 => asI A .i64 v20 fun n22 => asN A l21 (asC A l13 fun v23 l24 => asI A .i64 v23 fun n25 => asN A l24 (asN A l16 (A.loop 4 [lst (.own (.L 5)) 16 [], int .i64 n25, int .i64 0] [[lst .ro 1 l19, int .i64 n22]] fun j26 l27 l28 => bif (j26.beq 1) then (asC A l27 fun v29 l30 => asOwn A 16 v29 fun x31 l32 => bif (x31.beq (.L (5 : Nat))) then (asN A l30 (asC A l28 fun l33 l34 => asC A l33 fun v35 l36 => asL A 1 v35 fun l37 => asC A l36 fun v38 l39 => asI A .i64 v38 fun n40 => asN A l39 (asN A l34 (A.call 65 [ref 0 0] [(0, [lst .ro 1 l37, int .i64 n40])] fun l41 l42 => asC A l42 fun x43 l44 => bif (x43.1.beq 0) then (asC A x43.2 fun v45 l46 => asL A 1 v45 fun l47 => asC A l46 fun v48 l49 => asI A .i64 v48 fun n50 => asN A l49 (asC A l41 fun v51 l52 => asI A .i64 v51 fun n53 => asN A l52 (asN A l44 (bif (n53 != (0 : Int)) then (kc [lst .ro 16 [], int .i64 n53] []) else (A.callx 116 [lst .ro 16 l32, clo 117 []] fun l54 => asC A l54 fun v55 l56 => asB A v55 fun b57 => asN A l56 (bif b57 then (kc [lst .ro 16 [], int .i64 2] []) else (kc [lst .ro 16 l32, int .i64 0] []))))))) else A.fail)))) else A.fail) else A.fail)))) else A.fail)))) else A.fail) else A.fail
def s_tParseL {α : Type} (A : Alg α) (b : List UInt8) (l : List Stp) (n : Int) (i : Int) (e : Int) (next : List AV → List (List AV) → α) (kc : Nat → List AV → List (List AV) → α) : α :=
  bif (decide (i < n)) then (A.call 63 [ref 0 0, int .i64 30] [(0, [lst .ro 1 (encB b), int .i64 e])] fun l0 l1 => asC A l1 fun x2 l3 => bif (x2.1.beq 0) then (asC A x2.2 fun v4 l5 => asL A 1 v4 fun l6 => asC A l5 fun v7 l8 => asI A .i64 v7 fun n9 => asN A l8 (asC A l0 fun v10 l11 => asI A .i64 v10 fun n12 => asN A l11 (asN A l3 (A.chk true (A.chk true (A.chk true (A.callx 105 [int .i64 n12] fun l13 => asC A l13 fun v14 l15 => asL A 1 v14 fun l16 => asN A l15 (A.asm (l16.length ≤ maxL) (A.loop 7 [lst (.own (.L 5)) 16 (map stpV l), int .i64 n, int .i64 i, lst .ro 1 l16, int .i64 (↑l16.length : Int), int .i64 0] [[int .i64 n12, int .i64 0, int .i64 0, int .i64 0, int .i64 0, int .i64 0, int .i64 0, int .i64 0, int .i64 0, int .i64 0, int .i64 0, int .i64 0, int .i64 0, str [], lst (.own (.O 1006 14)) 1 [], lst (.own (.O 1006 15)) 5 []], [lst .ro 1 l6, int .i64 n9]] fun j17 l18 l19 => bif (j17.beq 3) then (asC A l18 fun v20 l21 => asOwn A 16 v20 fun x22 l23 => bif (x22.beq (.L (5 : Nat))) then (asC A l21 fun v24 l25 => asI A .i64 v24 fun n26 => asC A l25 fun v27 l28 => asI A .i64 v27 fun n29 => asN A l28 (asC A l19 fun l30 l31 => asC A l30 fun v32 l33 => asI A .i64 v32 fun n34 => asC A l33 fun v35 l36 => asI A .i64 v35 fun n37 => asC A l36 fun v38 l39 => asI A .i64 v38 fun n40 => asC A l39 fun v41 l42 => asI A .i64 v41 fun n43 => asC A l42 fun v44 l45 => asI A .i64 v44 fun n46 => asC A l45 fun v47 l48 => asI A .i64 v47 fun n49 => asC A l48 fun v50 l51 => asI A .i64 v50 fun n52 => asC A l51 fun v53 l54 => asI A .i64 v53 fun n55 => asC A l54 fun v56 l57 => asI A .i64 v56 fun n58 => asC A l57 fun v59 l60 => asI A .i64 v59 fun n61 => asC A l60 fun v62 l63 => asI A .i64 v62 fun n64 => asC A l63 fun v65 l66 => asI A .i64 v65 fun n67 => asC A l66 fun v68 l69 => asI A .i64 v68 fun n70 => asC A l69 fun v71 l72 => asS A v71 fun l73 => asC A l72 fun v74 l75 => asOwn A 1 v74 fun x76 l77 => bif (x76.beq (.O (1006 : Nat) (14 : Nat))) then (asC A l75 fun v78 l79 => asOwn A 5 v78 fun x80 l81 => bif (x80.beq (.O (1006 : Nat) (15 : Nat))) then (asN A l79 (asC A l31 fun l82 l83 => asC A l82 fun v84 l85 => asL A 1 v84 fun l86 => asC A l85 fun v87 l88 => asI A .i64 v87 fun n89 => asN A l88 (asN A l83 (A.chk true (A.chk true (A.chk (decide ((l23.length + [agg [int .i64 n34, int .i64 n37, int .i64 n40, int .i64 n43, int .i64 n46, int .i64 n49, int .i64 n52, int .i64 n55, int .i64 n58, int .i64 n61, int .i64 n64, int .i64 n67, int .i64 n70, str l73, lst .ro (nat_lit 1) l77, lst .ro (nat_lit 5) l81]].length) * 168 ≤ 211106232532992)) (next [lst (.own (.L 5)) 16 (l23 ++ [agg [int .i64 n34, int .i64 n37, int .i64 n40, int .i64 n43, int .i64 n46, int .i64 n49, int .i64 n52, int .i64 n55, int .i64 n58, int .i64 n61, int .i64 n64, int .i64 n67, int .i64 n70, str l73, lst .ro (nat_lit 1) l77, lst .ro (nat_lit 5) l81]]), int .i64 n26, int .i64 (IntKind.i64.wrap (n29 + (1 : Int)))] [[lst .ro 1 l86, int .i64 n89]]))))))) else A.fail) else A.fail)) else A.fail) else A.fail))))))))) else A.fail) else (kc 1 [lst (.own (.L 5)) 16 (map stpV l)] [[lst .ro 1 (encB b), int .i64 e]])
def s_tParseK {α : Type} (A : Alg α) (b : List UInt8) (l : List Stp) (x : Stp) (u : List Int) (n : Int) (i : Int) (m : Int) (k : Int) (e : Int) (next : List AV → List (List AV) → α) (kc : Nat → List AV → List (List AV) → α) : α :=
  bif (decide (k < m)) then (A.chk (decide ((0 : Int) ≤ k)) (nthE A (map (fun n => int .i64 n) u) k.toNat fun v0 => asI A .i64 v0 fun n1 => A.call 115 [ref 0 0, ref 1 0, int .i64 n1] [(0, [lst .ro 1 (encB b), int .i64 e]), (1, [int .i64 x.op, int .i64 x.form, int .i64 x.field, int .i64 x.place, int .i64 x.to, int .i64 x.a, int .i64 x.b, int .i64 x.f.id, int .i64 x.f.kind, int .i64 x.f.lo, int .i64 x.f.hi, int .i64 x.f.most, int .i64 x.n, str x.s, lst (.own (.E 1 14)) 1 (map (fun n => int .i64 n) x.t), lst (.own (.E 1 15)) 5 (map fldV x.fields)])] fun l2 l3 => asC A l3 fun x4 l5 => bif (x4.1.beq 0) then (asC A x4.2 fun v6 l7 => asL A 1 v6 fun l8 => asC A l7 fun v9 l10 => asI A .i64 v9 fun n11 => asN A l10 (asC A l5 fun x12 l13 => bif (x12.1.beq 1) then (asC A x12.2 fun v14 l15 => asI A .i64 v14 fun n16 => asC A l15 fun v17 l18 => asI A .i64 v17 fun n19 => asC A l18 fun v20 l21 => asI A .i64 v20 fun n22 => asC A l21 fun v23 l24 => asI A .i64 v23 fun n25 => asC A l24 fun v26 l27 => asI A .i64 v26 fun n28 => asC A l27 fun v29 l30 => asI A .i64 v29 fun n31 => asC A l30 fun v32 l33 => asI A .i64 v32 fun n34 => asC A l33 fun v35 l36 => asI A .i64 v35 fun n37 => asC A l36 fun v38 l39 => asI A .i64 v38 fun n40 => asC A l39 fun v41 l42 => asI A .i64 v41 fun n43 => asC A l42 fun v44 l45 => asI A .i64 v44 fun n46 => asC A l45 fun v47 l48 => asI A .i64 v47 fun n49 => asC A l48 fun v50 l51 => asI A .i64 v50 fun n52 => asC A l51 fun v53 l54 => asS A v53 fun l55 => asC A l54 fun v56 l57 => asOwn A 1 v56 fun x58 l59 => asC A l57 fun v60 l61 => asOwn A 5 v60 fun x62 l63 => asN A l61 (asN A l2 (asN A l13 (next [lst (.own (.L 5)) 16 (map stpV l), int .i64 n, int .i64 i, lst .ro 1 (map (fun n => int .i64 n) u), int .i64 m, int .i64 (IntKind.i64.wrap (k + (1 : Int)))] [[int .i64 n16, int .i64 n19, int .i64 n22, int .i64 n25, int .i64 n28, int .i64 n31, int .i64 n34, int .i64 n37, int .i64 n40, int .i64 n43, int .i64 n46, int .i64 n49, int .i64 n52, str l55, lst (.own (.O 1006 14)) 1 l59, lst (.own (.O 1006 15)) 5 l63], [lst .ro 1 l8, int .i64 n11]])))) else A.fail)) else A.fail)) else (kc 3 [lst (.own (.L 5)) 16 (map stpV l), int .i64 n, int .i64 i] [[int .i64 x.op, int .i64 x.form, int .i64 x.field, int .i64 x.place, int .i64 x.to, int .i64 x.a, int .i64 x.b, int .i64 x.f.id, int .i64 x.f.kind, int .i64 x.f.lo, int .i64 x.f.hi, int .i64 x.f.most, int .i64 x.n, str x.s, lst (.own (.O 1006 14)) 1 (map (fun n => int .i64 n) x.t), lst (.own (.O 1006 15)) 5 (map fldV x.fields)], [lst .ro 1 (encB b), int .i64 e]])
def s_Parse1 {α : Type} (A : Alg α) (x : Stp) (kc : List AV → List (Nat × List AV) → α) : α :=
  A.chk true (A.chk true (A.callx 69 [agg [int .i64 x.op, int .i64 x.form, int .i64 x.field, int .i64 x.place, int .i64 x.to, int .i64 x.a, int .i64 x.b, int .i64 x.f.id, int .i64 x.f.kind, int .i64 x.f.lo, int .i64 x.f.hi, int .i64 x.f.most, int .i64 x.n, str x.s, lst .ro 1 (map (fun n => int .i64 n) x.t), lst .ro 5 (map fldV x.fields)]] fun l0 => asC A l0 fun v1 l2 => asB A v1 fun b3 => asN A l2 (kc [bool (!b3)] [])))
def s_ContainsS {α : Type} (A : Alg α) (l : List Stp) (kc : List AV → List (Nat × List AV) → α) : α :=
  A.callx 140 [lst .ro 16 (map stpV l), clo 117 []] fun l0 => asC A l0 fun v1 l2 => asI A .i64 v1 fun n3 => asN A l2 (kc [bool (decide (n3 ≥ (0 : Int)))] [])
def s_IndexS {α : Type} (A : Alg α) (l : List Stp) (kc : List AV → List (Nat × List AV) → α) : α :=
  A.asm ((map stpV l).length ≤ maxL) (A.loop 2 [lst .ro 16 (map stpV l), clo 117 [], int .i64 (↑(map stpV l).length : Int), int .i64 0] [] fun j0 l1 l2 => bif (j0.beq 0) then (asC A l1 fun v3 l4 => asI A .i64 v3 fun n5 => asN A l4 (asN A l2 (kc [int .i64 n5] []))) else (bif (j0.beq 1) then (asN A l1 (asN A l2 (kc [int .i64 (-1)] []))) else A.fail))
def s_IndexSL {α : Type} (A : Alg α) (l : List Stp) (m : Int) (i : Int) (next : List AV → List (List AV) → α) (kc : Nat → List AV → List (List AV) → α) : α :=
  bif (decide (i < m)) then (A.chk (decide ((0 : Int) ≤ i)) (nthE A (map stpV l) i.toNat fun v0 => asA A v0 fun l1 => asC A l1 fun v2 l3 => asI A .i64 v2 fun n4 => asC A l3 fun v5 l6 => asI A .i64 v5 fun n7 => asC A l6 fun v8 l9 => asI A .i64 v8 fun n10 => asC A l9 fun v11 l12 => asI A .i64 v11 fun n13 => asC A l12 fun v14 l15 => asI A .i64 v14 fun n16 => asC A l15 fun v17 l18 => asI A .i64 v17 fun n19 => asC A l18 fun v20 l21 => asI A .i64 v20 fun n22 => asC A l21 fun v23 l24 => asI A .i64 v23 fun n25 => asC A l24 fun v26 l27 => asI A .i64 v26 fun n28 => asC A l27 fun v29 l30 => asI A .i64 v29 fun n31 => asC A l30 fun v32 l33 => asI A .i64 v32 fun n34 => asC A l33 fun v35 l36 => asI A .i64 v35 fun n37 => asC A l36 fun v38 l39 => asI A .i64 v38 fun n40 => asC A l39 fun v41 l42 => asS A v41 fun l43 => asC A l42 fun v44 l45 => asL A 1 v44 fun l46 => asC A l45 fun v47 l48 => asL A 5 v47 fun l49 => asN A l48 (A.chk true (A.callx 117 [agg [int .i64 n4, int .i64 n7, int .i64 n10, int .i64 n13, int .i64 n16, int .i64 n19, int .i64 n22, int .i64 n25, int .i64 n28, int .i64 n31, int .i64 n34, int .i64 n37, int .i64 n40, str l43, lst .ro 1 l46, lst .ro 5 l49]] fun l50 => asC A l50 fun v51 l52 => asB A v51 fun b53 => asN A l52 (bif b53 then (kc 0 [int .i64 i] []) else (next [lst .ro 16 (map stpV l), clo 117 [], int .i64 m, int .i64 (IntKind.i64.wrap (i + (1 : Int)))] [])))))) else (kc 1 [] [])
def s_SameListT {α : Type} (A : Alg α) (x : List Stp) (y : List Stp) (kc : List AV → List (Nat × List AV) → α) : α :=
  A.asm ((map stpV x).length ≤ maxL) (A.asm ((map stpV y).length ≤ maxL) (bif ((↑(map stpV x).length : Int) != (↑(map stpV y).length : Int)) then (kc [bool false] []) else (A.loop 4 [lst .ro 16 (map stpV x), lst .ro 16 (map stpV y), int .i64 0] [] fun j0 l1 l2 => bif (j0.beq 0) then (asC A l1 fun v3 l4 => asB A v3 fun b5 => asN A l4 (asN A l2 (kc [bool b5] []))) else (bif (j0.beq 1) then (asN A l1 (asN A l2 (kc [bool true] []))) else A.fail))))
def s_SameListTL {α : Type} (A : Alg α) (x : List Stp) (y : List Stp) (i : Int) (next : List AV → List (List AV) → α) (kc : Nat → List AV → List (List AV) → α) : α :=
  A.asm ((map stpV x).length ≤ maxL) (bif (decide (i < (↑(map stpV x).length : Int))) then (A.chk (decide ((0 : Int) ≤ i)) (nthE A (map stpV x) i.toNat fun v0 => asA A v0 fun l1 => asC A l1 fun v2 l3 => asI A .i64 v2 fun n4 => asC A l3 fun v5 l6 => asI A .i64 v5 fun n7 => asC A l6 fun v8 l9 => asI A .i64 v8 fun n10 => asC A l9 fun v11 l12 => asI A .i64 v11 fun n13 => asC A l12 fun v14 l15 => asI A .i64 v14 fun n16 => asC A l15 fun v17 l18 => asI A .i64 v17 fun n19 => asC A l18 fun v20 l21 => asI A .i64 v20 fun n22 => asC A l21 fun v23 l24 => asI A .i64 v23 fun n25 => asC A l24 fun v26 l27 => asI A .i64 v26 fun n28 => asC A l27 fun v29 l30 => asI A .i64 v29 fun n31 => asC A l30 fun v32 l33 => asI A .i64 v32 fun n34 => asC A l33 fun v35 l36 => asI A .i64 v35 fun n37 => asC A l36 fun v38 l39 => asI A .i64 v38 fun n40 => asC A l39 fun v41 l42 => asS A v41 fun l43 => asC A l42 fun v44 l45 => asL A 1 v44 fun l46 => asC A l45 fun v47 l48 => asL A 5 v47 fun l49 => asN A l48 (A.chk true (A.chk (decide ((0 : Int) ≤ i)) (nthE A (map stpV y) i.toNat fun v50 => asA A v50 fun l51 => asC A l51 fun v52 l53 => asI A .i64 v52 fun n54 => asC A l53 fun v55 l56 => asI A .i64 v55 fun n57 => asC A l56 fun v58 l59 => asI A .i64 v58 fun n60 => asC A l59 fun v61 l62 => asI A .i64 v61 fun n63 => asC A l62 fun v64 l65 => asI A .i64 v64 fun n66 => asC A l65 fun v67 l68 => asI A .i64 v67 fun n69 => asC A l68 fun v70 l71 => asI A .i64 v70 fun n72 => asC A l71 fun v73 l74 => asI A .i64 v73 fun n75 => asC A l74 fun v76 l77 => asI A .i64 v76 fun n78 => asC A l77 fun v79 l80 => asI A .i64 v79 fun n81 => asC A l80 fun v82 l83 => asI A .i64 v82 fun n84 => asC A l83 fun v85 l86 => asI A .i64 v85 fun n87 => asC A l86 fun v88 l89 => asI A .i64 v88 fun n90 => asC A l89 fun v91 l92 => asS A v91 fun l93 => asC A l92 fun v94 l95 => asL A 1 v94 fun l96 => asC A l95 fun v97 l98 => asL A 5 v97 fun l99 => asN A l98 (A.chk true (A.callx 47 [agg [int .i64 n4, int .i64 n7, int .i64 n10, int .i64 n13, int .i64 n16, int .i64 n19, int .i64 n22, int .i64 n25, int .i64 n28, int .i64 n31, int .i64 n34, int .i64 n37, int .i64 n40, str l43, lst .ro 1 l46, lst .ro 5 l49], agg [int .i64 n54, int .i64 n57, int .i64 n60, int .i64 n63, int .i64 n66, int .i64 n69, int .i64 n72, int .i64 n75, int .i64 n78, int .i64 n81, int .i64 n84, int .i64 n87, int .i64 n90, str l93, lst .ro 1 l96, lst .ro 5 l99]] fun l100 => asC A l100 fun v101 l102 => asB A v101 fun b103 => asN A l102 (bif (!b103) then (kc 0 [bool false] []) else (next [lst .ro 16 (map stpV x), lst .ro 16 (map stpV y), int .i64 (IntKind.i64.wrap (i + (1 : Int)))] []))))))))) else (kc 1 [] []))
theorem t_writeField (b : List AV) (x : Fld) (e : Int) {r : CR} (h : s_writeField (OA (tbl E0) (ltbl E0 137 0)) b x e (fun r o => some (r, o)) = some r) : tbl E0 137 [.ref 0 0, fldV x] (penA b e) = some r :=
  tbl_of (body := bodyOf Try.f137) Try.func137 (by kernel_rfl) (by kernel_rfl) (by kernel_rfl) (Eq.trans (by kernel_rfl) h)
theorem t_twrite (b : List AV) (x : Stp) (p e : Int) {r : CR} (h : s_twrite (OA (tbl E0) (ltbl E0 106 0)) b x p e (fun r o => some (r, o)) = some r) : tbl E0 106 [.ref 0 0, stpV x, .int .i64 p] (penA b e) = some r :=
  tbl_of (body := bodyOf Try.f106) Try.func106 (by kernel_rfl) (by kernel_rfl) (by kernel_rfl) (Eq.trans (by kernel_rfl) h)
theorem t_twriteT (l : List Int) (b : List AV) (m i e : Int) {r : LR} (h : s_twriteT (OA (tbl E0) (ltbl E0 106 0)) l b m i e (fun vs os => ltbl E0 106 0 23 vs os) (fun j vs os => some (j, vs, os)) = some r) : ltbl E0 106 0 23 [intsV l, .int .i64 m, .int .i64 i] [[.lst (.own (.O 0 0)) 1 b, .int .i64 e]] = some r :=
  ltbl_of (body := bodyOf Try.f106) Try.func106 (by kernel_rfl) (by kernel_rfl) (Eq.trans (by kernel_rfl) h)
theorem t_twriteF (l : List Fld) (b : List AV) (m i e : Int) {r : LR} (h : s_twriteF (OA (tbl E0) (ltbl E0 106 0)) l b m i e (fun vs os => ltbl E0 106 0 30 vs os) (fun j vs os => some (j, vs, os)) = some r) : ltbl E0 106 0 30 [fldsV l, .int .i64 m, .int .i64 i] [[.lst (.own (.O 0 0)) 1 b, .int .i64 e]] = some r :=
  ltbl_of (body := bodyOf Try.f106) Try.func106 (by kernel_rfl) (by kernel_rfl) (Eq.trans (by kernel_rfl) h)
theorem t_tPrint (l : List Stp) {r : CR} (h : s_tPrint (OA (tbl E0) (ltbl E0 57 0)) l (fun r o => some (r, o)) = some r) : tbl E0 57 [stpsV l] [] = some r :=
  tbl_of (body := bodyOf Try.f57) Try.func57 (by kernel_rfl) (by kernel_rfl) (by kernel_rfl) (Eq.trans (by kernel_rfl) h)
theorem t_tPrintL (l : List Stp) (b : List AV) (m i e : Int) {r : LR} (h : s_tPrintL (OA (tbl E0) (ltbl E0 57 0)) l b m i e (fun vs os => ltbl E0 57 0 6 vs os) (fun j vs os => some (j, vs, os)) = some r) : ltbl E0 57 0 6 [stpsV l, .int .i64 m, .int .i64 i] [[.lst (.own (.O 1012 0)) 1 b, .int .i64 e]] = some r :=
  ltbl_of (body := bodyOf Try.f57) Try.func57 (by kernel_rfl) (by kernel_rfl) (Eq.trans (by kernel_rfl) h)
theorem t_tPrintK (l : List Stp) (x : Stp) (u : List Int) (b : List AV) (m i n k e : Int) {r : LR} (h : s_tPrintK (OA (tbl E0) (ltbl E0 57 0)) l x u b m i n k e (fun vs os => ltbl E0 57 0 12 vs os) (fun j vs os => some (j, vs, os)) = some r) : ltbl E0 57 0 12 [stpsV l, .int .i64 m, .int .i64 i, intsV u, .int .i64 n, .int .i64 k] [stpC x, [.lst (.own (.O 1012 0)) 1 b, .int .i64 e]] = some r :=
  ltbl_of (body := bodyOf Try.f57) Try.func57 (by kernel_rfl) (by kernel_rfl) (Eq.trans (by kernel_rfl) h)
theorem t_readField (b : List UInt8) (e : Int) {r : CR} (h : s_readField (OA (tbl E0) (ltbl E0 139 0)) b e (fun r o => some (r, o)) = some r) : tbl E0 139 [.ref 0 0] (eyeV b e) = some r :=
  tbl_of (body := bodyOf Try.f139) Try.func139 (by kernel_rfl) (by kernel_rfl) (by kernel_rfl) (Eq.trans (by kernel_rfl) h)
theorem t_tread (b : List UInt8) (x : Stp) (p e : Int) {r : CR} (h : s_tread (OA (tbl E0) (ltbl E0 115 0)) b x p e (fun r o => some (r, o)) = some r) : tbl E0 115 [.ref 0 0, .ref 1 0, .int .i64 p] [(0, [.lst .ro 1 (encB b), .int .i64 e]), (1, stpO x (.E 1 14) (.E 1 15))] = some r :=
  tbl_of (body := bodyOf Try.f115) Try.func115 (by kernel_rfl) (by kernel_rfl) (by kernel_rfl) (Eq.trans (by kernel_rfl) h)
theorem t_treadT (b : List UInt8) (x : Stp) (m i e : Int) {r : LR} (h : s_treadT (OA (tbl E0) (ltbl E0 115 0)) b x m i e (fun vs os => ltbl E0 115 0 21 vs os) (fun j vs os => some (j, vs, os)) = some r) : ltbl E0 115 0 21 [.int .i64 m, .int .i64 i] [[.lst .ro 1 (encB b), .int .i64 e], stpO x (.O 1 14) (.O 1 15)] = some r :=
  ltbl_of (body := bodyOf Try.f115) Try.func115 (by kernel_rfl) (by kernel_rfl) (Eq.trans (by kernel_rfl) h)
theorem t_treadF (b : List UInt8) (x : Stp) (m i e : Int) {r : LR} (h : s_treadF (OA (tbl E0) (ltbl E0 115 0)) b x m i e (fun vs os => ltbl E0 115 0 26 vs os) (fun j vs os => some (j, vs, os)) = some r) : ltbl E0 115 0 26 [.int .i64 m, .int .i64 i] [[.lst .ro 1 (encB b), .int .i64 e], stpO x (.O 1 14) (.O 1 15)] = some r :=
  ltbl_of (body := bodyOf Try.f115) Try.func115 (by kernel_rfl) (by kernel_rfl) (Eq.trans (by kernel_rfl) h)
theorem t_tParse (b : List UInt8) {r : CR} (h : s_tParse (OA (tbl E0) (ltbl E0 67 0)) b (fun r o => some (r, o)) = some r) : tbl E0 67 [.lst .ro 1 (encB b)] [] = some r :=
  tbl_of (body := bodyOf Try.f67) Try.func67 (by kernel_rfl) (by kernel_rfl) (by kernel_rfl) (Eq.trans (by kernel_rfl) h)
theorem t_tParseL (b : List UInt8) (l : List Stp) (n i e : Int) {r : LR} (h : s_tParseL (OA (tbl E0) (ltbl E0 67 0)) b l n i e (fun vs os => ltbl E0 67 0 4 vs os) (fun j vs os => some (j, vs, os)) = some r) : ltbl E0 67 0 4 [.lst (.own (.L 5)) 16 (l.map stpV), .int .i64 n, .int .i64 i] [[.lst .ro 1 (encB b), .int .i64 e]] = some r :=
  ltbl_of (body := bodyOf Try.f67) Try.func67 (by kernel_rfl) (by kernel_rfl) (Eq.trans (by kernel_rfl) h)
theorem t_tParseK (b : List UInt8) (l : List Stp) (x : Stp) (u : List Int) (n i m k e : Int) {r : LR} (h : s_tParseK (OA (tbl E0) (ltbl E0 67 0)) b l x u n i m k e (fun vs os => ltbl E0 67 0 7 vs os) (fun j vs os => some (j, vs, os)) = some r) : ltbl E0 67 0 7 [.lst (.own (.L 5)) 16 (l.map stpV), .int .i64 n, .int .i64 i, intsV u, .int .i64 m, .int .i64 k] [stpO x (.O 1006 14) (.O 1006 15), [.lst .ro 1 (encB b), .int .i64 e]] = some r :=
  ltbl_of (body := bodyOf Try.f67) Try.func67 (by kernel_rfl) (by kernel_rfl) (Eq.trans (by kernel_rfl) h)
theorem t_Parse1 (x : Stp) {r : CR} (h : s_Parse1 (OA (tbl E0) (ltbl E0 117 0)) x (fun r o => some (r, o)) = some r) : tbl E0 117 [stpV x] [] = some r :=
  tbl_of (body := bodyOf Try.f117) Try.func117 (by kernel_rfl) (by kernel_rfl) (by kernel_rfl) (Eq.trans (by kernel_rfl) h)
theorem t_ContainsS (l : List Stp) {r : CR} (h : s_ContainsS (OA (tbl E0) (ltbl E0 116 0)) l (fun r o => some (r, o)) = some r) : tbl E0 116 [stpsV l, .clo 117 []] [] = some r :=
  tbl_of (body := bodyOf Try.f116) Try.func116 (by kernel_rfl) (by kernel_rfl) (by kernel_rfl) (Eq.trans (by kernel_rfl) h)
theorem t_IndexS (l : List Stp) {r : CR} (h : s_IndexS (OA (tbl E0) (ltbl E0 140 0)) l (fun r o => some (r, o)) = some r) : tbl E0 140 [stpsV l, .clo 117 []] [] = some r :=
  tbl_of (body := bodyOf Try.f140) Try.func140 (by kernel_rfl) (by kernel_rfl) (by kernel_rfl) (Eq.trans (by kernel_rfl) h)
theorem t_IndexSL (l : List Stp) (m i : Int) {r : LR} (h : s_IndexSL (OA (tbl E0) (ltbl E0 140 0)) l m i (fun vs os => ltbl E0 140 0 2 vs os) (fun j vs os => some (j, vs, os)) = some r) : ltbl E0 140 0 2 [stpsV l, .clo 117 [], .int .i64 m, .int .i64 i] [] = some r :=
  ltbl_of (body := bodyOf Try.f140) Try.func140 (by kernel_rfl) (by kernel_rfl) (Eq.trans (by kernel_rfl) h)
theorem t_SameListT (x y : List Stp) {r : CR} (h : s_SameListT (OA (tbl E0) (ltbl E0 48 0)) x y (fun r o => some (r, o)) = some r) : tbl E0 48 [stpsV x, stpsV y] [] = some r :=
  tbl_of (body := bodyOf Try.f48) Try.func48 (by kernel_rfl) (by kernel_rfl) (by kernel_rfl) (Eq.trans (by kernel_rfl) h)
theorem t_SameListTL (x y : List Stp) (i : Int) {r : LR} (h : s_SameListTL (OA (tbl E0) (ltbl E0 48 0)) x y i (fun vs os => ltbl E0 48 0 4 vs os) (fun j vs os => some (j, vs, os)) = some r) : ltbl E0 48 0 4 [stpsV x, stpsV y, .int .i64 i] [] = some r :=
  ltbl_of (body := bodyOf Try.f48) Try.func48 (by kernel_rfl) (by kernel_rfl) (Eq.trans (by kernel_rfl) h)
end Go.Proofs.Ytmpfeofeokmooaa.V
namespace Go.Proofs.Ytmpfeofeokmooaa.V
open Go
open AV (int lst agg str bool ref clo)
open List (map)
end Go.Proofs.Ytmpfeofeokmooaa.V
namespace Go.Proofs.Ytmpfeofeokmooaa.V
open Go
open AV (int lst agg str bool ref clo)
open List (map)
def s_swrite {α : Type} (A : Alg α) (b : List AV) (x : Fld) (e : Int) (kc : List AV → List (Nat × List AV) → α) : α :=
  A.chk true (A.call 59 [ref 0 0, int .i64 x.id] [(0, [lst (.own (.E 0 0)) 1 b, int .i64 e])] fun l0 l1 => asC A l1 fun x2 l3 => bif (x2.1.beq 0) then (asC A x2.2 fun v4 l5 => asOwn A 1 v4 fun x6 l7 => asC A l5 fun v8 l9 => asI A .i64 v8 fun n10 => asN A l9 (asN A l0 (asN A l3 (A.call 59 [ref 0 0, int .i64 x.kind] [(0, [lst (.own (.E 0 0)) 1 l7, int .i64 n10])] fun l11 l12 => asC A l12 fun x13 l14 => bif (x13.1.beq 0) then (asC A x13.2 fun v15 l16 => asOwn A 1 v15 fun x17 l18 => asC A l16 fun v19 l20 => asI A .i64 v19 fun n21 => asN A l20 (asN A l11 (asN A l14 (bif (x.kind == (1 : Int)) then (A.call 133 [ref 0 0, int .i64 x.lo] [(0, [lst (.own (.E 0 0)) 1 l18, int .i64 n21])] fun l22 l23 => asC A l23 fun x24 l25 => bif (x24.1.beq 0) then (asC A x24.2 fun v26 l27 => asOwn A 1 v26 fun x28 l29 => asC A l27 fun v30 l31 => asI A .i64 v30 fun n32 => asN A l31 (asN A l22 (asN A l25 (A.call 133 [ref 0 0, int .i64 x.hi] [(0, [lst (.own (.E 0 0)) 1 l29, int .i64 n32])] fun l33 l34 => asC A l34 fun x35 l36 => bif (x35.1.beq 0) then (asC A x35.2 fun v37 l38 => asOwn A 1 v37 fun x39 l40 => asC A l38 fun v41 l42 => asI A .i64 v41 fun n43 => asN A l42 (asN A l33 (asN A l36 (kc [] [(0, [lst (.own (.E 0 0)) 1 l40, int .i64 n43])])))) else A.fail)))) else A.fail) else (bif (x.kind == (3 : Int)) then (A.call 59 [ref 0 0, int .i64 x.most] [(0, [lst (.own (.E 0 0)) 1 l18, int .i64 n21])] fun l44 l45 => asC A l45 fun x46 l47 => bif (x46.1.beq 0) then (asC A x46.2 fun v48 l49 => asOwn A 1 v48 fun x50 l51 => asC A l49 fun v52 l53 => asI A .i64 v52 fun n54 => asN A l53 (asN A l44 (asN A l47 (kc [] [(0, [lst (.own (.E 0 0)) 1 l51, int .i64 n54])])))) else A.fail) else (bif (x.kind == (4 : Int)) then (A.call 59 [ref 0 0, int .i64 x.most] [(0, [lst (.own (.E 0 0)) 1 l18, int .i64 n21])] fun l55 l56 => asC A l56 fun x57 l58 => bif (x57.1.beq 0) then (asC A x57.2 fun v59 l60 => asOwn A 1 v59 fun x61 l62 => asC A l60 fun v63 l64 => asI A .i64 v63 fun n65 => asN A l64 (asN A l55 (asN A l58 (kc [] [(0, [lst (.own (.E 0 0)) 1 l62, int .i64 n65])])))) else A.fail) else (kc [] [(0, [lst (.own (.E 0 0)) 1 l18, int .i64 n21])]))))))) else A.fail)))) else A.fail)
def s_sread {α : Type} (A : Alg α) (b : List UInt8) (e : Int) (kc : List AV → List (Nat × List AV) → α) : α :=
  A.call 63 [ref 0 0, int .i64 255] [(0, [lst .ro 1 (encB b), int .i64 e])] fun l0 l1 => asC A l1 fun x2 l3 => bif (x2.1.beq 0) then (asC A x2.2 fun v4 l5 => asL A 1 v4 fun l6 => asC A l5 fun v7 l8 => asI A .i64 v7 fun n9 => asN A l8 (asC A l0 fun v10 l11 => asI A .i64 v10 fun n12 => asN A l11 (asN A l3 (A.call 63 [ref 0 0, int .i64 4] [(0, [lst .ro 1 l6, int .i64 n9])] fun l13 l14 => asC A l14 fun x15 l16 => bif (x15.1.beq 0) then (asC A x15.2 fun v17 l18 => asL A 1 v17 fun l19 => asC A l18 fun v20 l21 => asI A .i64 v20 fun n22 => asN A l21 (asC A l13 fun v23 l24 => asI A .i64 v23 fun n25 => asN A l24 (asN A l16 (A.chk true (A.chk true (A.chk true (A.chk true (bif (n25 == (1 : Int)) then (A.call 138 [ref 0 0] [(0, [lst .ro 1 l19, int .i64 n22])] fun l26 l27 => asC A l27 fun x28 l29 => bif (x28.1.beq 0) then (asC A x28.2 fun v30 l31 => asL A 1 v30 fun l32 => asC A l31 fun v33 l34 => asI A .i64 v33 fun n35 => asN A l34 (asC A l26 fun v36 l37 => asI A .i64 v36 fun n38 => asN A l37 (asN A l29 (A.chk true (A.call 138 [ref 0 0] [(0, [lst .ro 1 l32, int .i64 n35])] fun l39 l40 => asC A l40 fun x41 l42 => bif (x41.1.beq 0) then (asC A x41.2 fun v43 l44 => asL A 1 v43 fun l45 => asC A l44 fun v46 l47 => asI A .i64 v46 fun n48 => asN A l47 (asC A l39 fun v49 l50 => asI A .i64 v49 fun n51 => asN A l50 (asN A l42 (A.chk true (A.chk true (A.chk true (A.chk true (A.chk true (kc [agg [int .i64 n12, int .i64 n25, int .i64 n38, int .i64 n51, int .i64 0]] [(0, [lst .ro 1 l45, int .i64 n48])]))))))))) else A.fail))))) else A.fail) else (bif (n25 == (3 : Int)) then (A.call 63 [ref 0 0, int .i64 1000] [(0, [lst .ro 1 l19, int .i64 n22])] fun l52 l53 => asC A l53 fun x54 l55 => bif (x54.1.beq 0) then (asC A x54.2 fun v56 l57 => asL A 1 v56 fun l58 => asC A l57 fun v59 l60 => asI A .i64 v59 fun n61 => asN A l60 (asC A l52 fun v62 l63 => asI A .i64 v62 fun n64 => asN A l63 (asN A l55 (A.chk true (A.chk true (A.chk true (A.chk true (A.chk true (kc [agg [int .i64 n12, int .i64 n25, int .i64 0, int .i64 0, int .i64 n64]] [(0, [lst .ro 1 l58, int .i64 n61])]))))))))) else A.fail) else (bif (n25 == (4 : Int)) then (A.call 63 [ref 0 0, int .i64 1000] [(0, [lst .ro 1 l19, int .i64 n22])] fun l65 l66 => asC A l66 fun x67 l68 => bif (x67.1.beq 0) then (asC A x67.2 fun v69 l70 => asL A 1 v69 fun l71 => asC A l70 fun v72 l73 => asI A .i64 v72 fun n74 => asN A l73 (asC A l65 fun v75 l76 => asI A .i64 v75 fun n77 => asN A l76 (asN A l68 (A.chk true (A.chk true (A.chk true (A.chk true (A.chk true (kc [agg [int .i64 n12, int .i64 n25, int .i64 0, int .i64 0, int .i64 n77]] [(0, [lst .ro 1 l71, int .i64 n74])]))))))))) else A.fail) else (A.chk true (A.chk true (A.chk true (A.chk true (kc [agg [int .i64 n12, int .i64 n25, int .i64 0, int .i64 0, int .i64 0]] [(0, [lst .ro 1 l19, int .i64 n22])]))))))))))))))) else A.fail)))) else A.fail
def s_sPrint {α : Type} (A : Alg α) (s : Sch) (kc : List AV → List (Nat × List AV) → α) : α :=
  A.chk true (A.chk true (A.callx 68 [agg [int .i64 s.ver, lst .ro 2 (map frmV s.forms)]] fun l0 => asC A l0 fun v1 l2 => asB A v1 fun b3 => asN A l2 (bif (!b3) then (kc [lst .ro 1 [], int .i64 2] []) else (A.call 58 [] [] fun l4 l5 => asC A l4 fun v6 l7 => asRef0 A v6 fun o8 => bif (o8.beq 64) then (asC A l5 fun x9 l10 => bif (x9.1.beq 64) then (asC A x9.2 fun v11 l12 => asOwn A 1 v11 fun x13 l14 => asC A l12 fun v15 l16 => asI A .i64 v15 fun n17 => asN A l16 (asN A l7 (asN A l10 (A.call 59 [ref 0 0, int .i64 s.ver] [(0, [lst (.own (.E 0 0)) 1 l14, int .i64 n17])] fun l18 l19 => asC A l19 fun x20 l21 => bif (x20.1.beq 0) then (asC A x20.2 fun v22 l23 => asOwn A 1 v22 fun x24 l25 => asC A l23 fun v26 l27 => asI A .i64 v26 fun n28 => asN A l27 (asN A l18 (asN A l21 (A.asm ((map frmV s.forms).length ≤ maxL) (A.call 59 [ref 0 0, int .i64 (↑(map frmV s.forms).length : Int)] [(0, [lst (.own (.E 0 0)) 1 l25, int .i64 n28])] fun l29 l30 => asC A l30 fun x31 l32 => bif (x31.1.beq 0) then (asC A x31.2 fun v33 l34 => asOwn A 1 v33 fun x35 l36 => asC A l34 fun v37 l38 => asI A .i64 v37 fun n39 => asN A l38 (asN A l29 (asN A l32 (A.asm ((map frmV s.forms).length ≤ maxL) (A.loop 7 [lst .ro 2 (map frmV s.forms), int .i64 (↑(map frmV s.forms).length : Int), int .i64 0] [[lst (.own (.O 1012 0)) 1 l36, int .i64 n39]] fun j40 l41 l42 => bif (j40.beq 1) then (asN A l41 (asC A l42 fun l43 l44 => asC A l43 fun v45 l46 => asOwn A 1 v45 fun x47 l48 => bif (x47.beq (.O (1012 : Nat) (0 : Nat))) then (asC A l46 fun v49 l50 => asI A .i64 v49 fun n51 => asN A l50 (asN A l44 (A.call 61 [ref 0 0] [(0, [lst (.own (.E 0 0)) 1 l48, int .i64 n51])] fun l52 l53 => asC A l53 fun x54 l55 => bif (x54.1.beq 0) then (asC A x54.2 fun v56 l57 => asOwn A 1 v56 fun x58 l59 => asC A l57 fun v60 l61 => asI A .i64 v60 fun n62 => asN A l61 (asC A l52 fun v63 l64 => asL A 1 v63 fun l65 => asC A l64 fun v66 l67 => asI A .i64 v66 fun n68 => asN A l67 (asN A l55 (kc [lst .ro 1 l65, int .i64 n68] [])))) else A.fail))) else A.fail)) else A.fail))))) else A.fail))))) else A.fail)))) else A.fail) else A.fail))))
def s_sPrintL {α : Type} (A : Alg α) (l : List Frm) (b : List AV) (m : Int) (i : Int) (e : Int) (next : List AV → List (List AV) → α) (kc : Nat → List AV → List (List AV) → α) : α :=
  bif (decide (i < m)) then (A.chk (decide ((0 : Int) ≤ i)) (nthE A (map frmV l) i.toNat fun v0 => asA A v0 fun l1 => asC A l1 fun v2 l3 => asI A .i64 v2 fun n4 => asC A l3 fun v5 l6 => asL A 5 v5 fun l7 => asN A l6 (A.chk true (A.chk true (A.chk true (A.call 59 [ref 0 0, int .i64 n4] [(0, [lst (.own (.E 0 0)) 1 b, int .i64 e])] fun l8 l9 => asC A l9 fun x10 l11 => bif (x10.1.beq 0) then (asC A x10.2 fun v12 l13 => asOwn A 1 v12 fun x14 l15 => asC A l13 fun v16 l17 => asI A .i64 v16 fun n18 => asN A l17 (asN A l8 (asN A l11 (A.asm (l7.length ≤ maxL) (A.call 59 [ref 0 0, int .i64 (↑l7.length : Int)] [(0, [lst (.own (.E 0 0)) 1 l15, int .i64 n18])] fun l19 l20 => asC A l20 fun x21 l22 => bif (x21.1.beq 0) then (asC A x21.2 fun v23 l24 => asOwn A 1 v23 fun x25 l26 => asC A l24 fun v27 l28 => asI A .i64 v27 fun n29 => asN A l28 (asN A l19 (asN A l22 (A.asm (l7.length ≤ maxL) (A.loop 12 [lst .ro 2 (map frmV l), int .i64 m, int .i64 i, lst .ro 5 l7, int .i64 (↑l7.length : Int), int .i64 0] [[lst (.own (.O 1012 0)) 1 l26, int .i64 n29]] fun j30 l31 l32 => bif (j30.beq 3) then (asC A l31 fun v33 l34 => asL A 2 v33 fun l35 => asC A l34 fun v36 l37 => asI A .i64 v36 fun n38 => asC A l37 fun v39 l40 => asI A .i64 v39 fun n41 => asN A l40 (asC A l32 fun l42 l43 => asC A l42 fun v44 l45 => asOwn A 1 v44 fun x46 l47 => bif (x46.beq (.O (1012 : Nat) (0 : Nat))) then (asC A l45 fun v48 l49 => asI A .i64 v48 fun n50 => asN A l49 (asN A l43 (next [lst .ro 2 l35, int .i64 n38, int .i64 (IntKind.i64.wrap (n41 + (1 : Int)))] [[lst (.own (.O 1012 0)) 1 l47, int .i64 n50]]))) else A.fail)) else A.fail))))) else A.fail))))) else A.fail)))))) else (kc 1 [] [[lst (.own (.O 1012 0)) 1 b, int .i64 e]])
def s_sPrintK {α : Type} (A : Alg α) (l : List Frm) (fs : List Fld) (b : List AV) (m : Int) (i : Int) (n : Int) (k : Int) (e : Int) (next : List AV → List (List AV) → α) (kc : Nat → List AV → List (List AV) → α) : α :=
  bif (decide (k < n)) then (A.chk (decide ((0 : Int) ≤ k)) (nthE A (map fldV fs) k.toNat fun v0 => asA A v0 fun l1 => asC A l1 fun v2 l3 => asI A .i64 v2 fun n4 => asC A l3 fun v5 l6 => asI A .i64 v5 fun n7 => asC A l6 fun v8 l9 => asI A .i64 v8 fun n10 => asC A l9 fun v11 l12 => asI A .i64 v11 fun n13 => asC A l12 fun v14 l15 => asI A .i64 v14 fun n16 => asN A l15 (A.chk true (A.chk true (A.chk true (A.chk true (A.call 87 [ref 0 0, agg [int .i64 n4, int .i64 n7, int .i64 n10, int .i64 n13, int .i64 n16]] [(0, [lst (.own (.E 0 0)) 1 b, int .i64 e])] fun l17 l18 => asC A l18 fun x19 l20 => bif (x19.1.beq 0) then (asC A x19.2 fun v21 l22 => asOwn A 1 v21 fun x23 l24 => asC A l22 fun v25 l26 => asI A .i64 v25 fun n27 => asN A l26 (asN A l17 (asN A l20 (next [lst .ro 2 (map frmV l), int .i64 m, int .i64 i, lst .ro 5 (map fldV fs), int .i64 n, int .i64 (IntKind.i64.wrap (k + (1 : Int)))] [[lst (.own (.O 1012 0)) 1 l24, int .i64 n27]])))) else A.fail))))))) else (kc 3 [lst .ro 2 (map frmV l), int .i64 m, int .i64 i] [[lst (.own (.O 1012 0)) 1 b, int .i64 e]])
def s_sParse {α : Type} (A : Alg α) (b : List UInt8) (kc : List AV → List (Nat × List AV) → α) : α :=
  A.call 62 [lst .ro 1 (encB b)] [] fun l0 l1 => asC A l0 fun v2 l3 => asRef0 A v2 fun o4 => bif (o4.beq 64) then (asC A l1 fun x5 l6 => bif (x5.1.beq 64) then (asC A x5.2 fun v7 l8 => asL A 1 v7 fun l9 => asC A l8 fun v10 l11 => asI A .i64 v10 fun n12 => asN A l11 (asN A l3 (asN A l6 (A.call 63 [ref 0 0, int .i64 65535] [(0, [lst .ro 1 l9, int .i64 n12])] fun l13 l14 => asC A l14 fun x15 l16 => bif (x15.1.beq 0) then (asC A x15.2 fun v17 l18 => asL A 1 v17 fun l19 => asC A l18 fun v20 l21 => asI A .i64 v20 fun n22 => asN A l21 (asC A l13 fun v23 l24 => asI A .i64 v23 fun n25 => asN A l24 (asN A l16 (A.chk true (A.chk true (A.chk true (A.call 63 [ref 0 0, int .i64 8] [(0, [lst .ro 1 l19, int .i64 n22])] fun l26 l27 => asC A l27 fun x28 l29 => bif (x28.1.beq 0) then (asC A x28.2 fun v30 l31 => asL A 1 v30 fun l32 => asC A l31 fun v33 l34 => asI A .i64 v33 fun n35 => asN A l34 (asC A l26 fun v36 l37 => asI A .i64 v36 fun n38 => asN A l37 (asN A l29 (A.loop 4 [int .i64 n38, int .i64 0] [[int .i64 0, lst .ro 2 []], [int .i64 n25, lst (.own (.O 1005 1)) 2 []], [lst .ro 1 l32, int .i64 n35]] fun j39 l40 l41 => bif (j39.beq 1) then (asN A l40 (asC A l41 fun l42 l43 => asC A l42 fun v44 l45 => asI A .i64 v44 fun n46 => asC A l45 fun v47 l48 => asL A 2 v47 fun l49 => asN A l48 (asC A l43 fun l50 l51 => asC A l50 fun v52 l53 => asI A .i64 v52 fun n54 => asC A l53 fun v55 l56 => asOwn A 2 v55 fun x57 l58 => bif (x57.beq (.O (1005 : Nat) (1 : Nat))) then (asN A l56 (asC A l51 fun l59 l60 => asC A l59 fun v61 l62 => asL A 1 v61 fun l63 => asC A l62 fun v64 l65 => asI A .i64 v64 fun n66 => asN A l65 (asN A l60 (A.call 65 [ref 0 0] [(0, [lst .ro 1 l63, int .i64 n66])] fun l67 l68 => asC A l68 fun x69 l70 => bif (x69.1.beq 0) then (asC A x69.2 fun v71 l72 => asL A 1 v71 fun l73 => asC A l72 fun v74 l75 => asI A .i64 v74 fun n76 => asN A l75 (asC A l67 fun v77 l78 => asI A .i64 v77 fun n79 => asN A l78 (asN A l70 (bif (n79 != (0 : Int)) then (A.chk true (A.chk true (A.chk true (kc [agg [int .i64 0, lst .ro 2 []], int .i64 n79] [])))) else (A.chk true (A.callx 68 [agg [int .i64 n54, lst .ro 2 l58]] fun l80 => asC A l80 fun v81 l82 => asB A v81 fun b83 => asN A l82 (bif (!b83) then (A.chk true (A.chk true (A.chk true (kc [agg [int .i64 0, lst .ro 2 []], int .i64 2] [])))) else (A.chk true (A.chk true (A.chk true (A.chk true (kc [agg [int .i64 n54, lst .ro 2 l58], int .i64 0] [])))))))))))) else A.fail)))) else A.fail))) else A.fail)))) else A.fail))))))) else A.fail)))) else A.fail) else A.fail
def s_sParseL {α : Type} (A : Alg α) (b : List UInt8) (l : List Frm) (v : Int) (n : Int) (i : Int) (e : Int) (next : List AV → List (List AV) → α) (kc : Nat → List AV → List (List AV) → α) : α :=
  bif (decide (i < n)) then (A.call 63 [ref 0 0, int .i64 200] [(0, [lst .ro 1 (encB b), int .i64 e])] fun l0 l1 => asC A l1 fun x2 l3 => bif (x2.1.beq 0) then (asC A x2.2 fun v4 l5 => asL A 1 v4 fun l6 => asC A l5 fun v7 l8 => asI A .i64 v7 fun n9 => asN A l8 (asC A l0 fun v10 l11 => asI A .i64 v10 fun n12 => asN A l11 (asN A l3 (A.chk true (A.chk true (A.chk true (A.call 63 [ref 0 0, int .i64 8] [(0, [lst .ro 1 l6, int .i64 n9])] fun l13 l14 => asC A l14 fun x15 l16 => bif (x15.1.beq 0) then (asC A x15.2 fun v17 l18 => asL A 1 v17 fun l19 => asC A l18 fun v20 l21 => asI A .i64 v20 fun n22 => asN A l21 (asC A l13 fun v23 l24 => asI A .i64 v23 fun n25 => asN A l24 (asN A l16 (A.loop 7 [int .i64 n, int .i64 i, int .i64 n25, int .i64 0] [[int .i64 0, lst .ro 2 []], [int .i64 v, lst (.own (.O 1005 1)) 2 (map frmV l)], [int .i64 n12, lst (.own (.O 1006 1)) 5 []], [lst .ro 1 l19, int .i64 n22]] fun j26 l27 l28 => bif (j26.beq 3) then (asC A l27 fun v29 l30 => asI A .i64 v29 fun n31 => asC A l30 fun v32 l33 => asI A .i64 v32 fun n34 => asN A l33 (asC A l28 fun l35 l36 => asC A l35 fun v37 l38 => asI A .i64 v37 fun n39 => asC A l38 fun v40 l41 => asL A 2 v40 fun l42 => asN A l41 (asC A l36 fun l43 l44 => asC A l43 fun v45 l46 => asI A .i64 v45 fun n47 => asC A l46 fun v48 l49 => asOwn A 2 v48 fun x50 l51 => bif (x50.beq (.O (1005 : Nat) (1 : Nat))) then (asN A l49 (asC A l44 fun l52 l53 => asC A l52 fun v54 l55 => asI A .i64 v54 fun n56 => asC A l55 fun v57 l58 => asOwn A 5 v57 fun x59 l60 => bif (x59.beq (.O (1006 : Nat) (1 : Nat))) then (asN A l58 (asC A l53 fun l61 l62 => asC A l61 fun v63 l64 => asL A 1 v63 fun l65 => asC A l64 fun v66 l67 => asI A .i64 v66 fun n68 => asN A l67 (asN A l62 (A.chk true (A.chk true (A.chk (decide ((l51.length + [agg [int .i64 n56, lst .ro (nat_lit 5) l60]].length) * 32 ≤ 211106232532992)) (A.chk true (next [int .i64 n31, int .i64 (IntKind.i64.wrap (n34 + (1 : Int)))] [[int .i64 n39, lst .ro 2 l42], [int .i64 n47, lst (.own (.O 1005 1)) 2 (l51 ++ [agg [int .i64 n56, lst .ro (nat_lit 5) l60]])], [lst .ro 1 l65, int .i64 n68]])))))))) else A.fail)) else A.fail))) else A.fail)))) else A.fail))))))) else A.fail) else (kc 1 [] [[int .i64 0, lst .ro 2 []], [int .i64 v, lst (.own (.O 1005 1)) 2 (map frmV l)], [lst .ro 1 (encB b), int .i64 e]])
def s_sParseK {α : Type} (A : Alg α) (b : List UInt8) (l : List Frm) (fs : List Fld) (v : Int) (w : Int) (n : Int) (i : Int) (m : Int) (k : Int) (e : Int) (next : List AV → List (List AV) → α) (kc : Nat → List AV → List (List AV) → α) : α :=
  bif (decide (k < m)) then (A.both (A.call 114 [ref 0 0] [(0, [lst .ro 1 (encB b), int .i64 e])] fun l0 l1 => asC A l1 fun x2 l3 => bif (x2.1.beq 0) then (asC A x2.2 fun v4 l5 => asL A 1 v4 fun l6 => asC A l5 fun v7 l8 => asI A .i64 v7 fun n9 => asN A l8 (asC A l0 fun v10 l11 => asA A v10 fun l12 => asC A l12 fun v13 l14 => asI A .i64 v13 fun n15 => asC A l14 fun v16 l17 => asI A .i64 v16 fun n18 => asC A l17 fun v19 l20 => asI A .i64 v19 fun n21 => asC A l20 fun v22 l23 => asI A .i64 v22 fun n24 => asC A l23 fun v25 l26 => asI A .i64 v25 fun n27 => asN A l26 (asN A l11 (asN A l3 (A.chk true (A.chk (decide (((map fldV fs).length + [agg [int .i64 n15, int .i64 n18, int .i64 n21, int .i64 n24, int .i64 n27]].length) * 40 ≤ 211106232532992)) (A.chk true (next [int .i64 n, int .i64 i, int .i64 m, int .i64 (IntKind.i64.wrap (k + (1 : Int)))] [[int .i64 0, lst .ro 2 []], [int .i64 v, lst (.own (.O 1005 1)) 2 (map frmV l)], [int .i64 w, lst (.own (.O 1006 1)) 5 (map fldV fs ++ [agg [int .i64 n15, int .i64 n18, int .i64 n21, int .i64 n24, int .i64 n27]])], [lst .ro 1 l6, int .i64 n9]])))))))) else A.fail) (A.call 114 [ref 0 0] [(0, [lst .ro 1 (encB b), int .i64 e])] fun l28 l29 => asC A l29 fun x30 l31 => bif (x30.1.beq 0) then (asC A x30.2 fun v32 l33 => asL A 1 v32 fun l34 => asC A l33 fun v35 l36 => asI A .i64 v35 fun n37 => asN A l36 (asC A l28 fun v38 l39 => asA A v38 fun l40 => asC A l40 fun v41 l42 => asI A .i64 v41 fun n43 => asC A l42 fun v44 l45 => asI A .i64 v44 fun n46 => asC A l45 fun v47 l48 => asI A .i64 v47 fun n49 => asC A l48 fun v50 l51 => asI A .i64 v50 fun n52 => asC A l51 fun v53 l54 => asI A .i64 v53 fun n55 => asN A l54 (asN A l39 (asN A l31 (A.both (A.chk true (A.chk (decide (((map fldV fs).length + [agg [int .i64 n43, int .i64 n46, int .i64 n49, int .i64 n52, int .i64 n55]].length) * 40 ≤ 211106232532992)) (A.chk true (next [int .i64 n, int .i64 i, int .i64 m, int .i64 (IntKind.i64.wrap (k + (1 : Int)))] [[int .i64 0, lst .ro 2 []], [int .i64 v, lst (.own (.O 1005 1)) 2 (map frmV l)], [int .i64 w, lst (.own (.O 1006 1)) 5 (map fldV fs ++ [agg [int .i64 n43, int .i64 n46, int .i64 n49, int .i64 n52, int .i64 n55]])], [lst .ro 1 l34, int .i64 n37]])))) (A.chk true (A.chk (decide (((map fldV fs).length + [agg [int .i64 n43, int .i64 n46, int .i64 n49, int .i64 n52, int .i64 n55]].length) * 40 ≤ 211106232532992)) (A.chk true (next [int .i64 n, int .i64 i, int .i64 m, int .i64 (IntKind.i64.wrap (k + (1 : Int)))] [[int .i64 0, lst .ro 2 []], [int .i64 v, lst (.own (.O 1005 1)) 2 (map frmV l)], [int .i64 w, lst (.own (.O 1006 1)) 5 (map fldV fs ++ [agg [int .i64 n43, int .i64 n46, int .i64 n49, int .i64 n52, int .i64 n55]])], [lst .ro 1 l34, int .i64 n37]]))))))))) else A.fail)) else (kc 3 [int .i64 n, int .i64 i] [[int .i64 0, lst .ro 2 []], [int .i64 v, lst (.own (.O 1005 1)) 2 (map frmV l)], [int .i64 w, lst (.own (.O 1006 1)) 5 (map fldV fs)], [lst .ro 1 (encB b), int .i64 e]])
theorem t_swrite (b : List AV) (x : Fld) (e : Int) {r : CR} (h : s_swrite (OA (tbl E0) (ltbl E0 87 0)) b x e (fun r o => some (r, o)) = some r) : tbl E0 87 [.ref 0 0, fldV x] (penA b e) = some r :=
  tbl_of (body := bodyOf Try.f87) Try.func87 (by kernel_rfl) (by kernel_rfl) (by kernel_rfl) (Eq.trans (by kernel_rfl) h)
theorem t_sread (b : List UInt8) (e : Int) {r : CR} (h : s_sread (OA (tbl E0) (ltbl E0 114 0)) b e (fun r o => some (r, o)) = some r) : tbl E0 114 [.ref 0 0] (eyeV b e) = some r :=
  tbl_of (body := bodyOf Try.f114) Try.func114 (by kernel_rfl) (by kernel_rfl) (by kernel_rfl) (Eq.trans (by kernel_rfl) h)
theorem t_sPrint (s : Sch) {r : CR} (h : s_sPrint (OA (tbl E0) (ltbl E0 36 0)) s (fun r o => some (r, o)) = some r) : tbl E0 36 [schV s] [] = some r :=
  tbl_of (body := bodyOf Try.f36) Try.func36 (by kernel_rfl) (by kernel_rfl) (by kernel_rfl) (Eq.trans (by kernel_rfl) h)
theorem t_sPrintL (l : List Frm) (b : List AV) (m i e : Int) {r : LR} (h : s_sPrintL (OA (tbl E0) (ltbl E0 36 0)) l b m i e (fun vs os => ltbl E0 36 0 7 vs os) (fun j vs os => some (j, vs, os)) = some r) : ltbl E0 36 0 7 [frmsV l, .int .i64 m, .int .i64 i] [[.lst (.own (.O 1012 0)) 1 b, .int .i64 e]] = some r :=
  ltbl_of (body := bodyOf Try.f36) Try.func36 (by kernel_rfl) (by kernel_rfl) (Eq.trans (by kernel_rfl) h)
theorem t_sPrintK (l : List Frm) (fs : List Fld) (b : List AV) (m i n k e : Int) {r : LR} (h : s_sPrintK (OA (tbl E0) (ltbl E0 36 0)) l fs b m i n k e (fun vs os => ltbl E0 36 0 12 vs os) (fun j vs os => some (j, vs, os)) = some r) : ltbl E0 36 0 12 [frmsV l, .int .i64 m, .int .i64 i, fldsV fs, .int .i64 n, .int .i64 k] [[.lst (.own (.O 1012 0)) 1 b, .int .i64 e]] = some r :=
  ltbl_of (body := bodyOf Try.f36) Try.func36 (by kernel_rfl) (by kernel_rfl) (Eq.trans (by kernel_rfl) h)
theorem t_sParse (b : List UInt8) {r : CR} (h : s_sParse (OA (tbl E0) (ltbl E0 66 0)) b (fun r o => some (r, o)) = some r) : tbl E0 66 [.lst .ro 1 (encB b)] [] = some r :=
  tbl_of (body := bodyOf Try.f66) Try.func66 (by kernel_rfl) (by kernel_rfl) (by kernel_rfl) (Eq.trans (by kernel_rfl) h)
theorem t_sParseL (b : List UInt8) (l : List Frm) (v n i e : Int) {r : LR} (h : s_sParseL (OA (tbl E0) (ltbl E0 66 0)) b l v n i e (fun vs os => ltbl E0 66 0 4 vs os) (fun j vs os => some (j, vs, os)) = some r) : ltbl E0 66 0 4 [.int .i64 n, .int .i64 i] [[.int .i64 0, frmsV []], [.int .i64 v, .lst (.own (.O 1005 1)) 2 (l.map frmV)], [.lst .ro 1 (encB b), .int .i64 e]] = some r :=
  ltbl_of (body := bodyOf Try.f66) Try.func66 (by kernel_rfl) (by kernel_rfl) (Eq.trans (by kernel_rfl) h)
theorem t_sParseK (b : List UInt8) (l : List Frm) (fs : List Fld) (v w n i m k e : Int) {r : LR} (h : s_sParseK (OA (tbl E0) (ltbl E0 66 0)) b l fs v w n i m k e (fun vs os => ltbl E0 66 0 7 vs os) (fun j vs os => some (j, vs, os)) = some r) : ltbl E0 66 0 7 [.int .i64 n, .int .i64 i, .int .i64 m, .int .i64 k] [[.int .i64 0, frmsV []], [.int .i64 v, .lst (.own (.O 1005 1)) 2 (l.map frmV)], [.int .i64 w, .lst (.own (.O 1006 1)) 5 (fs.map fldV)], [.lst .ro 1 (encB b), .int .i64 e]] = some r :=
  ltbl_of (body := bodyOf Try.f66) Try.func66 (by kernel_rfl) (by kernel_rfl) (Eq.trans (by kernel_rfl) h)
end Go.Proofs.Ytmpfeofeokmooaa.V
namespace Go.Proofs.Ytmpfeofeokmooaa.V
open Go
structure Lnk where
  fr : Int
  to : Sch
  on : List Stp
  back : List Stp
  deriving DecidableEq
abbrev lnkC (x : Lnk) : List AV := [.int .i64 x.fr, .int .i64 x.to.ver, frmsV x.to.forms, stpsV x.on, stpsV x.back]
abbrev lnkV (x : Lnk) : AV := AV.agg (lnkC x)
abbrev lnksV (l : List Lnk) : AV := AV.lst .ro 5 (l.map lnkV)
abbrev bytesV (b : List UInt8) : AV := AV.lst .ro 1 (encB b)
def rightsS (l : List Stp) : Bool := decide (l.length ≤ 40) && l.all tRightS
def lnkS (x : Lnk) : Bool := decide (1 ≤ x.fr) && (decide (x.fr ≤ 65535) && (schS x.to && (x.to.ver != x.fr && (rightsS x.on && rightsS x.back))))
def Lnk.ok (x : Lnk) : Prop := i64 x.fr ∧ x.to.ok ∧ (∀ s ∈ x.on, s.ok) ∧ ∀ s ∈ x.back, s.ok
def txtB (s : List UInt8) : List UInt8 := cnt s.length ++ s
def lnkB (x : Lnk) : List UInt8 := cnt x.fr.toNat ++ (txtB (schB x.to) ++ (txtB (lstB x.on) ++ txtB (lstB x.back)))
end Go.Proofs.Ytmpfeofeokmooaa.V
namespace Go.Proofs.Ytmpfeofeokmooaa.V
open Go
structure Man where
  ver : Int
  sch : Sch
  links : List Lnk
  img : Int
  deriving DecidableEq
abbrev manC (x : Man) : List AV := [.int .i64 x.ver, .int .i64 x.sch.ver, frmsV x.sch.forms, lnksV x.links, .int .i64 x.img]
abbrev manV (x : Man) : AV := AV.agg (manC x)
def man0 : Man := ⟨0, ⟨0, []⟩, [], 0⟩
def manS (x : Man) : Bool := x.links.all lnkS && (decide (1 ≤ x.ver) && (decide (x.ver ≤ 65535) && (schS x.sch && (decide (x.links.length ≤ 8) && (decide (0 ≤ x.img) && decide (x.img ≤ 131072))))))
def Man.ok (x : Man) : Prop := i64 x.ver ∧ x.sch.ok ∧ (∀ l ∈ x.links, l.ok) ∧ i64 x.img
def lnksB (l : List Lnk) : List UInt8 := (l.map fun x => txtB (lnkB x)).flatten
def manB (x : Man) : List UInt8 := word4 1230197842 ++ (cnt x.ver.toNat ++ (txtB (schB x.sch) ++ (cnt x.links.length ++ (lnksB x.links ++ cnt x.img.toNat))))
end Go.Proofs.Ytmpfeofeokmooaa.V
namespace Go.Proofs.Ytmpfeofeokmooaa.V
open Go
open AV (int lst agg str bool ref clo)
open List (map)
def s_lGreat {α : Type} (A : Alg α) (x : Lnk) (kc : List AV → List (Nat × List AV) → α) : α :=
  A.chk true (A.loop 2 [int .i64 0] [[int .i64 x.fr, int .i64 x.to.ver, lst .ro 2 (map frmV x.to.forms), lst .ro 16 (map stpV x.on), lst .ro 16 (map stpV x.back)]] fun j0 l1 l2 => bif (j0.beq 0) then (asC A l1 fun v3 l4 => asB A v3 fun b5 => asN A l4 (asN A l2 (kc [bool b5] []))) else (bif (j0.beq 1) then (asN A l1 (asC A l2 fun l6 l7 => asC A l6 fun v8 l9 => asI A .i64 v8 fun n10 => asC A l9 fun v11 l12 => asI A .i64 v11 fun n13 => asC A l12 fun v14 l15 => asL A 2 v14 fun l16 => asC A l15 fun v17 l18 => asL A 16 v17 fun l19 => asC A l18 fun v20 l21 => asL A 16 v20 fun l22 => asN A l21 (asN A l7 (A.join (fun x23 => A.asm (l16.length ≤ maxL) (bif (decide ((↑l16.length : Int) > (40 : Int))) then (x23 true) else (A.callx 41 [lst .ro 16 l19] fun l24 => asC A l24 fun v25 l26 => asB A v25 fun b27 => asN A l26 (bif b27 then (x23 true) else (A.callx 41 [lst .ro 16 l22] fun l28 => asC A l28 fun v29 l30 => asB A v29 fun b31 => asN A l30 (x23 b31)))))) fun b32 => kc [bool b32] [])))) else A.fail))
def s_lGreatL {α : Type} (A : Alg α) (x : Lnk) (i : Int) (next : List AV → List (List AV) → α) (kc : Nat → List AV → List (List AV) → α) : α :=
  A.join (fun x0 => A.asm ((map frmV x.to.forms).length ≤ maxL) (bif (decide (i < (↑(map frmV x.to.forms).length : Int))) then (x0 (decide (i < (41 : Int)))) else (x0 false))) fun b1 => bif b1 then (A.chk (decide ((0 : Int) ≤ i)) (nthE A (map frmV x.to.forms) i.toNat fun v2 => asA A v2 fun l3 => asC A l3 fun v4 l5 => asI A .i64 v4 fun n6 => asC A l5 fun v7 l8 => asL A 5 v7 fun l9 => asN A l8 (A.asm (l9.length ≤ maxL) (bif (decide ((↑l9.length : Int) > (40 : Int))) then (kc 0 [bool true] []) else (next [int .i64 (IntKind.i64.wrap (i + (1 : Int)))] [[int .i64 x.fr, int .i64 x.to.ver, lst .ro 2 (map frmV x.to.forms), lst .ro 16 (map stpV x.on), lst .ro 16 (map stpV x.back)]]))))) else (kc 1 [] [[int .i64 x.fr, int .i64 x.to.ver, lst .ro 2 (map frmV x.to.forms), lst .ro 16 (map stpV x.on), lst .ro 16 (map stpV x.back)]])
def s_lRight {α : Type} (A : Alg α) (x : Lnk) (kc : List AV → List (Nat × List AV) → α) : α :=
  A.chk true (A.join (fun x0 => bif (decide (x.fr < (1 : Int))) then (x0 true) else (bif (decide (x.fr > (65535 : Int))) then (x0 true) else (x0 (x.fr == x.to.ver)))) fun b1 => bif b1 then (kc [bool false] []) else (A.chk true (A.callx 25 [agg [int .i64 x.fr, int .i64 x.to.ver, lst .ro 2 (map frmV x.to.forms), lst .ro 16 (map stpV x.on), lst .ro 16 (map stpV x.back)]] fun l2 => asC A l2 fun v3 l4 => asL A 1 v3 fun l5 => asC A l4 fun v6 l7 => asI A .i64 v6 fun n8 => asN A l7 (kc [bool (n8 == (0 : Int))] []))))
def s_ylSame {α : Type} (A : Alg α) (x : Lnk) (y : Lnk) (kc : List AV → List (Nat × List AV) → α) : α :=
  A.chk true (A.chk true (A.join (fun x0 => bif (x.fr == y.fr) then (A.chk true (A.chk true (A.callx 31 [agg [int .i64 x.to.ver, lst .ro 2 (map frmV x.to.forms)], agg [int .i64 y.to.ver, lst .ro 2 (map frmV y.to.forms)]] fun l1 => asC A l1 fun v2 l3 => asB A v2 fun b4 => asN A l3 (bif b4 then (A.callx 48 [lst .ro 16 (map stpV x.on), lst .ro 16 (map stpV y.on)] fun l5 => asC A l5 fun v6 l7 => asB A v6 fun b8 => asN A l7 (bif b8 then (A.callx 48 [lst .ro 16 (map stpV x.back), lst .ro 16 (map stpV y.back)] fun l9 => asC A l9 fun v10 l11 => asB A v10 fun b12 => asN A l11 (x0 b12)) else (x0 false))) else (x0 false))))) else (x0 false)) fun b13 => kc [bool b13] []))
def s_lPrint {α : Type} (A : Alg α) (x : Lnk) (kc : List AV → List (Nat × List AV) → α) : α :=
  A.chk true (A.chk true (A.callx 36 [agg [int .i64 x.to.ver, lst .ro 2 (map frmV x.to.forms)]] fun l0 => asC A l0 fun v1 l2 => asL A 1 v1 fun l3 => asC A l2 fun v4 l5 => asI A .i64 v4 fun n6 => asN A l5 (A.callx 57 [lst .ro 16 (map stpV x.on)] fun l7 => asC A l7 fun v8 l9 => asL A 1 v8 fun l10 => asC A l9 fun v11 l12 => asI A .i64 v11 fun n13 => asN A l12 (A.callx 57 [lst .ro 16 (map stpV x.back)] fun l14 => asC A l14 fun v15 l16 => asL A 1 v15 fun l17 => asC A l16 fun v18 l19 => asI A .i64 v18 fun n20 => asN A l19 (A.join (fun x21 => bif (n6 != (0 : Int)) then (x21 true) else (bif (n13 != (0 : Int)) then (x21 true) else (bif (n20 != (0 : Int)) then (x21 true) else (bif (decide (x.fr < (1 : Int))) then (x21 true) else (bif (decide (x.fr > (65535 : Int))) then (x21 true) else (x21 (x.fr == x.to.ver))))))) fun b22 => bif b22 then (kc [lst .ro 1 [], int .i64 2] []) else (A.call 58 [] [] fun l23 l24 => asC A l23 fun v25 l26 => asRef0 A v25 fun o27 => bif (o27.beq 64) then (asC A l24 fun x28 l29 => bif (x28.1.beq 64) then (asC A x28.2 fun v30 l31 => asOwn A 1 v30 fun x32 l33 => asC A l31 fun v34 l35 => asI A .i64 v34 fun n36 => asN A l35 (asN A l26 (asN A l29 (A.call 59 [ref 0 0, int .i64 x.fr] [(0, [lst (.own (.E 0 0)) 1 l33, int .i64 n36])] fun l37 l38 => asC A l38 fun x39 l40 => bif (x39.1.beq 0) then (asC A x39.2 fun v41 l42 => asOwn A 1 v41 fun x43 l44 => asC A l42 fun v45 l46 => asI A .i64 v45 fun n47 => asN A l46 (asN A l37 (asN A l40 (A.asm ([lst .ro (nat_lit 1) l3, lst .ro (nat_lit 1) l10, lst .ro (nat_lit 1) l17].length ≤ maxL) (A.loop 10 [lst .ro 1 [lst .ro 1 l3, lst .ro 1 l10, lst .ro 1 l17], int .i64 (↑[lst .ro (nat_lit 1) l3, lst .ro (nat_lit 1) l10, lst .ro (nat_lit 1) l17].length : Int), int .i64 0] [[lst (.own (.O 1061 0)) 1 l44, int .i64 n47]] fun j48 l49 l50 => bif (j48.beq 1) then (asN A l49 (asC A l50 fun l51 l52 => asC A l51 fun v53 l54 => asOwn A 1 v53 fun x55 l56 => bif (x55.beq (.O (1061 : Nat) (0 : Nat))) then (asC A l54 fun v57 l58 => asI A .i64 v57 fun n59 => asN A l58 (asN A l52 (A.call 61 [ref 0 0] [(0, [lst (.own (.E 0 0)) 1 l56, int .i64 n59])] fun l60 l61 => asC A l61 fun x62 l63 => bif (x62.1.beq 0) then (asC A x62.2 fun v64 l65 => asOwn A 1 v64 fun x66 l67 => asC A l65 fun v68 l69 => asI A .i64 v68 fun n70 => asN A l69 (asC A l60 fun v71 l72 => asL A 1 v71 fun l73 => asC A l72 fun v74 l75 => asI A .i64 v74 fun n76 => asN A l75 (asN A l63 (kc [lst .ro 1 l73, int .i64 n76] [])))) else A.fail))) else A.fail)) else A.fail))))) else A.fail)))) else A.fail) else A.fail))))))
def s_lPrintL {α : Type} (A : Alg α) (l : List (List UInt8)) (b : List AV) (m : Int) (i : Int) (e : Int) (next : List AV → List (List AV) → α) (kc : Nat → List AV → List (List AV) → α) : α :=
  bif (decide (i < m)) then (A.chk (decide ((0 : Int) ≤ i)) (nthE A (map bytesV l) i.toNat fun v0 => asL A 1 v0 fun l1 => orFail A (bytesOf l1) fun l2 => A.call 60 [ref 0 0, str l2] [(0, [lst (.own (.E 0 0)) 1 b, int .i64 e])] fun l3 l4 => asC A l4 fun x5 l6 => bif (x5.1.beq 0) then (asC A x5.2 fun v7 l8 => asOwn A 1 v7 fun x9 l10 => asC A l8 fun v11 l12 => asI A .i64 v11 fun n13 => asN A l12 (asN A l3 (asN A l6 (next [lst .ro 1 (map bytesV l), int .i64 m, int .i64 (IntKind.i64.wrap (i + (1 : Int)))] [[lst (.own (.O 1061 0)) 1 l10, int .i64 n13]])))) else A.fail)) else (kc 1 [] [[lst (.own (.O 1061 0)) 1 b, int .i64 e]])
theorem t_lGreat (x : Lnk) {r : CR} (h : s_lGreat (OA (tbl E0) (ltbl E0 13 0)) x (fun r o => some (r, o)) = some r) : tbl E0 13 [lnkV x] [] = some r :=
  tbl_of (body := bodyOf Try.f13) Try.func13 (by kernel_rfl) (by kernel_rfl) (by kernel_rfl) (Eq.trans (by kernel_rfl) h)
theorem t_lGreatL (x : Lnk) (i : Int) {r : LR} (h : s_lGreatL (OA (tbl E0) (ltbl E0 13 0)) x i (fun vs os => ltbl E0 13 0 2 vs os) (fun j vs os => some (j, vs, os)) = some r) : ltbl E0 13 0 2 [.int .i64 i] [lnkC x] = some r :=
  ltbl_of (body := bodyOf Try.f13) Try.func13 (by kernel_rfl) (by kernel_rfl) (Eq.trans (by kernel_rfl) h)
theorem t_lRight (x : Lnk) {r : CR} (h : s_lRight (OA (tbl E0) (ltbl E0 15 0)) x (fun r o => some (r, o)) = some r) : tbl E0 15 [lnkV x] [] = some r :=
  tbl_of (body := bodyOf Try.f15) Try.func15 (by kernel_rfl) (by kernel_rfl) (by kernel_rfl) (Eq.trans (by kernel_rfl) h)
theorem t_ylSame (x y : Lnk) {r : CR} (h : s_ylSame (OA (tbl E0) (ltbl E0 18 0)) x y (fun r o => some (r, o)) = some r) : tbl E0 18 [lnkV x, lnkV y] [] = some r :=
  tbl_of (body := bodyOf Try.f18) Try.func18 (by kernel_rfl) (by kernel_rfl) (by kernel_rfl) (Eq.trans (by kernel_rfl) h)
theorem t_lPrint (x : Lnk) {r : CR} (h : s_lPrint (OA (tbl E0) (ltbl E0 25 0)) x (fun r o => some (r, o)) = some r) : tbl E0 25 [lnkV x] [] = some r :=
  tbl_of (body := bodyOf Try.f25) Try.func25 (by kernel_rfl) (by kernel_rfl) (by kernel_rfl) (Eq.trans (by kernel_rfl) h)
theorem t_lPrintL (l : List (List UInt8)) (b : List AV) (m i e : Int) {r : LR} (h : s_lPrintL (OA (tbl E0) (ltbl E0 25 0)) l b m i e (fun vs os => ltbl E0 25 0 10 vs os) (fun j vs os => some (j, vs, os)) = some r) : ltbl E0 25 0 10 [.lst .ro 1 (l.map bytesV), .int .i64 m, .int .i64 i] [[.lst (.own (.O 1061 0)) 1 b, .int .i64 e]] = some r :=
  ltbl_of (body := bodyOf Try.f25) Try.func25 (by kernel_rfl) (by kernel_rfl) (Eq.trans (by kernel_rfl) h)
end Go.Proofs.Ytmpfeofeokmooaa.V
namespace Go.Proofs.Ytmpfeofeokmooaa.V
open Go
theorem c_sread (b : List UInt8) (e : Int) (hb : b.length ≤ 211106232532992) : tbl E0 114 [.ref 0 0] (eyeV b e) = some ([fldV (tkFld (b, e)).1], eyeV (tkFld (b, e)).2.1 (tkFld (b, e)).2.2) :=
  t_sread b e (by
    have h1 := countS_len b e 255
    have h2 := countS_len (countS b e 255).2.1 (countS b e 255).2.2 4
    have c1 := c_ECount b e 255 hb
    have c2 := c_ECount (countS b e 255).2.1 (countS b e 255).2.2 4 (by omega)
    have c3 := c_ECount (countS (countS b e 255).2.1 (countS b e 255).2.2 4).2.1 (countS (countS b e 255).2.1 (countS b e 255).2.2 4).2.2 1000 (by omega)
    have c4 := c_ENum (countS (countS b e 255).2.1 (countS b e 255).2.2 4).2.1 (countS (countS b e 255).2.1 (countS b e 255).2.2 4).2.2 (by omega)
    have c5 := c_ENum (numS (countS (countS b e 255).2.1 (countS b e 255).2.2 4).2.1 (countS (countS b e 255).2.1 (countS b e 255).2.2 4).2.2).2.1 (numS (countS (countS b e 255).2.1 (countS b e 255).2.2 4).2.1 (countS (countS b e 255).2.1 (countS b e 255).2.2 4).2.2).2.2 (Nat.le_trans (grpS_len _ _) (by omega))
    simp only [eyeV] at c1 c2 c3 c4 c5
    unfold tkFld
    by_cases k1 : (countS (countS b e 255).2.1 (countS b e 255).2.2 4).1 = 1
    · simp [s_sread, c1, c2, c3, c4, c5, k1]
    · by_cases k3 : (countS (countS b e 255).2.1 (countS b e 255).2.2 4).1 = 3
      · simp [s_sread, c1, c2, c3, c4, c5, k3]
      · by_cases k4 : (countS (countS b e 255).2.1 (countS b e 255).2.2 4).1 = 4
        · simp [s_sread, c1, c2, c3, c4, c5, k4]
        · simp [s_sread, c1, c2, c3, c4, c5, k1, k3, k4])
theorem fldB_len {x : Fld} (hx : x.ok) (hr : rgtS x = true) : (fldB x).length ≤ 40 := by
  have r := rgt_rng hr
  obtain ⟨_, ⟨_, _⟩, ⟨_, _⟩, ⟨_, _⟩, ⟨_, _⟩⟩ := hx
  have h1 : (cnt x.id.toNat).length ≤ 10 := cnt_len10 (by omega)
  have h2 : (cnt x.kind.toNat).length ≤ 10 := cnt_len10 (by omega)
  have h3 : (cnt (zz x.lo)).length ≤ 10 := cnt_len10 (zz_lt (by omega) (by omega))
  have h4 : (cnt (zz x.hi)).length ≤ 10 := cnt_len10 (zz_lt (by omega) (by omega))
  have h5 : (cnt x.most.toNat).length ≤ 10 := cnt_len10 (by omega)
  unfold fldB
  simp only [List.length_append]
  split
  · simp only [List.length_append]; omega
  · split
    · omega
    · simp; omega
theorem c_swrite (b : List AV) (x : Fld) (e : Int) (hx : x.ok) (hr : rgtS x = true) (hb : b.length + 40 ≤ 211106232532992) : tbl E0 87 [.ref 0 0, fldV x] (penA b e) = some ([], penA (b ++ encB (fldB x)) e) :=
  t_swrite b x e (by
    have r := rgt_rng hr
    obtain ⟨_, ⟨_, _⟩, ⟨_, _⟩, ⟨_, _⟩, ⟨_, _⟩⟩ := hx
    have h1 : (cnt x.id.toNat).length ≤ 10 := cnt_len10 (by omega)
    have h2 : (cnt x.kind.toNat).length ≤ 10 := cnt_len10 (by omega)
    have h3 : (cnt (zz x.lo)).length ≤ 10 := cnt_len10 (zz_lt (by omega) (by omega))
    have c1 := c_PCount b x.id e (by omega) (by omega)
    have c2 := c_PCount (b ++ encB (cnt x.id.toNat)) x.kind e (by simp; omega) (by omega)
    have c3 := c_PCount (b ++ encB (cnt x.id.toNat) ++ encB (cnt x.kind.toNat)) x.most e (by simp; omega) (by omega)
    have c4 := c_PNum (b ++ encB (cnt x.id.toNat) ++ encB (cnt x.kind.toNat)) x.lo e (by simp; omega) (by omega) (by omega)
    have c5 := c_PNum (b ++ encB (cnt x.id.toNat) ++ encB (cnt x.kind.toNat) ++ encB (cnt (zz x.lo))) x.hi e (by simp; omega) (by omega) (by omega)
    have n1 : ¬ (x.id < 0) := by omega
    have n2 : ¬ (x.kind < 0) := by omega
    have n3 : ¬ (x.most < 0) := by omega
    simp only [n1, n2, n3, if_false, penA] at c1 c2 c3 c4 c5
    unfold fldB
    by_cases k1 : x.kind = 1
    · simp only [k1] at c2 c3 c4 c5
      simp_all [s_swrite, penA, encB_append]
    · by_cases k3 : x.kind = 3
      · simp only [k3] at c2 c3 c4 c5
        simp_all [s_swrite, penA, encB_append]
      · by_cases k4 : x.kind = 4
        · simp only [k4] at c2 c3 c4 c5
          simp_all [s_swrite, penA, encB_append]
        · have k2 : x.kind = 2 := by omega
          simp only [k2] at c2 c3 c4 c5
          simp_all [s_swrite, penA, encB_append])
end Go.Proofs.Ytmpfeofeokmooaa.V
namespace Go.Proofs.Ytmpfeofeokmooaa.V
open Go
theorem fldsB_cons (f : Fld) (l : List Fld) : fldsB (f :: l) = fldB f ++ fldsB l := by simp [fldsB]
theorem frmsB_cons (f : Frm) (l : List Frm) : frmsB (f :: l) = frmB f ++ frmsB l := by simp [frmsB]
theorem fldsB_len : ∀ (l : List Fld), FldsOK l → (fldsB l).length ≤ 40 * l.length
  | [], _ => by simp [fldsB]
  | f :: l, h => by
    have h1 := fldB_len (h f (by simp)).1 (h f (by simp)).2
    have h2 := fldsB_len l (fun g hg => h g (by simp [hg]))
    rw [fldsB_cons, List.length_append, List.length_cons]
    omega
theorem c_sPrintK (l : List Frm) (fs : List Fld) (m i : Int) (hl : fs.length ≤ 8) (hok : FldsOK fs) : ∀ (r : List Fld) (k : Nat) (b : List AV) (e : Int), fs.drop k = r → b.length + 40 * r.length + 40 ≤ 211106232532992 →
    ltbl E0 36 0 12 [frmsV l, .int .i64 m, .int .i64 i, fldsV fs, .int .i64 fs.length, .int .i64 k] [[.lst (.own (.O 1012 0)) 1 b, .int .i64 e]] = some (3, [frmsV l, .int .i64 m, .int .i64 i], [[.lst (.own (.O 1012 0)) 1 (b ++ encB (fldsB r)), .int .i64 e]]) := by
  intro r
  induction r with
  | nil =>
    intro k b e hr hb
    have h : fs.length ≤ k := by simpa using hr
    refine t_sPrintK _ _ _ _ _ _ _ _ ?_
    have : ¬ ((k : Int) < fs.length) := by omega
    simp [s_sPrintK, this, fldsB, encB_nil]
  | cons x r ih =>
    intro k b e hr hb
    obtain ⟨hlt, hget, hr2⟩ := drop_c hr
    have h2 : (k : Int) < fs.length := by omega
    have e1 := i64_succ (i := k) (by omega)
    obtain ⟨x1, x2⟩ := hok x (mem_drop hr)
    have hx := fldB_len x1 x2
    simp only [List.length_cons] at hb
    have h := ih (k + 1) (b ++ encB (fldB x)) e hr2 (by simp; omega)
    have c := c_swrite b x e x1 x2 (by omega)
    simp only [penA] at c
    refine t_sPrintK _ _ _ _ _ _ _ _ ?_
    rw [fldsB_cons, encB_append, ← List.append_assoc, ← h]
    simp only [s_sPrintK, OA_asm, List.length_map, h2, decide_true, cond_true, OA_chk, Int.natCast_nonneg, nthE, Int.toNat_natCast, List.getElem?_map, hget, Option.map_some, u_asA, u_asC, u_asI, u_asB, u_asL, u_asOwn, u_asN, OA_call, c, Option.bind_some, nbeq, e1]
def FrmOK (f : Frm) : Prop := f.ok ∧ 0 ≤ f.id ∧ f.fields.length ≤ 8 ∧ FldsOK f.fields
theorem frmB_len {f : Frm} (h : FrmOK f) : (frmB f).length ≤ 340 := by
  obtain ⟨⟨⟨_, _⟩, _⟩, h2, h3, h4⟩ := h
  have h5 := fldsB_len f.fields h4
  have h6 : (cnt f.id.toNat).length ≤ 10 := cnt_len10 (by omega)
  have h7 : (cnt f.fields.length).length ≤ 10 := cnt_len10 (by omega)
  unfold frmB
  simp only [List.length_append]
  omega
theorem c_sPrintL (l : List Frm) (hl : l.length ≤ 8) (hok : ∀ f ∈ l, FrmOK f) : ∀ (r : List Frm) (i : Nat) (b : List AV) (e : Int), l.drop i = r → b.length + 400 * r.length + 400 ≤ 211106232532992 →
    ltbl E0 36 0 7 [frmsV l, .int .i64 l.length, .int .i64 i] [[.lst (.own (.O 1012 0)) 1 b, .int .i64 e]] = some (1, [], [[.lst (.own (.O 1012 0)) 1 (b ++ encB (frmsB r)), .int .i64 e]]) := by
  intro r
  induction r with
  | nil =>
    intro i b e hr hb
    have h : l.length ≤ i := by simpa using hr
    refine t_sPrintL _ _ _ _ _ ?_
    have : ¬ ((i : Int) < l.length) := by omega
    simp [s_sPrintL, this, frmsB, encB_nil]
  | cons x r ih =>
    intro i b e hr hb
    obtain ⟨hlt, hget, hr2⟩ := drop_c hr
    have h2 : (i : Int) < l.length := by omega
    have e1 := i64_succ (i := i) (by omega)
    have hx := hok x (mem_drop hr)
    have hxl := frmB_len hx
    obtain ⟨⟨⟨_, _⟩, _⟩, x2, x3, x4⟩ := hx
    have h6 : (cnt x.id.toNat).length ≤ 10 := cnt_len10 (by omega)
    have h7 : (cnt x.fields.length).length ≤ 10 := cnt_len10 (by omega)
    simp only [List.length_cons] at hb
    have h := ih (i + 1) (b ++ encB (frmB x)) e hr2 (by simp; omega)
    have c1 := c_PCount b x.id e (by omega) (by omega)
    have c2 := c_PCount (b ++ encB (cnt x.id.toNat)) x.fields.length e (by simp; omega) (by omega)
    rw [if_neg (by omega)] at c1 c2
    simp only [penA, Int.toNat_natCast] at c1 c2
    have k := c_sPrintK l x.fields (l.length : Int) (i : Int) x3 x4 x.fields 0 (b ++ encB (cnt x.id.toNat) ++ encB (cnt x.fields.length)) e rfl (by simp; omega)
    simp only [Int.natCast_zero] at k
    refine t_sPrintL _ _ _ _ _ ?_
    have eb : b ++ encB (frmsB (x :: r)) = b ++ encB (frmB x) ++ encB (frmsB r) := by rw [frmsB_cons, encB_append, List.append_assoc]
    have ek : b ++ encB (cnt x.id.toNat) ++ encB (cnt x.fields.length) ++ encB (fldsB x.fields) = b ++ encB (frmB x) := by unfold frmB; simp only [encB_append, List.append_assoc]
    rw [eb, ← h, ← ek]
    simp only [s_sPrintL, OA_asm, List.length_map, h2, decide_true, cond_true, OA_chk, Int.natCast_nonneg, nthE, Int.toNat_natCast, List.getElem?_map, hget, Option.map_some, u_asA, u_asC, u_asI, u_asB, u_asL, u_asOwn, u_asN, OA_call, OA_loop, c1, c2, k, Option.bind_some, nbeq, e1, Nm_beq_self]
theorem frmOK_of {s : Sch} (hs : s.ok) (hr : schS s = true) : s.forms.length ≤ 8 ∧ ∀ f ∈ s.forms, FrmOK f := by
  obtain ⟨h1, h2, h3⟩ := (schS_iff s).1 hr
  refine ⟨h2, fun f hf => ?_⟩
  obtain ⟨a1, a2, _, a4, _⟩ := (fineS_iff f).1 (risingS_all _ _ h3 f hf)
  exact ⟨hs.2 f hf, a1.1, a2.2, fun x hx => ⟨(hs.2 f hf).2 x hx, a4 x hx⟩⟩
theorem frmsB_len : ∀ (l : List Frm), (∀ f ∈ l, FrmOK f) → (frmsB l).length ≤ 340 * l.length
  | [], _ => by simp [frmsB]
  | f :: l, h => by
    have h1 := frmB_len (h f (by simp))
    have h2 := frmsB_len l (fun g hg => h g (by simp [hg]))
    rw [frmsB_cons, List.length_append, List.length_cons]
    omega
theorem schB_len {s : Sch} (hs : s.ok) (hr : schS s = true) : (schB s).length ≤ 4000 := by
  obtain ⟨h1, h2⟩ := frmOK_of hs hr
  obtain ⟨h3, _, _⟩ := (schS_iff s).1 hr
  have h4 := frmsB_len s.forms h2
  have h6 : (cnt s.ver.toNat).length ≤ 10 := cnt_len10 (by omega)
  have h7 : (cnt s.forms.length).length ≤ 10 := cnt_len10 (by omega)
  unfold schB
  simp only [List.length_append]
  omega
theorem c_sPrint (s : Sch) (hs : s.ok) (hm : Sml s) : tbl E0 36 [schV s] [] = some ([.lst .ro 1 (if schS s then encB (schB s) else []), .int .i64 (if schS s then 0 else 2)], []) :=
  t_sPrint s (by
    have c0 := c_sRight s hm
    rcases bor (schS s) with hb | hb
    · obtain ⟨h1, h2⟩ := frmOK_of hs hb
      obtain ⟨h3, _, _⟩ := (schS_iff s).1 hb
      have h6 : (cnt s.ver.toNat).length ≤ 10 := cnt_len10 (by omega)
      have h7 : (cnt s.forms.length).length ≤ 10 := cnt_len10 (by omega)
      have hl := schB_len hs hb
      have c1 := c_PCount [] s.ver 0 (by simp) (by omega)
      have c2 := c_PCount (encB (cnt s.ver.toNat)) s.forms.length 0 (by simp; omega) (by omega)
      rw [if_neg (by omega)] at c1 c2
      simp only [penA, Int.toNat_natCast, List.nil_append] at c1 c2
      have k := c_sPrintL s.forms h1 h2 s.forms 0 (encB (cnt s.ver.toNat) ++ encB (cnt s.forms.length)) 0 rfl (by simp; omega)
      simp only [Int.natCast_zero] at k
      have ek : encB (cnt s.ver.toNat) ++ encB (cnt s.forms.length) ++ encB (frmsB s.forms) = encB (schB s) := by unfold schB; simp only [encB_append]
      rw [ek] at k
      have d := c_PDone (schB s) 0 (by omega)
      simp only [penV, penA, if_true] at d
      simp only [s_sPrint, hb, OA_asm, List.length_map, decide_true, cond_true, cond_false, Bool.not_true, OA_chk, u_asA, u_asC, u_asI, u_asB, u_asL, u_asOwn, u_asN, u_asRef0, OA_call, OA_callx, OA_loop, c0, c_New, c1, c2, k, d, Option.bind_some, nbeq, Nm_beq_self, if_true]
    · simp only [s_sPrint, hb, OA_asm, cond_true, Bool.not_false, OA_chk, u_asC, u_asB, u_asN, OA_callx, c0, Option.bind_some, if_false, Bool.false_eq_true])
end Go.Proofs.Ytmpfeofeokmooaa.V
namespace Go.Proofs.Ytmpfeofeokmooaa.V
open Go
theorem c_sParseK (l : List Frm) (v w n i : Int) : ∀ (j k : Nat) (fs : List Fld) (b : List UInt8) (e : Int), b.length ≤ 211106232532992 → fs.length + j ≤ 1000 → k + j ≤ 1000 →
    ltbl E0 66 0 7 [.int .i64 n, .int .i64 i, .int .i64 ((k + j : Nat) : Int), .int .i64 k] [[.int .i64 0, .lst .ro 2 []], [.int .i64 v, .lst (.own (.O 1005 1)) 2 (l.map frmV)], [.int .i64 w, .lst (.own (.O 1006 1)) 5 (fs.map fldV)], [.lst .ro 1 (encB b), .int .i64 e]] =
      some (3, [.int .i64 n, .int .i64 i], [[.int .i64 0, .lst .ro 2 []], [.int .i64 v, .lst (.own (.O 1005 1)) 2 (l.map frmV)], [.int .i64 w, .lst (.own (.O 1006 1)) 5 ((fs ++ (tkFlds j (b, e)).1).map fldV)], [.lst .ro 1 (encB (tkFlds j (b, e)).2.1), .int .i64 (tkFlds j (b, e)).2.2]]) := by
  intro j
  induction j with
  | zero =>
    intro k fs b e hb hf hk
    refine t_sParseK _ _ _ _ _ _ _ _ _ _ ?_
    have : ¬ ((k : Int) < ((k + 0 : Nat) : Int)) := by omega
    simp only [s_sParseK, this, decide_false, cond_false, tkFlds, List.append_nil]
  | succ j ih =>
    intro k fs b e hb hf hk
    have h2 : (k : Int) < ((k + (j + 1) : Nat) : Int) := by omega
    have e1 := i64_succ (i := k) (by omega)
    have hl := tkFld_len (b, e)
    have h := ih (k + 1) (fs ++ [(tkFld (b, e)).1]) (tkFld (b, e)).2.1 (tkFld (b, e)).2.2 (Nat.le_trans hl hb) (by simp; omega) (by omega)
    have c := c_sread b e hb
    simp only [eyeV] at c
    rw [show k + 1 + j = k + (j + 1) by omega] at h
    simp only [List.map_append, List.map_cons, List.map_nil, List.append_assoc, List.singleton_append] at h
    refine t_sParseK _ _ _ _ _ _ _ _ _ _ ?_
    have q : (fs.length + 1) * 40 ≤ 211106232532992 := by omega
    simp only [tkFlds, List.map_append, List.map_cons]
    rw [← h]
    simp only [s_sParseK, h2, decide_true, cond_true, OA_both_id, OA_chk, u_asA, u_asC, u_asI, u_asB, u_asL, u_asOwn, u_asN, OA_call, c, Option.bind_some, List.length_map, List.length_cons, List.length_nil, Nat.zero_add, q, nbeq, e1]
theorem c_sParseL (v : Int) : ∀ (j i : Nat) (l : List Frm) (b : List UInt8) (e : Int), b.length ≤ 211106232532992 → l.length + j ≤ 1000 → i + j ≤ 1000 →
    ltbl E0 66 0 4 [.int .i64 ((i + j : Nat) : Int), .int .i64 i] [[.int .i64 0, .lst .ro 2 []], [.int .i64 v, .lst (.own (.O 1005 1)) 2 (l.map frmV)], [.lst .ro 1 (encB b), .int .i64 e]] =
      some (1, [], [[.int .i64 0, .lst .ro 2 []], [.int .i64 v, .lst (.own (.O 1005 1)) 2 ((l ++ (tkFrms j (b, e)).1).map frmV)], [.lst .ro 1 (encB (tkFrms j (b, e)).2.1), .int .i64 (tkFrms j (b, e)).2.2]]) := by
  intro j
  induction j with
  | zero =>
    intro i l b e hb hf hk
    refine t_sParseL _ _ _ _ _ _ ?_
    have : ¬ ((i : Int) < ((i + 0 : Nat) : Int)) := by omega
    simp only [s_sParseL, this, decide_false, cond_false, tkFrms, List.append_nil, List.map_nil]
  | succ j ih =>
    intro i l b e hb hf hk
    have h2 : (i : Int) < ((i + (j + 1) : Nat) : Int) := by omega
    have e1 := i64_succ (i := i) (by omega)
    have hl := tkFrm_len (b, e)
    have h := ih (i + 1) (l ++ [(tkFrm (b, e)).1]) (tkFrm (b, e)).2.1 (tkFrm (b, e)).2.2 (Nat.le_trans hl hb) (by simp; omega) (by omega)
    have l1 := countS_len b e 200
    have l2 := countS_nonneg (countS b e 200).2.1 (countS b e 200).2.2 8
    have l3 := countS_le (countS b e 200).2.1 (countS b e 200).2.2 8
    have l4 := countS_len (countS b e 200).2.1 (countS b e 200).2.2 8
    have c1 := c_ECount b e 200 hb
    have c2 := c_ECount (countS b e 200).2.1 (countS b e 200).2.2 8 (by omega)
    have k := c_sParseK l v (countS b e 200).1 ((i + (j + 1) : Nat) : Int) (i : Int) (countS (countS b e 200).2.1 (countS b e 200).2.2 8).1.toNat 0 [] (countS (countS b e 200).2.1 (countS b e 200).2.2 8).2.1 (countS (countS b e 200).2.1 (countS b e 200).2.2 8).2.2 (by omega) (by simp; omega) (by omega)
    rw [Nat.zero_add, Int.toNat_of_nonneg l2] at k
    simp only [Int.natCast_zero, List.map_nil, List.nil_append] at k
    simp only [eyeV] at c1 c2
    rw [show i + 1 + j = i + (j + 1) by omega] at h
    simp only [List.map_append, List.map_cons, List.map_nil, List.append_assoc, List.singleton_append] at h
    refine t_sParseL _ _ _ _ _ _ ?_
    have q : (l.length + 1) * 32 ≤ 211106232532992 := by omega
    simp only [tkFrms, List.map_append, List.map_cons, List.map_nil]
    rw [← h]
    simp only [s_sParseL, h2, decide_true, cond_true, OA_chk, u_asA, u_asC, u_asI, u_asB, u_asL, u_asOwn, u_asN, OA_call, OA_loop, c1, c2, k, Option.bind_some, List.length_map, List.length_cons, List.length_nil, Nat.zero_add, q, nbeq, Nm_beq_self, e1, tkFrm]
theorem tkFrm_small (q : St) : (tkFrm q).1.fields.length ≤ 8 := by
  have l3 := countS_le (countS q.1 q.2 200).2.1 (countS q.1 q.2 200).2.2 8
  simp only [tkFrm, tkFlds_n]
  omega
theorem tkFrms_small : ∀ (n : Nat) (q : St), ∀ f ∈ (tkFrms n q).1, f.fields.length ≤ 8
  | 0, q, f, h => by cases h
  | n + 1, q, f, h => by
    simp only [tkFrms, List.mem_cons] at h
    rcases h with rfl | h
    · exact tkFrm_small q
    · exact tkFrms_small n _ f h
theorem tkSch_small (b : List UInt8) : (tkSch b).1.forms.length ≤ 8 ∧ ∀ f ∈ (tkSch b).1.forms, f.fields.length ≤ 8 := by
  have l3 := countS_le (countS b 0 65535).2.1 (countS b 0 65535).2.2 8
  refine ⟨?_, fun f hf => tkFrms_small _ _ f hf⟩
  simp only [tkSch, tkFrms_n]
  omega
theorem tkSch_sml (b : List UInt8) : Sml (tkSch b).1 := ⟨by have := (tkSch_small b).1; omega, fun f hf => by have := (tkSch_small b).2 f hf; omega⟩
theorem c_sParse (b : List UInt8) (hb : b.length ≤ 211106232532992) : tbl E0 66 [.lst .ro 1 (encB b)] [] = some ([schV (parS b).1, .int .i64 (parS b).2], []) :=
  t_sParse b (by
    have l1 := countS_len b 0 65535
    have l2 := countS_nonneg (countS b 0 65535).2.1 (countS b 0 65535).2.2 8
    have l3 := countS_le (countS b 0 65535).2.1 (countS b 0 65535).2.2 8
    have l4 := countS_len (countS b 0 65535).2.1 (countS b 0 65535).2.2 8
    have c0 := c_Of b hb
    have c1 := c_ECount b 0 65535 hb
    have c2 := c_ECount (countS b 0 65535).2.1 (countS b 0 65535).2.2 8 (by omega)
    simp only [eyeV] at c1 c2
    have k := c_sParseL (countS b 0 65535).1 (countS (countS b 0 65535).2.1 (countS b 0 65535).2.2 8).1.toNat 0 [] (countS (countS b 0 65535).2.1 (countS b 0 65535).2.2 8).2.1 (countS (countS b 0 65535).2.1 (countS b 0 65535).2.2 8).2.2 (by omega) (by simp; omega) (by omega)
    rw [Nat.zero_add, Int.toNat_of_nonneg l2] at k
    simp only [Int.natCast_zero, List.map_nil, List.nil_append] at k
    have d := c_End (tkSch b).2.1 (tkSch b).2.2
    simp only [eyeV] at d
    have r := c_sRight (tkSch b).1 (tkSch_sml b)
    obtain ⟨en, hen⟩ : ∃ en, endS (tkSch b).2.1 (tkSch b).2.2 = en := ⟨_, rfl⟩
    obtain ⟨q, hq⟩ : ∃ q, schS (tkSch b).1 = q := ⟨_, rfl⟩
    unfold parS
    simp only [hen, hq] at d r ⊢
    simp only [tkSch] at d r ⊢
    simp only [s_sParse, OA_chk, cond_true, u_asA, u_asC, u_asI, u_asB, u_asL, u_asOwn, u_asN, u_asRef0, OA_call, OA_callx, OA_loop, c0, c1, c2, k, d, Option.bind_some, nbeq, decide_true, Nm_beq_self]
    by_cases he : en = 0
    · subst he
      rcases bor q with h | h
      · subst h
        simp [r]
      · subst h
        simp [r]
    · simp [he])
end Go.Proofs.Ytmpfeofeokmooaa.V
namespace Go.Proofs.Ytmpfeofeokmooaa.V
open Go
end Go.Proofs.Ytmpfeofeokmooaa.V
namespace Go.Proofs.Ytmpfeofeokmooaa.V
open Go
theorem parS_sml (b : List UInt8) : Sml (parS b).1 := by
  unfold parS
  split
  · exact ⟨by simp, fun f hf => by simp at hf⟩
  · split
    · exact tkSch_sml b
    · exact ⟨by simp, fun f hf => by simp at hf⟩
theorem tkFld_ok (q : St) : (tkFld q).1.ok := by
  have a1 := countS_nonneg q.1 q.2 255
  have a2 := countS_le q.1 q.2 255
  have b1 := countS_nonneg (countS q.1 q.2 255).2.1 (countS q.1 q.2 255).2.2 4
  have b2 := countS_le (countS q.1 q.2 255).2.1 (countS q.1 q.2 255).2.2 4
  have z : i64 0 := by unfold i64; omega
  have u : ∀ b e, i64 (numS b e).1 := fun b e => unz_range (grpS_bound b e)
  have c : ∀ b e m, m ≤ 70000 → i64 (countS b e m).1 := fun b e m hm => by
    have h1 := countS_nonneg b e m
    have h2 := countS_le b e m
    unfold i64; omega
  unfold tkFld
  split
  · exact ⟨c _ _ _ (by omega), c _ _ _ (by omega), u _ _, u _ _, z⟩
  · split
    · exact ⟨c _ _ _ (by omega), c _ _ _ (by omega), z, z, c _ _ _ (by omega)⟩
    · exact ⟨c _ _ _ (by omega), c _ _ _ (by omega), z, z, z⟩
theorem tkFlds_ok : ∀ (n : Nat) (q : St), ∀ f ∈ (tkFlds n q).1, f.ok
  | 0, q, f, h => by cases h
  | n + 1, q, f, h => by
    simp only [tkFlds, List.mem_cons] at h
    rcases h with rfl | h
    · exact tkFld_ok q
    · exact tkFlds_ok n _ f h
theorem i64_countS (b : List UInt8) (e m : Int) (hm : m ≤ 70000) : i64 (countS b e m).1 := by
  have h1 := countS_nonneg b e m
  have h2 := countS_le b e m
  unfold i64; omega
theorem tkFrms_ok : ∀ (n : Nat) (q : St), ∀ f ∈ (tkFrms n q).1, f.ok
  | 0, q, f, h => by cases h
  | n + 1, q, f, h => by
    simp only [tkFrms, List.mem_cons] at h
    rcases h with rfl | h
    · exact ⟨i64_countS _ _ _ (by omega), tkFlds_ok _ _⟩
    · exact tkFrms_ok n _ f h
theorem parS_ok (b : List UInt8) : (parS b).1.ok := by
  have z : i64 0 := by unfold i64; omega
  unfold parS
  split
  · exact ⟨z, fun f hf => by simp at hf⟩
  · split
    · exact ⟨i64_countS _ _ _ (by omega), tkFrms_ok _ _⟩
    · exact ⟨z, fun f hf => by simp at hf⟩
end Go.Proofs.Ytmpfeofeokmooaa.V
namespace Go.Proofs.Ytmpfeofeokmooaa.V
open Go
set_option maxRecDepth 20000 in
theorem c_tuses (op : Int) : tbl E0 105 [.int .i64 op] [] = some ([intsV (usesS op)], []) := by
  refine op_all (p := fun op => tbl E0 105 [.int .i64 op] [] = some ([intsV (usesS op)], [])) op ?_ ?_
  · intro o ho
    simp only [opsL, List.mem_cons, List.not_mem_nil, or_false] at ho
    rcases ho with rfl | rfl | rfl | rfl | rfl | rfl | rfl | rfl | rfl | rfl | rfl | rfl | rfl | rfl | rfl | rfl | rfl | rfl | rfl | rfl <;> exact tbl_iff.2 ⟨12, by kernel_rfl⟩
  · intro h hu
    simp only [opsL, List.mem_cons, List.not_mem_nil, or_false, not_or] at h
    obtain ⟨h1, h2, h3, h4, h5, h6, h7, h8, h9, h10, h11, h12, h13, h14, h15, h16, h17, h18, h19, h20⟩ := h
    have cB : ltbl E0 105 0 1000009 [.int .i64 op, .bool false] [] = some (50001, [], []) := t_tusesB op false (by simp [s_tusesB, h1, h2, h3, h4, h5, h6, h7, h8, h9, h10, h11, h12, h13, h14, h15, h16, h17, h18, h19, h20])
    have cA : ltbl E0 105 0 1000004 [.int .i64 op, .bool false] [] = some (50001, [], []) := t_tusesA op false (by
      have : (op == 23) = false := beq_f h13
      simp [s_tusesA, h1, h2, h3, this, cB])
    have : (op == 22) = false := beq_f h12
    exact t_tuses op (by simp [s_tuses, h1, this, cA, hu])
theorem c_tin (n lo hi : Int) : tbl E0 143 [.int .i64 n, .int .i64 lo, .int .i64 hi] [] = some ([.bool (inS n lo hi)], []) := t_tin n lo hi (by
  by_cases h : lo ≤ n <;> simp [s_tin, inS, h])
theorem c_fboundsG (f : Fld) : ∃ hi, tbl E0 156 [fldV f] [] = some ([.int .i64 (loS f), .int .i64 hi], []) ∧ (rgtS f = true → hi = hiS f) := by
  by_cases h : f.kind = 3 → rgtS f = true
  · exact ⟨_, c_fbounds f h, fun _ => rfl⟩
  · rw [Classical.not_imp] at h
    refine ⟨_, t_fbounds f (by simp [s_fbounds, h.1, loS]; rfl), fun hr => absurd hr h.2⟩
theorem c_fHas (f : Fld) (n : Int) (s : List UInt8) : tbl E0 144 [fldV f, .agg [.int .i64 n, .str s]] [] = some ([.bool (hasV f n s)], []) := by
  obtain ⟨hi, hb, hh⟩ := c_fboundsG f
  have c := c_fRight f
  refine t_fHas f n s ?_
  simp only [s_fHas, OA_chk, cond_true, OA_callx, hb, c, Option.bind_some, u_asC, u_asI, u_asB, u_asN, OA_join, OA_asm, hasV, longestS, inS]
  by_cases hr : rgtS f = true
  · have := hh hr
    subst this
    by_cases k : f.kind = 4 <;> by_cases a : loS f ≤ n <;> by_cases b : n ≤ hiS f <;> simp [hr, k, a, b]
  · have hr : rgtS f = false := by simpa using hr
    by_cases k : f.kind = 4 <;> simp [hr, k]
theorem c_EqualIL (a b : List Int) (hl : a.length ≤ 211106232532992) (hab : a.length = b.length) : ∀ (r r' : List Int) (i : Nat), a.drop i = r → b.drop i = r' →
    ltbl E0 104 0 4 [intsV a, intsV b, .int .i64 a.length, .int .i64 i] [] = some (if r = r' then (1, [], []) else (0, [.bool false], [])) := by
  intro r
  induction r with
  | nil =>
    intro r' i hr hr'
    have h : a.length ≤ i := by simpa using hr
    have : r' = [] := by rw [← hr']; simp; omega
    subst this
    refine t_EqualIL _ _ _ _ ?_
    have : ¬ ((i : Int) < a.length) := by omega
    simp [s_EqualIL, this]
  | cons x r ih =>
    intro r' i hr hr'
    obtain ⟨hlt, hget, hr2⟩ := drop_c hr
    cases r' with
    | nil => simp at hr'; omega
    | cons y r' =>
      obtain ⟨_, hget', hr2'⟩ := drop_c hr'
      have h2 : (i : Int) < a.length := by omega
      have e1 := i64_succ (i := i) (by omega)
      have h := ih r' (i + 1) hr2 hr2'
      refine t_EqualIL _ _ _ _ ?_
      simp only [s_EqualIL, OA_asm, List.length_map, h2, decide_true, cond_true, OA_chk, Int.natCast_nonneg, nthE, Int.toNat_natCast, List.getElem?_map, hget, hget', Option.map_some, u_asA, u_asC, u_asI, u_asB, u_asL, u_asN, e1, h]
      by_cases e : x = y
      · simp [e]
      · simp [e]
theorem c_EqualI (a b : List Int) (h : a.length ≤ 211106232532992) : tbl E0 104 [intsV a, intsV b] [] = some ([.bool (decide (a = b))], []) :=
  t_EqualI a b (by
    simp only [s_EqualI, OA_asm, List.length_map, OA_loop]
    by_cases hab : a.length = b.length
    · have e := c_EqualIL a b h hab a b 0 rfl rfl
      simp only [Int.natCast_zero] at e
      have h' : ((a.length : Int) != (b.length : Int)) = false := by rw [hab]; simp
      rw [h', cond_false, e]
      by_cases e2 : a = b <;> simp [e2]
    · have : ¬ (a = b) := fun e => hab (by rw [e])
      have h' : ((a.length : Int) != (b.length : Int)) = true := bne_t (by omega)
      rw [h']
      simp [this])
def freshI (below : Int) : List Bool → List Int → Bool
  | _, [] => true
  | s, n :: l => inS n 0 (below - 1) && !((s[n.toNat]?).getD false) && freshI below (s.set n.toNat true) l
theorem c_tapartL (l : List Int) (below : Int) (hb : 1 ≤ below ∧ below ≤ 1000) (hl : l.length ≤ 211106232532992) : ∀ (r : List Int) (i : Nat) (s : List Bool), l.drop i = r → s.length = 1000 →
    ltbl E0 145 0 3 [intsV l, .int .i64 below, intsV l, .int .i64 l.length, .int .i64 i] [s.map AV.bool] = some (if freshI below s r then (1, [intsV l], []) else (0, [.bool false], [])) := by
  intro r
  induction r with
  | nil =>
    intro i s hr hs
    have h : l.length ≤ i := by simpa using hr
    refine t_tapartL _ _ _ _ _ ?_
    have : ¬ ((i : Int) < l.length) := by omega
    simp [s_tapartL, this, freshI]
  | cons f r ih =>
    intro i s hr hs
    obtain ⟨hlt, hget, hr2⟩ := drop_c hr
    have h2 : (i : Int) < l.length := by omega
    have e1 := i64_succ (i := i) (by omega)
    have h := ih (i + 1) (s.set f.toNat true) hr2 (by simpa using hs)
    have w : IntKind.i64.wrap (below - 1) = below - 1 := wrap_i64 _ (by omega) (by omega)
    have c := c_tin f 0 (below - 1)
    refine t_tapartL _ _ _ _ _ ?_
    simp only [s_tapartL, h2, decide_true, cond_true, OA_chk, Int.natCast_nonneg, nthE, Int.toNat_natCast, List.getElem?_map, hget, Option.map_some, u_asA, u_asC, u_asI, u_asB, u_asN, OA_callx, OA_join, w, c, Option.bind_some, e1, freshI]
    by_cases hg : inS f 0 (below - 1) = true
    · have rr : 0 ≤ f ∧ f ≤ below - 1 := by simpa [inS] using hg
      have hk : f.toNat < s.length := by omega
      have g : s[f.toNat]? = some s[f.toNat] := List.getElem?_eq_getElem hk
      have a1 : 0 ≤ f := rr.1
      have a2 : f < ((1000 : Nat) : Int) := by omega
      have a3 : 0 + f.toNat * 1 = f.toNat := by omega
      have a4 : (f.toNat + 1).ble (List.map AV.bool s).length = true := by rw [Nat.ble_eq, List.length_map]; omega
      simp only [hg, a1, a2, a3, a4, decide_true, Bool.and_self, cond_true, g, Option.map_some, u_asB, Bool.not_true, cond_false, Option.bind_some, Tok.untok_tok, setAt_bool, all_flat_bool, h, Option.getD_some, Bool.true_and]
      by_cases hb : s[f.toNat] = true
      · simp [hb]
      · have hb : s[f.toNat] = false := by simpa using hb
        simp [hb]
    · have hg : inS f 0 (below - 1) = false := by simpa using hg
      simp [hg]
theorem freshI_iff (below : Int) (hb : below ≤ 1000) : ∀ (l : List Int) (s : List Bool), s.length = 1000 → (freshI below s l = true ↔ (∀ n ∈ l, inS n 0 (below - 1) = true ∧ s[n.toNat]? = some false) ∧ nodupI l = true)
  | [], s, _ => by simp [freshI, nodupI]
  | f :: l, s, hs => by
    have ih := freshI_iff below hb l (s.set f.toNat true) (by simpa using hs)
    simp only [freshI, Bool.and_eq_true, ih, nodupI, Bool.not_eq_true', List.mem_cons, forall_eq_or_imp]
    have rng : ∀ {n : Int}, inS n 0 (below - 1) = true → 0 ≤ n ∧ n < 1000 := fun {n} h => by
      have : 0 ≤ n ∧ n ≤ below - 1 := by simpa [inS] using h
      omega
    have key : inS f 0 (below - 1) = true → ((s[f.toNat]?).getD false = false ↔ s[f.toNat]? = some false) := by
      intro hg
      have rr := rng hg
      have hk : f.toNat < s.length := by omega
      rw [List.getElem?_eq_getElem hk]
      simp
    have key2 : inS f 0 (below - 1) = true → ∀ g, inS g 0 (below - 1) = true → ((s.set f.toNat true)[g.toNat]? = some false ↔ (s[g.toNat]? = some false ∧ g ≠ f)) := by
      intro hg g hgg
      have r1 := rng hg
      have r2 := rng hgg
      rw [List.getElem?_set]
      by_cases e : f.toNat = g.toNat
      · have e' : g = f := by omega
        rw [if_pos e, if_pos (by omega)]
        simp [e']
      · have e' : g ≠ f := by omega
        rw [if_neg e]
        simp [e']
    constructor
    · rintro ⟨⟨h1, h2⟩, h3, h4⟩
      refine ⟨⟨⟨h1, (key h1).1 h2⟩, fun g hg => ⟨(h3 g hg).1, ((key2 h1 g (h3 g hg).1).1 (h3 g hg).2).1⟩⟩, ?_, h4⟩
      simp only [List.any_eq_false, beq_iff_eq]
      intro g hg
      exact ((key2 h1 g (h3 g hg).1).1 (h3 g hg).2).2
    · rintro ⟨⟨⟨h1, h2⟩, h3⟩, h4, h5⟩
      refine ⟨⟨h1, (key h1).2 h2⟩, fun g hg => ⟨(h3 g hg).1, (key2 h1 g (h3 g hg).1).2 ⟨(h3 g hg).2, ?_⟩⟩, h5⟩
      simp only [List.any_eq_false, beq_iff_eq] at h4
      exact h4 g hg
theorem freshI_0 (below : Int) (hb : below ≤ 1000) (l : List Int) : freshI below (List.replicate 1000 false) l = ((l.all fun n => inS n 0 (below - 1)) && nodupI l) := by
  rw [Bool.eq_iff_iff, freshI_iff _ hb _ _ List.length_replicate]
  simp only [Bool.and_eq_true, List.all_eq_true]
  constructor
  · rintro ⟨h1, h2⟩; exact ⟨fun f hf => (h1 f hf).1, h2⟩
  · rintro ⟨h1, h2⟩
    refine ⟨fun f hf => ⟨h1 f hf, ?_⟩, h2⟩
    have r : 0 ≤ f ∧ f ≤ below - 1 := by simpa [inS] using h1 f hf
    rw [List.getElem?_replicate, if_pos (by omega)]
theorem c_tapart (l : List Int) (below : Int) (hb : 1 ≤ below ∧ below ≤ 1000) (hl : l.length ≤ 211106232532992) : tbl E0 145 [intsV l, .int .i64 below] [] = some ([.bool (apartS l below)], []) :=
  t_tapart l below (by
    have e := c_tapartL l below hb hl l 0 (List.replicate 1000 false) rfl List.length_replicate
    simp only [Int.natCast_zero, freshI_0 _ hb.2] at e
    have c := c_tin (l.length : Int) 1 64
    have e2 : inS (l.length : Int) 1 64 = decide (1 ≤ l.length ∧ l.length ≤ 64) := by
      simp only [inS, Bool.decide_and]
      congr 1 <;> exact decide_eq_decide.2 (by omega)
    simp only [List.map_replicate] at e
    simp only [s_tapart, OA_asm, OA_chk, cond_true, OA_loop, List.length_map, e]
    · unfold apartS
      cases hx : ((l.all fun n => inS n 0 (below - 1)) && nodupI l) with
      | true => simp [c, e2]
      | false => simp)
end Go.Proofs.Ytmpfeofeokmooaa.V
namespace Go.Proofs.Ytmpfeofeokmooaa.V
open Go
set_option maxRecDepth 20000 in
theorem c_tonly (x : Stp) : tbl E0 120 [stpV x] [] = some ([stpV (onlyS x)], []) := by
  obtain ⟨op, form, field, place, to, a, b, f, n, s, t, fields⟩ := x
  refine op_all (p := fun op => tbl E0 120 [stpV ⟨op, form, field, place, to, a, b, f, n, s, t, fields⟩] [] = some ([stpV (onlyS ⟨op, form, field, place, to, a, b, f, n, s, t, fields⟩)], [])) op ?_ ?_
  · intro o ho
    simp only [opsL, List.mem_cons, List.not_mem_nil, or_false] at ho
    rcases ho with rfl | rfl | rfl | rfl | rfl | rfl | rfl | rfl | rfl | rfl | rfl | rfl | rfl | rfl | rfl | rfl | rfl | rfl | rfl | rfl <;> exact tbl_iff.2 ⟨20, by kernel_rfl⟩
  · intro h hu
    have c := c_tuses op
    rw [hu] at c
    have e2 : ltbl E0 120 0 3 [intsV [], .int .i64 0, .int .i64 0] [stpC ⟨op, form, field, place, to, a, b, f, n, s, t, fields⟩, stpC ⟨0, 0, 0, 0, 0, 0, 0, fld0, 0, [], [], []⟩, stpC ⟨op, 0, 0, 0, 0, 0, 0, fld0, 0, [], [], []⟩] = some (1, [], [stpC ⟨0, 0, 0, 0, 0, 0, 0, fld0, 0, [], [], []⟩, stpC ⟨op, 0, 0, 0, 0, 0, 0, fld0, 0, [], [], []⟩]) := t_tonlyL _ _ _ [] 0 0 (by simp [s_tonlyL])
    refine t_tonly _ ?_
    simp only [s_tonly, OA_chk, cond_true, OA_callx, c, Option.bind_some, u_asC, u_asL, u_asN, OA_asm, OA_loop, List.map_nil, List.length_nil, Int.natCast_zero, stpC, fld0, intsV, fldsV] at e2 ⊢
    rw [e2]
    simp [onlyS, hasS, hu, fld0]
theorem wrap0 {a b : Int} (ha : i64 a) (hb : i64 b) : (IntKind.i64.wrap (a - b) == 0) = (a == b) := by
  have : IntKind.i64.wrap (a - b) = (a - b + 9223372036854775808) % 18446744073709551616 - 9223372036854775808 := by rw [IntKind.wrap_i64]
  rw [this, Bool.eq_iff_iff, beq_iff_eq, beq_iff_eq]
  unfold i64 at ha hb
  omega
theorem stp_eq (x y : Stp) : decide (x = y) = ((decide (x.t = y.t) && decide (x.fields = y.fields)) && ((x.op == y.op && (x.form == y.form && (x.field == y.field && (x.place == y.place && (x.to == y.to && (x.a == y.a && x.b == y.b)))))) && (decide (x.f = y.f) && (x.n == y.n && x.s == y.s)))) := by
  obtain ⟨op, form, field, place, to, a, b, f, n, s, t, fields⟩ := x
  obtain ⟨op', form', field', place', to', a', b', f', n', s', t', fields'⟩ := y
  rw [Bool.eq_iff_iff]
  simp only [decide_eq_true_eq, Bool.and_eq_true, beq_iff_eq, Stp.mk.injEq]
  constructor
  · rintro ⟨rfl, rfl, rfl, rfl, rfl, rfl, rfl, rfl, rfl, rfl, rfl, rfl⟩; simp
  · rintro ⟨⟨rfl, rfl⟩, ⟨rfl, rfl, rfl, rfl, rfl, rfl, rfl⟩, rfl, rfl, rfl⟩; simp
theorem c_tSame (x y : Stp) (hx : x.ok) (hy : y.ok) (hs : x.sml) : tbl E0 55 [stpV x, stpV y] [] = some ([.bool (decide (x = y))], []) :=
  t_tSame x y (by
    obtain ⟨h1, h2, h3, h4, h5, h6, h7, _⟩ := hx
    obtain ⟨g1, g2, g3, g4, g5, g6, g7, _⟩ := hy
    have c1 := c_EqualI x.t y.t hs.1
    have c2 := c_EqualF x.fields y.fields hs.2
    simp only [s_tSame, OA_chk, cond_true, OA_callx, c1, c2, Option.bind_some, u_asC, u_asB, u_asN, OA_join, wrap0 h1 g1, wrap0 h2 g2, wrap0 h3 g3, wrap0 h4 g4, wrap0 h5 g5, wrap0 h6 g6, wrap0 h7 g7, fld_eq]
    simp only [Bool.and_true, stp_eq]
    generalize (x.op == y.op && (x.form == y.form && (x.field == y.field && (x.place == y.place && (x.to == y.to && (x.a == y.a && x.b == y.b)))))) = p
    generalize (x.n == y.n && x.s == y.s) = q
    cases decide (x.t = y.t) <;> cases decide (x.fields = y.fields) <;> cases p <;> cases decide (x.f = y.f) <;> simp)
theorem c_tfits (x : Stp) (p : Int) (hp : p = 8 → 1 ≤ (if x.op = 5 then x.a else 1000) ∧ (if x.op = 5 then x.a else 1000) ≤ 1000) (hs : x.sml) : tbl E0 119 [stpV x, .int .i64 p] [] = some ([.bool (fitsS x p)], []) := by
  have i1 := c_tin
  have i2 := c_fRight x.f
  have i3 := c_fHas x.f x.n x.s
  have i4 := c_sFine ⟨x.form, x.fields⟩ hs.2
  refine t_tfits x p ?_
  unfold s_tfits fitsS
  simp only [OA_chk, cond_true, cond_beq, OA_callx, OA_join, OA_asm]
  by_cases h0 : p = 0
  · simp only [h0, if_true, i1, Option.bind_some, u_asC, u_asB, u_asN]
  by_cases h1 : p = 1
  · simp [h1, i1]
  by_cases h2 : p = 2
  · simp [h2, i1]
  by_cases h3 : p = 3
  · simp only [h3, i1]
    cases inS x.to 0 255 <;> by_cases e : x.to = x.field <;> simp [e]
  by_cases h4 : p = 4
  · by_cases ho : x.op = 5
    · cases hi : inS x.a 1 1000 <;> simp [h4, i1, ho, hi]
    · simp [h4, i1, ho]
  by_cases h5 : p = 5
  · cases hi : inS x.a (-1048576) 1048576
    · simp [h5, i1, hi]
    · by_cases ha : x.a = 0
      · rw [ha] at hi; simp [h5, i1, hi, ha]
      · simp [h5, i1, hi, ha]
  by_cases h6 : p = 6
  · by_cases o1 : x.op = 1
    · cases hr : rgtS x.f <;> simp [h6, o1, i2, hr]
    · by_cases o2 : x.op = 22
      · cases hr : rgtS x.f <;> simp [h6, o2, i2, hr]
      · cases hr : rgtS x.f <;> simp [h6, o1, o2, beq_f o2, i2, hr]
  by_cases h7 : p = 7
  · by_cases ho : x.op = 2
    · cases hi : inS x.n (-1099511627776) 1099511627776 <;> simp [h7, ho, i1, hi]
    · simp [h7, ho, i3]
  by_cases h8 : p = 8
  · have hb := hp h8
    simp only [h8]
    by_cases ho : x.op = 5
    · simp only [ho, if_true] at hb ⊢
      have c := c_tapart x.t x.a hb hs.1
      simp [c]
    · simp only [ho, if_false] at hb ⊢
      have c := c_tapart x.t 1000 (by omega) hs.1
      simp [c]
  · simp [h0, h1, h2, h3, h4, h5, h6, h7, h8, i4]
end Go.Proofs.Ytmpfeofeokmooaa.V
namespace Go.Proofs.Ytmpfeofeokmooaa.V
open Go
theorem c_tRightL (x : Stp) (hs : x.sml) (l : List Int) (q : List Int) (hl : l.length ≤ 5) (hb : ∀ (i : Nat) (p : Int), l[i]? = some p → p = 8 → (l.take i).all (fitsS x) = true → 1 ≤ (if x.op = 5 then x.a else 1000) ∧ (if x.op = 5 then x.a else 1000) ≤ 1000) : ∀ (r : List Int) (i : Nat), l.drop i = r → (l.take i).all (fitsS x) = true →
    ltbl E0 69 0 3 [intsV q, intsV l, .int .i64 l.length, .int .i64 i] [stpC x] = some (if r.all (fitsS x) then (1, [intsV q], [stpC x]) else (0, [.bool false], [])) := by
  intro r
  induction r with
  | nil =>
    intro i hr ht
    have h : l.length ≤ i := by simpa using hr
    refine t_tRightL _ _ _ _ _ ?_
    have : ¬ ((i : Int) < l.length) := by omega
    simp [s_tRightL, this]
  | cons p r ih =>
    intro i hr ht
    obtain ⟨hlt, hget, hr2⟩ := drop_c hr
    have h2 : (i : Int) < l.length := by omega
    have e1 := i64_succ (i := i) (by omega)
    have c := c_tfits x p (fun h8 => hb i p hget h8 ht) hs
    refine t_tRightL _ _ _ _ _ ?_
    simp only [s_tRightL, h2, decide_true, cond_true, OA_chk, Int.natCast_nonneg, nthE, Int.toNat_natCast, List.getElem?_map, hget, Option.map_some, u_asA, u_asC, u_asI, u_asB, u_asN, OA_callx, c, Option.bind_some, e1]
    cases hf : fitsS x p with
    | false => simp [hf]
    | true =>
      have ht2 : (l.take (i + 1)).all (fitsS x) = true := by
        rw [List.take_add_one, hget]
        simp [hf]
        simpa using ht
      have h := ih (i + 1) hr2 ht2
      simp only [Bool.not_true, cond_false, h, List.all_cons, hf, Bool.true_and]
theorem only_ok {x : Stp} (hx : x.ok) : (onlyS x).ok := by
  obtain ⟨h1, h2, h3, h4, h5, h6, h7, h8, h9, h10, h11⟩ := hx
  have z : i64 0 := by unfold i64; omega
  unfold onlyS
  refine ⟨h1, ?_, ?_, ?_, ?_, ?_, ?_, ?_, ?_, ?_, ?_⟩ <;> dsimp only <;> split
  all_goals first
    | assumption
    | exact ⟨z, z, z, z, z⟩
    | simp
theorem c_tRight (x : Stp) (hx : x.ok) (hs : x.sml) : tbl E0 69 [stpV x] [] = some ([.bool (tRightS x)], []) := by
  have c := c_tuses x.op
  have e := c_tRightL x hs (usesS x.op) (usesS x.op) (uses_len _) (uses_bound x) (usesS x.op) 0 rfl rfl
  have c2 := c_tonly x
  have c3 := c_tSame x (onlyS x) hx (only_ok hx) hs
  simp only [Int.natCast_zero] at e
  refine t_tRight x ?_
  simp only [s_tRight, OA_chk, cond_true, OA_callx, c, Option.bind_some, u_asC, u_asL, u_asN, OA_asm, OA_loop, List.length_map, tRightS]
  simp only [stpC] at e
  rw [e]
  cases hf : (usesS x.op).all (fitsS x) with
  | false => simp
  | true =>
    cases hu : usesS x.op with
    | nil => simp
    | cons p l =>
      simp only [stpV, stpC] at c2 c3
      simp [c2, c3]
end Go.Proofs.Ytmpfeofeokmooaa.V
namespace Go.Proofs.Ytmpfeofeokmooaa.V
open Go
theorem cond_tt (a b : Bool) : (bif a then true else b) = (a || b) := by cases a <;> rfl
theorem cond_ff (a b : Bool) : (bif a then b else false) = (a && b) := by cases a <;> rfl
end Go.Proofs.Ytmpfeofeokmooaa.V
namespace Go.Proofs.Ytmpfeofeokmooaa.V
open Go
theorem c_ytSameK (x y : Stp) (hl : x.fields.length ≤ 211106232532992) (he : x.fields.length = y.fields.length) : ∀ (r q : List Fld) (i : Nat), x.fields.drop i = r → y.fields.drop i = q →
    ltbl E0 47 0 9 [.int .i64 i] [stpC x, stpC y] = some (if r = q then (3, [], []) else (0, [.bool false], [])) := by
  intro r
  induction r with
  | nil =>
    intro q i hr hq
    have h : x.fields.length ≤ i := by simpa using hr
    have h3 : q = [] := by rw [← hq, List.drop_eq_nil_iff]; omega
    have : ¬ ((i : Int) < x.fields.length) := by omega
    subst h3
    exact t_ytSameK _ _ _ (by simp [s_ytSameK, this])
  | cons f r ih =>
    intro q i hr hq
    obtain ⟨hlt, hget, hr2⟩ := drop_c hr
    have hlt' : i < y.fields.length := by omega
    rw [List.drop_eq_getElem_cons hlt'] at hq
    subst hq
    have hg2 : y.fields[i]? = some y.fields[i] := List.getElem?_eq_getElem hlt'
    generalize y.fields[i] = g at *
    have h2 : (i : Int) < x.fields.length := by omega
    have e1 := i64_succ (i := i) (by omega)
    have h := ih _ (i + 1) hr2 rfl
    have hf := fld_eq f g
    refine t_ytSameK _ _ _ ?_
    simp only [s_ytSameK, OA_asm, List.length_map, h2, decide_true, cond_true, OA_chk, Int.natCast_nonneg, nthE, Int.toNat_natCast, List.getElem?_map, hget, hg2, Option.map_some, u_asA, u_asC, u_asI, u_asB, u_asN, e1, hf]
    by_cases e : f = g
    · simp only [e, decide_true, Bool.not_true, cond_false, h, List.cons.injEq, true_and]
    · simp [e]
theorem c_ytSameL (x y : Stp) (hl : x.t.length ≤ 211106232532992) (he : x.t.length = y.t.length) : ∀ (r q : List Int) (i : Nat), x.t.drop i = r → y.t.drop i = q →
    ltbl E0 47 0 4 [.int .i64 i] [stpC x, stpC y] = some (if r = q then (1, [], [stpC x, stpC y]) else (0, [.bool false], [])) := by
  intro r
  induction r with
  | nil =>
    intro q i hr hq
    have h : x.t.length ≤ i := by simpa using hr
    have h3 : q = [] := by rw [← hq, List.drop_eq_nil_iff]; omega
    have : ¬ ((i : Int) < x.t.length) := by omega
    subst h3
    exact t_ytSameL _ _ _ (by simp [s_ytSameL, this])
  | cons f r ih =>
    intro q i hr hq
    obtain ⟨hlt, hget, hr2⟩ := drop_c hr
    have hlt' : i < y.t.length := by omega
    rw [List.drop_eq_getElem_cons hlt'] at hq
    subst hq
    have hg2 : y.t[i]? = some y.t[i] := List.getElem?_eq_getElem hlt'
    generalize y.t[i] = g at *
    have h2 : (i : Int) < x.t.length := by omega
    have e1 := i64_succ (i := i) (by omega)
    have h := ih _ (i + 1) hr2 rfl
    refine t_ytSameL _ _ _ ?_
    simp only [s_ytSameL, OA_asm, List.length_map, h2, decide_true, cond_true, OA_chk, Int.natCast_nonneg, nthE, Int.toNat_natCast, List.getElem?_map, hget, hg2, Option.map_some, u_asA, u_asC, u_asI, u_asB, u_asN, e1]
    by_cases e : f = g
    · simp only [e, bne_self_eq_false, cond_false, h, List.cons.injEq, true_and]
    · simp [e]
theorem c_ytSame (x y : Stp) (hs : x.sml) : tbl E0 47 [stpV x, stpV y] [] = some ([.bool (decide (x = y))], []) := by
  refine t_ytSame x y ?_
  have hv : (x.n == y.n && (x.s == y.s && true)) = (x.n == y.n && x.s == y.s) := by simp
  simp only [s_ytSame, OA_chk, cond_true, Option.bind_some, u_asC, u_asB, u_asN, OA_join, OA_asm, List.length_map, fld_eq, hv]
  simp only [tok_cond, Option.bind_some, Tok.untok_tok, cond_tt]
  have ha : decide (x = y) = (!(x.op != y.op || (x.form != y.form || (x.field != y.field || (x.place != y.place || (x.to != y.to || (x.a != y.a || (x.b != y.b || (!decide (x.f = y.f) || (!(x.n == y.n && x.s == y.s) || ((x.t.length : Int) != y.t.length || (x.fields.length : Int) != y.fields.length)))))))))) && (decide (x.t = y.t) && decide (x.fields = y.fields))) := by
    rw [stp_eq, Bool.eq_iff_iff]
    have h1 : x.t = y.t → (x.t.length : Int) = y.t.length := fun h => by rw [h]
    have h2 : x.fields = y.fields → (x.fields.length : Int) = y.fields.length := fun h => by rw [h]
    simp only [Bool.and_eq_true, Bool.or_eq_true, Bool.not_eq_true', Bool.or_eq_false_iff, Bool.and_eq_false_iff, decide_eq_true_eq, decide_eq_false_iff_not, beq_iff_eq, bne_eq_false_iff_eq, Bool.not_eq_false']
    grind
  rw [ha]
  generalize hq : (x.op != y.op || (x.form != y.form || (x.field != y.field || (x.place != y.place || (x.to != y.to || (x.a != y.a || (x.b != y.b || (!decide (x.f = y.f) || (!(x.n == y.n && x.s == y.s) || ((x.t.length : Int) != y.t.length || (x.fields.length : Int) != y.fields.length)))))))))) = q
  rcases bor q with hb | hb
  · subst hb; rfl
  · rw [hb] at hq
    simp only [Bool.or_eq_false_iff, bne_eq_false_iff_eq] at hq
    have h1 : x.t.length = y.t.length := by have := hq.2.2.2.2.2.2.2.2.2.1; omega
    have h2 : x.fields.length = y.fields.length := by have := hq.2.2.2.2.2.2.2.2.2.2; omega
    have e1 := c_ytSameL x y hs.1 h1 x.t y.t 0 rfl rfl
    have e2 := c_ytSameK x y hs.2 h2 x.fields y.fields 0 rfl rfl
    simp only [Int.natCast_zero] at e1 e2
    subst hb
    simp only [cond_false, OA_loop, stpC] at e1 e2 ⊢
    rw [e1]
    by_cases c1 : x.t = y.t
    · simp only [c1, if_true, Option.bind_some, Nat.beq, cond_false, cond_true, u_asC, u_asI, u_asS, u_asL, u_asN, OA_loop] at e2 ⊢
      rw [e2]
      by_cases c2 : x.fields = y.fields <;> simp [c2]
    · simp [c1]
def bigT (x : Stp) : Bool := decide (100 < x.t.length) || decide (40 < x.fields.length)
theorem c_yGreatL (l : List Stp) : ∀ (m : Nat) (r : List Stp) (i : Nat), l.drop i = r → i + m = 61 →
    ltbl E0 41 0 2 [stpsV l, .int .i64 i] [] = some (if (r.take m).any bigT then (0, [.bool true], []) else (1, [stpsV l], [])) := by
  intro d
  induction d with
  | zero =>
    intro r i hr hm
    have : ¬ ((i : Int) < 61) := by omega
    refine t_yGreatL _ _ ?_
    by_cases h : (i : Int) < l.length <;> simp [s_yGreatL, this, h]
  | succ d ih =>
    intro r i hr hm
    cases r with
    | nil =>
      have h : l.length ≤ i := by simpa using hr
      have : ¬ ((i : Int) < l.length) := by omega
      exact t_yGreatL _ _ (by simp [s_yGreatL, this])
    | cons x r =>
      obtain ⟨hlt, hget, hr2⟩ := drop_c hr
      have h2 : (i : Int) < l.length := by omega
      have h3 : (i : Int) < 61 := by omega
      have e1 := i64_succ (i := i) (by omega)
      have h := ih r (i + 1) hr2 (by omega)
      refine t_yGreatL _ _ ?_
      simp only [s_yGreatL, OA_asm, OA_join, List.length_map, h2, h3, decide_true, cond_true, OA_chk, Int.natCast_nonneg, nthE, Int.toNat_natCast, List.getElem?_map, hget, Option.map_some, u_asA, u_asC, u_asI, u_asS, u_asL, u_asB, u_asN, Option.bind_some, Tok.untok_tok, e1, h, List.take_succ_cons, List.any_cons]
      by_cases a : 100 < x.t.length
      · have a2 : (x.t.length : Int) > 100 := by omega
        simp [a2, bigT, a]
      · have a2 : ¬ ((x.t.length : Int) > 100) := by omega
        by_cases b : 40 < x.fields.length
        · have b2 : (x.fields.length : Int) > 40 := by omega
          simp [a2, b2, bigT, a, b]
        · have b2 : ¬ ((x.fields.length : Int) > 40) := by omega
          have : bigT x = false := by simp [bigT, a, b]
          simp [a2, b2, this]
def greatT (l : List Stp) : Bool := (l.take 61).any bigT || decide (60 < l.length)
theorem c_yGreat (l : List Stp) : tbl E0 41 [stpsV l] [] = some ([.bool (greatT l)], []) :=
  t_yGreat l (by
    have e := c_yGreatL l 61 l 0 rfl rfl
    simp only [Int.natCast_zero] at e
    simp only [s_yGreat, OA_loop, e, greatT]
    rcases bor ((l.take 61).any bigT) with hb | hb
    · simp [hb]
    · by_cases h : 60 < l.length
      · have : (l.length : Int) > 60 := by omega
        simp [hb, h, this]
      · have : ¬ ((l.length : Int) > 60) := by omega
        simp [hb, h, this])
end Go.Proofs.Ytmpfeofeokmooaa.V
namespace Go.Proofs.Ytmpfeofeokmooaa.V
open Go
theorem bigT_sml {x : Stp} (h : bigT x = false) : x.sml := by
  simp only [bigT, Bool.or_eq_false_iff, decide_eq_false_iff_not] at h
  exact ⟨by omega, by omega⟩
end Go.Proofs.Ytmpfeofeokmooaa.V
