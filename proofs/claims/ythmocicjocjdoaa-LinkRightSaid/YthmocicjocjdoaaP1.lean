/- Printed by the evaluator. -/
import Derived.Test.YthmocicjocjdoaaS0
import Derived.Test.YthmocicjocjdoaaBf
namespace Go.Proofs.Ythmocicjocjdoaa.V
open Go
open AV (int lst agg str bool ref clo)
open List (map)
set_option linter.unusedVariables false
set_option linter.unusedSimpArgs false
abbrev penA (b : List AV) (e : Int) : List (Nat × List AV) := [(0, [.lst (.own (.E 0 0)) 1 b, .int .i64 e])]
abbrev penV (b : List UInt8) (e : Int) : List (Nat × List AV) := penA (encB b) e
abbrev eyeV (b : List UInt8) (e : Int) : List (Nat × List AV) := [(0, [.lst .ro 1 (encB b), .int .i64 e])]
abbrev actV (k n : Int) (s : List UInt8) : AV := AV.agg [.int .i64 k, .int .i64 n, .str s]

def s_put {α : Type} (A : Alg α) (b : List AV) (m : List AV) (e : Int) (kc : List AV → List (Nat × List AV) → α) : α :=
  A.chk (decide ((b.length + m.length) * 1 ≤ 140737488355328)) (A.chk true (kc [] [(0, [lst (.own (.E 0 0)) 1 (b ++ m), int .i64 e])]))
def s_putn {α : Type} (A : Alg α) (m : List AV) (kc : List AV → List (Nat × List AV) → α) : α :=
  kc [] []
def s_groups {α : Type} (A : Alg α) (b : List AV) (u : Int) (e : Int) (kc : List AV → List (Nat × List AV) → α) : α :=
  A.loop 0 [int .u64 u] [[lst (.own (.O 0 0)) 1 b, int .i64 e]] fun j0 l1 l2 => bif (j0.beq 1) then (asC A l1 fun v3 l4 => asI A .u64 v3 fun n5 => asN A l4 (asC A l2 fun l6 l7 => asC A l6 fun v8 l9 => asOwn A 1 v8 fun x10 l11 => bif (x10.beq (.O (0 : Nat) (0 : Nat))) then (asC A l9 fun v12 l13 => asI A .i64 v12 fun n14 => asN A l13 (asN A l7 (A.call 91 [ref 0 0, lst .ro 1 [int .u8 (IntKind.u8.wrap n5)]] [(0, [lst (.own (.E 0 0)) 1 l11, int .i64 n14])] fun l15 l16 => asC A l16 fun x17 l18 => bif (x17.1.beq 0) then (asC A x17.2 fun v19 l20 => asOwn A 1 v19 fun x21 l22 => asC A l20 fun v23 l24 => asI A .i64 v23 fun n25 => asN A l24 (asN A l15 (asN A l18 (kc [] [(0, [lst (.own (.E 0 0)) 1 l22, int .i64 n25])])))) else A.fail))) else A.fail)) else A.fail
def s_groupsn {α : Type} (A : Alg α) (u : Int) (kc : List AV → List (Nat × List AV) → α) : α :=
  A.loop 0 [AV.nilp, int .u64 u] [] fun j0 l1 l2 => bif (j0.beq 1) then (asC A l1 fun v3 l4 => asNilp A v3 (asC A l4 fun v5 l6 => asI A .u64 v5 fun n7 => asN A l6 (asN A l2 (A.callx 91 [AV.nilp, lst .ro 1 [int .u8 (IntKind.u8.wrap n7)]] fun l8 => asN A l8 (kc [] []))))) else A.fail
def s_groupsL {α : Type} (A : Alg α) (b : List AV) (u : Int) (e : Int) (next : List AV → List (List AV) → α) (kc : Nat → List AV → List (List AV) → α) : α :=
  bif (decide (u ≥ (128 : Int))) then (A.call 91 [ref 0 0, lst .ro 1 [int .u8 (bits Go.BinOp.or IntKind.u8 (IntKind.u8.wrap u) (128 : Int))]] [(0, [lst (.own (.E 0 0)) 1 b, int .i64 e])] fun l0 l1 => asC A l1 fun x2 l3 => bif (x2.1.beq 0) then (asC A x2.2 fun v4 l5 => asOwn A 1 v4 fun x6 l7 => asC A l5 fun v8 l9 => asI A .i64 v8 fun n10 => asN A l9 (asN A l0 (asN A l3 (A.chk true (next [int .u64 (u.fdiv ((2 : Int) ^ (7 : Nat)))] [[lst (.own (.O 0 0)) 1 l7, int .i64 n10]]))))) else A.fail) else (kc 1 [int .u64 u] [[lst (.own (.O 0 0)) 1 b, int .i64 e]])
def s_groupsLn {α : Type} (A : Alg α) (u : Int) (next : List AV → List (List AV) → α) (kc : Nat → List AV → List (List AV) → α) : α :=
  bif (decide (u ≥ (128 : Int))) then (A.callx 91 [AV.nilp, lst .ro 1 [int .u8 (bits Go.BinOp.or IntKind.u8 (IntKind.u8.wrap u) (128 : Int))]] fun l0 => asN A l0 (A.chk true (next [AV.nilp, int .u64 (u.fdiv ((2 : Int) ^ (7 : Nat)))] []))) else (kc 1 [AV.nilp, int .u64 u] [])
def s_PCount {α : Type} (A : Alg α) (b : List AV) (n : Int) (e : Int) (kc : List AV → List (Nat × List AV) → α) : α :=
  bif (decide (n < (0 : Int))) then (A.chk true (kc [] [(0, [lst (.own (.E 0 0)) 1 b, int .i64 2])])) else (A.call 90 [ref 0 0, int .u64 (IntKind.u64.wrap n)] [(0, [lst (.own (.E 0 0)) 1 b, int .i64 e])] fun l0 l1 => asC A l1 fun x2 l3 => bif (x2.1.beq 0) then (asC A x2.2 fun v4 l5 => asOwn A 1 v4 fun x6 l7 => asC A l5 fun v8 l9 => asI A .i64 v8 fun n10 => asN A l9 (asN A l0 (asN A l3 (kc [] [(0, [lst (.own (.E 0 0)) 1 l7, int .i64 n10])])))) else A.fail)
def s_PCountn {α : Type} (A : Alg α) (n : Int) (kc : List AV → List (Nat × List AV) → α) : α :=
  bif (decide (n < (0 : Int))) then (kc [] []) else (A.callx 90 [AV.nilp, int .u64 (IntKind.u64.wrap n)] fun l0 => asN A l0 (kc [] []))
def s_PNum {α : Type} (A : Alg α) (b : List AV) (n : Int) (e : Int) (kc : List AV → List (Nat × List AV) → α) : α :=
  A.chk true (A.chk true (A.call 90 [ref 0 0, int .u64 (bits Go.BinOp.xor IntKind.u64 (IntKind.u64.wrap (IntKind.u64.wrap n * (2 : Int) ^ (1 : Nat))) (IntKind.u64.wrap (n.fdiv ((2 : Int) ^ (63 : Nat)))))] [(0, [lst (.own (.E 0 0)) 1 b, int .i64 e])] fun l0 l1 => asC A l1 fun x2 l3 => bif (x2.1.beq 0) then (asC A x2.2 fun v4 l5 => asOwn A 1 v4 fun x6 l7 => asC A l5 fun v8 l9 => asI A .i64 v8 fun n10 => asN A l9 (asN A l0 (asN A l3 (kc [] [(0, [lst (.own (.E 0 0)) 1 l7, int .i64 n10])])))) else A.fail))
def s_PNumn {α : Type} (A : Alg α) (n : Int) (kc : List AV → List (Nat × List AV) → α) : α :=
  A.chk true (A.chk true (A.callx 90 [AV.nilp, int .u64 (bits Go.BinOp.xor IntKind.u64 (IntKind.u64.wrap (IntKind.u64.wrap n * (2 : Int) ^ (1 : Nat))) (IntKind.u64.wrap (n.fdiv ((2 : Int) ^ (63 : Nat)))))] fun l0 => asN A l0 (kc [] [])))
def s_PWord {α : Type} (A : Alg α) (b : List AV) (n : Int) (e : Int) (kc : List AV → List (Nat × List AV) → α) : α :=
  A.chk true (A.chk true (A.chk true (A.call 91 [ref 0 0, lst .ro 1 [int .u8 (IntKind.u8.wrap (n.fdiv ((2 : Int) ^ (24 : Nat)))), int .u8 (IntKind.u8.wrap (n.fdiv ((2 : Int) ^ (16 : Nat)))), int .u8 (IntKind.u8.wrap (n.fdiv ((2 : Int) ^ (8 : Nat)))), int .u8 (IntKind.u8.wrap n)]] [(0, [lst (.own (.E 0 0)) 1 b, int .i64 e])] fun l0 l1 => asC A l1 fun x2 l3 => bif (x2.1.beq 0) then (asC A x2.2 fun v4 l5 => asOwn A 1 v4 fun x6 l7 => asC A l5 fun v8 l9 => asI A .i64 v8 fun n10 => asN A l9 (asN A l0 (asN A l3 (kc [] [(0, [lst (.own (.E 0 0)) 1 l7, int .i64 n10])])))) else A.fail)))
def s_PWordn {α : Type} (A : Alg α) (n : Int) (kc : List AV → List (Nat × List AV) → α) : α :=
  A.chk true (A.chk true (A.chk true (A.callx 91 [AV.nilp, lst .ro 1 [int .u8 (IntKind.u8.wrap (n.fdiv ((2 : Int) ^ (24 : Nat)))), int .u8 (IntKind.u8.wrap (n.fdiv ((2 : Int) ^ (16 : Nat)))), int .u8 (IntKind.u8.wrap (n.fdiv ((2 : Int) ^ (8 : Nat)))), int .u8 (IntKind.u8.wrap n)]] fun l0 => asN A l0 (kc [] []))))
def s_PText {α : Type} (A : Alg α) (b : List AV) (s : List UInt8) (e : Int) (kc : List AV → List (Nat × List AV) → α) : α :=
  A.asm (s.length ≤ maxL) (A.call 52 [ref 0 0, int .i64 (↑s.length : Int)] [(0, [lst (.own (.E 0 0)) 1 b, int .i64 e])] fun l0 l1 => asC A l1 fun x2 l3 => bif (x2.1.beq 0) then (asC A x2.2 fun v4 l5 => asOwn A 1 v4 fun x6 l7 => asC A l5 fun v8 l9 => asI A .i64 v8 fun n10 => asN A l9 (asN A l0 (asN A l3 (A.call 91 [ref 0 0, lst .ro 1 (encB s)] [(0, [lst (.own (.E 0 0)) 1 l7, int .i64 n10])] fun l11 l12 => asC A l12 fun x13 l14 => bif (x13.1.beq 0) then (asC A x13.2 fun v15 l16 => asOwn A 1 v15 fun x17 l18 => asC A l16 fun v19 l20 => asI A .i64 v19 fun n21 => asN A l20 (asN A l11 (asN A l14 (kc [] [(0, [lst (.own (.E 0 0)) 1 l18, int .i64 n21])])))) else A.fail)))) else A.fail)
def s_PTextn {α : Type} (A : Alg α) (s : List UInt8) (kc : List AV → List (Nat × List AV) → α) : α :=
  A.asm (s.length ≤ maxL) (A.callx 52 [AV.nilp, int .i64 (↑s.length : Int)] fun l0 => asN A l0 (A.callx 91 [AV.nilp, lst .ro 1 (encB s)] fun l1 => asN A l1 (kc [] [])))
def s_CloneB {α : Type} (A : Alg α) (b : List UInt8) (kc : List AV → List (Nat × List AV) → α) : α :=
  nilEq A Md.ro (encB b) fun b0 => bif b0 then (kc [lst .ro 1 []] []) else (A.chk (decide (((0 : Nat) + (encB b).length) * 1 ≤ 140737488355328)) (kc [lst .ro 1 ([] ++ encB b)] []))
def s_CloneBnil {α : Type} (A : Alg α) (kc : List AV → List (Nat × List AV) → α) : α :=
  kc [lst .ro 1 []] []
def s_PDone {α : Type} (A : Alg α) (b : List AV) (e : Int) (kc : List AV → List (Nat × List AV) → α) : α :=
  bif (e != (0 : Int)) then (kc [lst .ro 1 [], int .i64 e] [(0, [lst (.own (.E 0 0)) 1 b, int .i64 e])]) else (A.callx 92 [lst .ro 1 b] fun l0 => asC A l0 fun v1 l2 => asL A 1 v1 fun l3 => asN A l2 (kc [lst .ro 1 l3, int .i64 0] [(0, [lst (.own (.E 0 0)) 1 b, int .i64 e])]))
def s_PDonen {α : Type} (A : Alg α) (kc : List AV → List (Nat × List AV) → α) : α :=
  kc [lst .ro 1 [], int .i64 1] []
def s_New {α : Type} (A : Alg α) (kc : List AV → List (Nat × List AV) → α) : α :=
  A.chk true (kc [ref 64 0] [(64, [lst (.own (.E 64 0)) 1 [], int .i64 0])])
def s_Of {α : Type} (A : Alg α) (b : List UInt8) (kc : List AV → List (Nat × List AV) → α) : α :=
  A.callx 92 [lst .ro 1 (encB b)] fun l0 => asC A l0 fun v1 l2 => asL A 1 v1 fun l3 => asN A l2 (A.chk true (A.chk true (kc [ref 64 0] [(64, [lst .ro 1 l3, int .i64 0])])))
def s_take {α : Type} (A : Alg α) (b : List UInt8) (e : Int) (n : Int) (kc : List AV → List (Nat × List AV) → α) : α :=
  A.join (fun x0 => x0 (e != (0 : Int))) fun b1 => bif b1 then (kc [lst .ro 1 []] [(0, [lst .ro 1 (encB b), int .i64 e])]) else (A.asm ((encB b).length ≤ maxL) (bif (decide (n > (↑(encB b).length : Int))) then (A.chk true (kc [lst .ro 1 []] [(0, [lst .ro 1 (encB b), int .i64 5])])) else (A.chk (decide ((0 : Int) ≤ (0 : Int)) && decide ((0 : Int) ≤ n) && decide (n ≤ n) && decide (n ≤ (↑(encB b).length : Int))) (A.chk (decide ((0 : Int) ≤ n) && decide (n ≤ (↑(encB b).length : Int)) && decide ((↑(encB b).length : Int) ≤ (↑(encB b).length : Int)) && decide ((↑(encB b).length : Int) ≤ (↑(encB b).length : Int))) (A.chk true (kc [lst .ro 1 (List.drop (0 : Nat) (List.take n.toNat (encB b)))] [(0, [lst .ro 1 (List.drop n.toNat (List.take (↑(encB b).length : Int).toNat (encB b))), int .i64 e])]))))))
def s_taken {α : Type} (A : Alg α) (n : Int) (kc : List AV → List (Nat × List AV) → α) : α :=
  A.join (fun x0 => x0 true) fun b1 => bif b1 then (kc [lst .ro 1 []] []) else A.fail
def s_left {α : Type} (A : Alg α) (b : List UInt8) (e : Int) (kc : List AV → List (Nat × List AV) → α) : α :=
  kc [lst .ro 1 (encB b)] [(0, [lst .ro 1 (encB b), int .i64 e])]
def s_leftn {α : Type} (A : Alg α) (kc : List AV → List (Nat × List AV) → α) : α :=
  kc [lst .ro 1 []] []
def s_back {α : Type} (A : Alg α) (b : List UInt8) (c : List UInt8) (e : Int) (f : Int) (kc : List AV → List (Nat × List AV) → α) : α :=
  A.chk true (A.chk true (kc [] [(0, [lst .ro 1 (encB c), int .i64 f])]))
def s_backn {α : Type} (A : Alg α) (c : List UInt8) (f : Int) (kc : List AV → List (Nat × List AV) → α) : α :=
  kc [] []
def s_ECount {α : Type} (A : Alg α) (b : List UInt8) (e : Int) (n : Int) (kc : List AV → List (Nat × List AV) → α) : α :=
  A.call 93 [ref 0 0] [(0, [lst .ro 1 (encB b), int .i64 e])] fun l0 l1 => asC A l1 fun x2 l3 => bif (x2.1.beq 0) then (asC A x2.2 fun v4 l5 => asL A 1 v4 fun l6 => asC A l5 fun v7 l8 => asI A .i64 v7 fun n9 => asN A l8 (asC A l0 fun v10 l11 => asL A 1 v10 fun l12 => asN A l11 (asN A l3 (A.call 94 [ref 0 0] [(0, [lst .ro 1 l6, int .i64 n9])] fun l13 l14 => asC A l14 fun x15 l16 => bif (x15.1.beq 0) then (asC A x15.2 fun v17 l18 => asL A 1 v17 fun l19 => asC A l18 fun v20 l21 => asI A .i64 v20 fun n22 => asN A l21 (asC A l13 fun v23 l24 => asI A .u64 v23 fun n25 => asN A l24 (asN A l16 (A.chk true (bif (n25.fdiv ((2 : Int) ^ (63 : Nat)) != (0 : Int)) then (A.call 95 [ref 0 0, lst .ro 1 l12, int .i64 4] [(0, [lst .ro 1 l19, int .i64 n22])] fun l26 l27 => asC A l27 fun x28 l29 => bif (x28.1.beq 0) then (asC A x28.2 fun v30 l31 => asL A 1 v30 fun l32 => asC A l31 fun v33 l34 => asI A .i64 v33 fun n35 => asN A l34 (asN A l26 (asN A l29 (kc [int .i64 0] [(0, [lst .ro 1 l32, int .i64 n35])])))) else A.fail) else (bif (decide (IntKind.i64.wrap n25 > if n < (0 : Int) then (0 : Int) else n)) then (A.call 95 [ref 0 0, lst .ro 1 l12, int .i64 7] [(0, [lst .ro 1 l19, int .i64 n22])] fun l36 l37 => asC A l37 fun x38 l39 => bif (x38.1.beq 0) then (asC A x38.2 fun v40 l41 => asL A 1 v40 fun l42 => asC A l41 fun v43 l44 => asI A .i64 v43 fun n45 => asN A l44 (asN A l36 (asN A l39 (kc [int .i64 0] [(0, [lst .ro 1 l42, int .i64 n45])])))) else A.fail) else (kc [int .i64 (IntKind.i64.wrap n25)] [(0, [lst .ro 1 l19, int .i64 n22])]))))))) else A.fail)))) else A.fail
def s_ECountn {α : Type} (A : Alg α) (n : Int) (kc : List AV → List (Nat × List AV) → α) : α :=
  A.callx 93 [AV.nilp] fun l0 => asC A l0 fun v1 l2 => asL A 1 v1 fun l3 => asN A l2 (A.callx 94 [AV.nilp] fun l4 => asC A l4 fun v5 l6 => asI A .u64 v5 fun n7 => asN A l6 (A.chk true (bif (n7.fdiv ((2 : Int) ^ (63 : Nat)) != (0 : Int)) then (A.callx 95 [AV.nilp, lst .ro 1 l3, int .i64 4] fun l8 => asN A l8 (kc [int .i64 0] [])) else (bif (decide (IntKind.i64.wrap n7 > if n < (0 : Int) then (0 : Int) else n)) then (A.callx 95 [AV.nilp, lst .ro 1 l3, int .i64 7] fun l9 => asN A l9 (kc [int .i64 0] [])) else (kc [int .i64 (IntKind.i64.wrap n7)] [])))))
def s_ENum {α : Type} (A : Alg α) (b : List UInt8) (e : Int) (kc : List AV → List (Nat × List AV) → α) : α :=
  A.call 94 [ref 0 0] [(0, [lst .ro 1 (encB b), int .i64 e])] fun l0 l1 => asC A l1 fun x2 l3 => bif (x2.1.beq 0) then (asC A x2.2 fun v4 l5 => asL A 1 v4 fun l6 => asC A l5 fun v7 l8 => asI A .i64 v7 fun n9 => asN A l8 (asC A l0 fun v10 l11 => asI A .u64 v10 fun n12 => asN A l11 (asN A l3 (A.chk true (kc [int .i64 (bits Go.BinOp.xor IntKind.i64 (IntKind.i64.wrap (n12.fdiv ((2 : Int) ^ (1 : Nat)))) (IntKind.i64.wrap ((0 : Int) - IntKind.i64.wrap (bits Go.BinOp.and IntKind.u64 n12 (1 : Int)))))] [(0, [lst .ro 1 l6, int .i64 n9])]))))) else A.fail
def s_ENumn {α : Type} (A : Alg α) (kc : List AV → List (Nat × List AV) → α) : α :=
  A.callx 94 [AV.nilp] fun l0 => asC A l0 fun v1 l2 => asI A .u64 v1 fun n3 => asN A l2 (A.chk true (kc [int .i64 (bits Go.BinOp.xor IntKind.i64 (IntKind.i64.wrap (n3.fdiv ((2 : Int) ^ (1 : Nat)))) (IntKind.i64.wrap ((0 : Int) - IntKind.i64.wrap (bits Go.BinOp.and IntKind.u64 n3 (1 : Int)))))] []))
def s_EWord {α : Type} (A : Alg α) (b : List UInt8) (e : Int) (kc : List AV → List (Nat × List AV) → α) : α :=
  A.call 96 [ref 0 0, int .i64 4] [(0, [lst .ro 1 (encB b), int .i64 e])] fun l0 l1 => asC A l1 fun x2 l3 => bif (x2.1.beq 0) then (asC A x2.2 fun v4 l5 => asL A 1 v4 fun l6 => asC A l5 fun v7 l8 => asI A .i64 v7 fun n9 => asN A l8 (asC A l0 fun v10 l11 => asL A 1 v10 fun l12 => asN A l11 (asN A l3 (A.asm (l12.length ≤ maxL) (A.loop 3 [int .u32 0, lst .ro 1 l12, int .i64 (↑l12.length : Int), int .i64 0] [[lst .ro 1 l6, int .i64 n9]] fun j13 l14 l15 => bif (j13.beq 1) then (asC A l14 fun v16 l17 => asI A .u32 v16 fun n18 => asN A l17 (asC A l15 fun l19 l20 => asC A l19 fun v21 l22 => asL A 1 v21 fun l23 => asC A l22 fun v24 l25 => asI A .i64 v24 fun n26 => asN A l25 (asN A l20 (kc [int .u32 n18] [(0, [lst .ro 1 l23, int .i64 n26])])))) else A.fail))))) else A.fail
def s_EWordn {α : Type} (A : Alg α) (kc : List AV → List (Nat × List AV) → α) : α :=
  A.callx 96 [AV.nilp, int .i64 4] fun l0 => asC A l0 fun v1 l2 => asL A 1 v1 fun l3 => asN A l2 (A.asm (l3.length ≤ maxL) (A.loop 3 [int .u32 0, lst .ro 1 l3, int .i64 (↑l3.length : Int), int .i64 0] [] fun j4 l5 l6 => bif (j4.beq 1) then (asC A l5 fun v7 l8 => asI A .u32 v7 fun n9 => asN A l8 (asN A l6 (kc [int .u32 n9] []))) else A.fail))
def s_EText {α : Type} (A : Alg α) (b : List UInt8) (e : Int) (n : Int) (kc : List AV → List (Nat × List AV) → α) : α :=
  A.call 93 [ref 0 0] [(0, [lst .ro 1 (encB b), int .i64 e])] fun l0 l1 => asC A l1 fun x2 l3 => bif (x2.1.beq 0) then (asC A x2.2 fun v4 l5 => asL A 1 v4 fun l6 => asC A l5 fun v7 l8 => asI A .i64 v7 fun n9 => asN A l8 (asC A l0 fun v10 l11 => asL A 1 v10 fun l12 => asN A l11 (asN A l3 (A.call 56 [ref 0 0, int .i64 n] [(0, [lst .ro 1 l6, int .i64 n9])] fun l13 l14 => asC A l14 fun x15 l16 => bif (x15.1.beq 0) then (asC A x15.2 fun v17 l18 => asL A 1 v17 fun l19 => asC A l18 fun v20 l21 => asI A .i64 v20 fun n22 => asN A l21 (asC A l13 fun v23 l24 => asI A .i64 v23 fun n25 => asN A l24 (asN A l16 (A.call 96 [ref 0 0, int .i64 n25] [(0, [lst .ro 1 l19, int .i64 n22])] fun l26 l27 => asC A l27 fun x28 l29 => bif (x28.1.beq 0) then (asC A x28.2 fun v30 l31 => asL A 1 v30 fun l32 => asC A l31 fun v33 l34 => asI A .i64 v33 fun n35 => asN A l34 (asC A l26 fun v36 l37 => asL A 1 v36 fun l38 => asN A l37 (asN A l29 (A.join (fun x39 => x39 (n35 == (5 : Int))) fun b40 => bif b40 then (A.chk true (orFail A (bytesOf l38) fun l41 => kc [str l41] [(0, [lst .ro 1 l12, int .i64 n35])])) else (orFail A (bytesOf l38) fun l42 => kc [str l42] [(0, [lst .ro 1 l32, int .i64 n35])]))))) else A.fail)))) else A.fail)))) else A.fail
def s_ETextn {α : Type} (A : Alg α) (n : Int) (kc : List AV → List (Nat × List AV) → α) : α :=
  A.callx 93 [AV.nilp] fun l0 => asC A l0 fun v1 l2 => asL A 1 v1 fun l3 => asN A l2 (A.callx 56 [AV.nilp, int .i64 n] fun l4 => asC A l4 fun v5 l6 => asI A .i64 v5 fun n7 => asN A l6 (A.callx 96 [AV.nilp, int .i64 n7] fun l8 => asC A l8 fun v9 l10 => asL A 1 v9 fun l11 => asN A l10 (A.join (fun x12 => x12 false) fun b13 => bif b13 then A.fail else (orFail A (bytesOf l11) fun l14 => kc [str l14] []))))
def s_Left {α : Type} (A : Alg α) (b : List UInt8) (e : Int) (kc : List AV → List (Nat × List AV) → α) : α :=
  A.call 93 [ref 0 0] [(0, [lst .ro 1 (encB b), int .i64 e])] fun l0 l1 => asC A l1 fun x2 l3 => bif (x2.1.beq 0) then (asC A x2.2 fun v4 l5 => asL A 1 v4 fun l6 => asC A l5 fun v7 l8 => asI A .i64 v7 fun n9 => asN A l8 (asC A l0 fun v10 l11 => asL A 1 v10 fun l12 => asN A l11 (asN A l3 (A.asm (l12.length ≤ maxL) (kc [int .i64 (↑l12.length : Int)] [(0, [lst .ro 1 l6, int .i64 n9])]))))) else A.fail
def s_Leftn {α : Type} (A : Alg α) (kc : List AV → List (Nat × List AV) → α) : α :=
  A.callx 93 [AV.nilp] fun l0 => asC A l0 fun v1 l2 => asL A 1 v1 fun l3 => asN A l2 (A.asm (l3.length ≤ maxL) (kc [int .i64 (↑l3.length : Int)] []))
def s_Bad {α : Type} (A : Alg α) (b : List UInt8) (e : Int) (kc : List AV → List (Nat × List AV) → α) : α :=
  kc [int .i64 e] [(0, [lst .ro 1 (encB b), int .i64 e])]
def s_Badn {α : Type} (A : Alg α) (kc : List AV → List (Nat × List AV) → α) : α :=
  kc [int .i64 1] []
def s_End {α : Type} (A : Alg α) (b : List UInt8) (e : Int) (kc : List AV → List (Nat × List AV) → α) : α :=
  A.call 63 [ref 0 0] [(0, [lst .ro 1 (encB b), int .i64 e])] fun l0 l1 => asC A l1 fun x2 l3 => bif (x2.1.beq 0) then (asC A x2.2 fun v4 l5 => asL A 1 v4 fun l6 => asC A l5 fun v7 l8 => asI A .i64 v7 fun n9 => asN A l8 (asC A l0 fun v10 l11 => asI A .i64 v10 fun n12 => asN A l11 (asN A l3 (bif (n12 != (0 : Int)) then (kc [int .i64 n12] [(0, [lst .ro 1 l6, int .i64 n9])]) else (A.call 65 [ref 0 0] [(0, [lst .ro 1 l6, int .i64 n9])] fun l13 l14 => asC A l14 fun x15 l16 => bif (x15.1.beq 0) then (asC A x15.2 fun v17 l18 => asL A 1 v17 fun l19 => asC A l18 fun v20 l21 => asI A .i64 v20 fun n22 => asN A l21 (asC A l13 fun v23 l24 => asI A .i64 v23 fun n25 => asN A l24 (asN A l16 (bif (decide (n25 > (0 : Int))) then (kc [int .i64 6] [(0, [lst .ro 1 l19, int .i64 n22])]) else (kc [int .i64 0] [(0, [lst .ro 1 l19, int .i64 n22])]))))) else A.fail))))) else A.fail
def s_Endn {α : Type} (A : Alg α) (kc : List AV → List (Nat × List AV) → α) : α :=
  A.callx 63 [AV.nilp] fun l0 => asC A l0 fun v1 l2 => asI A .i64 v1 fun n3 => asN A l2 (bif (n3 != (0 : Int)) then (kc [int .i64 n3] []) else (A.callx 65 [AV.nilp] fun l4 => asC A l4 fun v5 l6 => asI A .i64 v5 fun n7 => asN A l6 (bif (decide (n7 > (0 : Int))) then (kc [int .i64 6] []) else (kc [int .i64 0] []))))
def s_egroups {α : Type} (A : Alg α) (b : List UInt8) (e : Int) (kc : List AV → List (Nat × List AV) → α) : α :=
  A.join (fun x0 => x0 (e != (0 : Int))) fun b1 => bif b1 then (kc [int .u64 0] [(0, [lst .ro 1 (encB b), int .i64 e])]) else (A.asm ((encB b).length ≤ maxL) (A.loop 5 [int .u64 0, lst .ro 1 (encB b), int .i64 (↑(encB b).length : Int), int .i64 0] [[lst .ro 1 (encB b), int .i64 e]] fun j2 l3 l4 => bif (j2.beq 0) then (asC A l3 fun v5 l6 => asI A .u64 v5 fun n7 => asN A l6 (asC A l4 fun l8 l9 => asC A l8 fun v10 l11 => asL A 1 v10 fun l12 => asC A l11 fun v13 l14 => asI A .i64 v13 fun n15 => asN A l14 (asN A l9 (kc [int .u64 n7] [(0, [lst .ro 1 l12, int .i64 n15])])))) else (bif (j2.beq 1) then (asN A l3 (asC A l4 fun l16 l17 => asC A l16 fun v18 l19 => asL A 1 v18 fun l20 => asC A l19 fun v21 l22 => asI A .i64 v21 fun n23 => asN A l22 (asN A l17 (A.chk true (kc [int .u64 0] [(0, [lst .ro 1 l20, int .i64 5])]))))) else A.fail)))
def s_egroupsn {α : Type} (A : Alg α) (kc : List AV → List (Nat × List AV) → α) : α :=
  A.join (fun x0 => x0 true) fun b1 => bif b1 then (kc [int .u64 0] []) else A.fail
def s_EWordL {α : Type} (A : Alg α) (l : List UInt8) (b : List UInt8) (x : Int) (m : Int) (i : Int) (e : Int) (next : List AV → List (List AV) → α) (kc : Nat → List AV → List (List AV) → α) : α :=
  bif (decide (i < m)) then (A.chk (decide ((0 : Int) ≤ i)) (nthE A (encB l) i.toNat fun v0 => asI A .u8 v0 fun n1 => A.chk true (next [int .u32 (bits Go.BinOp.or IntKind.u32 (IntKind.u32.wrap (x * (2 : Int) ^ (8 : Nat))) (IntKind.u32.wrap n1)), lst .ro 1 (encB l), int .i64 m, int .i64 (IntKind.i64.wrap (i + (1 : Int)))] [[lst .ro 1 (encB b), int .i64 e]]))) else (kc 1 [int .u32 x] [[lst .ro 1 (encB b), int .i64 e]])
def s_EWordLn {α : Type} (A : Alg α) (l : List UInt8) (x : Int) (m : Int) (i : Int) (next : List AV → List (List AV) → α) (kc : Nat → List AV → List (List AV) → α) : α :=
  bif (decide (i < m)) then (A.chk (decide ((0 : Int) ≤ i)) (nthE A (encB l) i.toNat fun v0 => asI A .u8 v0 fun n1 => A.chk true (next [int .u32 (bits Go.BinOp.or IntKind.u32 (IntKind.u32.wrap (x * (2 : Int) ^ (8 : Nat))) (IntKind.u32.wrap n1)), lst .ro 1 (encB l), int .i64 m, int .i64 (IntKind.i64.wrap (i + (1 : Int)))] []))) else (kc 1 [int .u32 x] [])
def s_egroupsL {α : Type} (A : Alg α) (l : List UInt8) (b : List UInt8) (u : Int) (m : Int) (i : Int) (e : Int) (next : List AV → List (List AV) → α) (kc : Nat → List AV → List (List AV) → α) : α :=
  bif (decide (i < m)) then (A.chk (decide ((0 : Int) ≤ i)) (nthE A (encB l) i.toNat fun v0 => asI A .u8 v0 fun n1 => A.join (fun x2 => bif (i == (9 : Int)) then (bif (decide (n1 > (1 : Int))) then (x2 true) else (bif (decide (i > (0 : Int))) then (x2 (n1 == (0 : Int))) else (x2 false))) else (bif (decide (i > (0 : Int))) then (x2 (n1 == (0 : Int))) else (x2 false))) fun b3 => bif b3 then (A.chk true (kc 0 [int .u64 0] [[lst .ro 1 (encB b), int .i64 4]])) else (A.chk (decide ((0 : Int) ≤ IntKind.u64.wrap (IntKind.i64.wrap ((7 : Int) * i)))) (bif (decide (n1 < (128 : Int))) then (A.chk (decide ((0 : Int) ≤ IntKind.i64.wrap (i + (1 : Int))) && decide (IntKind.i64.wrap (i + (1 : Int)) ≤ (↑(encB b).length : Int)) && decide ((↑(encB b).length : Int) ≤ (↑(encB b).length : Int)) && decide ((↑(encB b).length : Int) ≤ (↑(encB b).length : Int))) (A.chk true (kc 0 [int .u64 (bits Go.BinOp.or IntKind.u64 u (IntKind.u64.wrap (IntKind.u64.wrap (bits Go.BinOp.andNot IntKind.u8 n1 (128 : Int)) * (2 : Int) ^ Min.min (IntKind.u64.wrap (IntKind.i64.wrap ((7 : Int) * i))).toNat (64 : Nat))))] [[lst .ro 1 (List.drop (IntKind.i64.wrap (i + (1 : Int))).toNat (List.take (↑(encB b).length : Int).toNat (encB b))), int .i64 e]]))) else (next [int .u64 (bits Go.BinOp.or IntKind.u64 u (IntKind.u64.wrap (IntKind.u64.wrap (bits Go.BinOp.andNot IntKind.u8 n1 (128 : Int)) * (2 : Int) ^ Min.min (IntKind.u64.wrap (IntKind.i64.wrap ((7 : Int) * i))).toNat (64 : Nat)))), lst .ro 1 (encB l), int .i64 m, int .i64 (IntKind.i64.wrap (i + (1 : Int)))] [[lst .ro 1 (encB b), int .i64 e]]))))) else (kc 1 [] [[lst .ro 1 (encB b), int .i64 e]])

theorem t_put (b m : List AV) (e : Int) {r : CR} (h : s_put (OA (tbl E0) (ltbl E0 91 0)) b m e (fun r o => some (r, o)) = some r) : tbl E0 91 [.ref 0 0, .lst .ro 1 m] (penA b e) = some r :=
  tbl_of (body := bodyOf Try.f91) Try.func91 (by kernel_rfl) (by kernel_rfl) (by kernel_rfl) (Eq.trans (by kernel_rfl) h)
theorem t_putn (m : List AV) {r : CR} (h : s_putn (OA (tbl E0) (ltbl E0 91 1)) m (fun r o => some (r, o)) = some r) : tbl E0 91 [.nilp, .lst .ro 1 m] [] = some r :=
  tbl_of (body := bodyOf Try.f91) Try.func91 (by kernel_rfl) (by kernel_rfl) (by kernel_rfl) (Eq.trans (by kernel_rfl) h)
theorem t_groups (b : List AV) (u : Int) (e : Int) {r : CR} (h : s_groups (OA (tbl E0) (ltbl E0 90 0)) b u e (fun r o => some (r, o)) = some r) : tbl E0 90 [.ref 0 0, .int .u64 u] (penA b e) = some r :=
  tbl_of (body := bodyOf Try.f90) Try.func90 (by kernel_rfl) (by kernel_rfl) (by kernel_rfl) (Eq.trans (by kernel_rfl) h)
theorem t_groupsn (u : Int) {r : CR} (h : s_groupsn (OA (tbl E0) (ltbl E0 90 1)) u (fun r o => some (r, o)) = some r) : tbl E0 90 [.nilp, .int .u64 u] [] = some r :=
  tbl_of (body := bodyOf Try.f90) Try.func90 (by kernel_rfl) (by kernel_rfl) (by kernel_rfl) (Eq.trans (by kernel_rfl) h)
theorem t_groupsL (b : List AV) (u : Int) (e : Int) {r : LR} (h : s_groupsL (OA (tbl E0) (ltbl E0 90 0)) b u e (fun vs os => ltbl E0 90 0 0 vs os) (fun j vs os => some (j, vs, os)) = some r) : ltbl E0 90 0 0 [.int .u64 u] [[.lst (.own (.O 0 0)) 1 b, .int .i64 e]] = some r :=
  ltbl_of (body := bodyOf Try.f90) Try.func90 (by kernel_rfl) (by kernel_rfl) (Eq.trans (by kernel_rfl) h)
theorem t_groupsLn (u : Int) {r : LR} (h : s_groupsLn (OA (tbl E0) (ltbl E0 90 1)) u (fun vs os => ltbl E0 90 1 0 vs os) (fun j vs os => some (j, vs, os)) = some r) : ltbl E0 90 1 0 [.nilp, .int .u64 u] [] = some r :=
  ltbl_of (body := bodyOf Try.f90) Try.func90 (by kernel_rfl) (by kernel_rfl) (Eq.trans (by kernel_rfl) h)
theorem t_PCount (b : List AV) (n : Int) (e : Int) {r : CR} (h : s_PCount (OA (tbl E0) (ltbl E0 52 0)) b n e (fun r o => some (r, o)) = some r) : tbl E0 52 [.ref 0 0, .int .i64 n] (penA b e) = some r :=
  tbl_of (body := bodyOf Try.f52) Try.func52 (by kernel_rfl) (by kernel_rfl) (by kernel_rfl) (Eq.trans (by kernel_rfl) h)
theorem t_PCountn (n : Int) {r : CR} (h : s_PCountn (OA (tbl E0) (ltbl E0 52 1)) n (fun r o => some (r, o)) = some r) : tbl E0 52 [.nilp, .int .i64 n] [] = some r :=
  tbl_of (body := bodyOf Try.f52) Try.func52 (by kernel_rfl) (by kernel_rfl) (by kernel_rfl) (Eq.trans (by kernel_rfl) h)
theorem t_PNum (b : List AV) (n : Int) (e : Int) {r : CR} (h : s_PNum (OA (tbl E0) (ltbl E0 133 0)) b n e (fun r o => some (r, o)) = some r) : tbl E0 133 [.ref 0 0, .int .i64 n] (penA b e) = some r :=
  tbl_of (body := bodyOf Try.f133) Try.func133 (by kernel_rfl) (by kernel_rfl) (by kernel_rfl) (Eq.trans (by kernel_rfl) h)
theorem t_PNumn (n : Int) {r : CR} (h : s_PNumn (OA (tbl E0) (ltbl E0 133 1)) n (fun r o => some (r, o)) = some r) : tbl E0 133 [.nilp, .int .i64 n] [] = some r :=
  tbl_of (body := bodyOf Try.f133) Try.func133 (by kernel_rfl) (by kernel_rfl) (by kernel_rfl) (Eq.trans (by kernel_rfl) h)
theorem t_PWord (b : List AV) (n : Int) (e : Int) {r : CR} (h : s_PWord (OA (tbl E0) (ltbl E0 61 0)) b n e (fun r o => some (r, o)) = some r) : tbl E0 61 [.ref 0 0, .int .u32 n] (penA b e) = some r :=
  tbl_of (body := bodyOf Try.f61) Try.func61 (by kernel_rfl) (by kernel_rfl) (by kernel_rfl) (Eq.trans (by kernel_rfl) h)
theorem t_PWordn (n : Int) {r : CR} (h : s_PWordn (OA (tbl E0) (ltbl E0 61 1)) n (fun r o => some (r, o)) = some r) : tbl E0 61 [.nilp, .int .u32 n] [] = some r :=
  tbl_of (body := bodyOf Try.f61) Try.func61 (by kernel_rfl) (by kernel_rfl) (by kernel_rfl) (Eq.trans (by kernel_rfl) h)
theorem t_PText (b : List AV) (s : List UInt8) (e : Int) {r : CR} (h : s_PText (OA (tbl E0) (ltbl E0 53 0)) b s e (fun r o => some (r, o)) = some r) : tbl E0 53 [.ref 0 0, .str s] (penA b e) = some r :=
  tbl_of (body := bodyOf Try.f53) Try.func53 (by kernel_rfl) (by kernel_rfl) (by kernel_rfl) (Eq.trans (by kernel_rfl) h)
theorem t_PTextn (s : List UInt8) {r : CR} (h : s_PTextn (OA (tbl E0) (ltbl E0 53 1)) s (fun r o => some (r, o)) = some r) : tbl E0 53 [.nilp, .str s] [] = some r :=
  tbl_of (body := bodyOf Try.f53) Try.func53 (by kernel_rfl) (by kernel_rfl) (by kernel_rfl) (Eq.trans (by kernel_rfl) h)
theorem t_CloneB (b : List UInt8) {r : CR} (h : s_CloneB (OA (tbl E0) (ltbl E0 92 0)) b (fun r o => some (r, o)) = some r) : tbl E0 92 [.lst .ro 1 (encB b)] [] = some r :=
  tbl_of (body := bodyOf Try.f92) Try.func92 (by kernel_rfl) (by kernel_rfl) (by kernel_rfl) (Eq.trans (by kernel_rfl) h)
theorem t_CloneBnil  {r : CR} (h : s_CloneBnil (OA (tbl E0) (ltbl E0 92 0))  (fun r o => some (r, o)) = some r) : tbl E0 92 [.lst .nil 1 []] [] = some r :=
  tbl_of (body := bodyOf Try.f92) Try.func92 (by kernel_rfl) (by kernel_rfl) (by kernel_rfl) (Eq.trans (by kernel_rfl) h)
theorem t_PDone (b : List AV) (e : Int) {r : CR} (h : s_PDone (OA (tbl E0) (ltbl E0 54 0)) b e (fun r o => some (r, o)) = some r) : tbl E0 54 [.ref 0 0] (penA b e) = some r :=
  tbl_of (body := bodyOf Try.f54) Try.func54 (by kernel_rfl) (by kernel_rfl) (by kernel_rfl) (Eq.trans (by kernel_rfl) h)
theorem t_PDonen  {r : CR} (h : s_PDonen (OA (tbl E0) (ltbl E0 54 1))  (fun r o => some (r, o)) = some r) : tbl E0 54 [.nilp] [] = some r :=
  tbl_of (body := bodyOf Try.f54) Try.func54 (by kernel_rfl) (by kernel_rfl) (by kernel_rfl) (Eq.trans (by kernel_rfl) h)
theorem t_New  {r : CR} (h : s_New (OA (tbl E0) (ltbl E0 51 0))  (fun r o => some (r, o)) = some r) : tbl E0 51 [] [] = some r :=
  tbl_of (body := bodyOf Try.f51) Try.func51 (by kernel_rfl) (by kernel_rfl) (by kernel_rfl) (Eq.trans (by kernel_rfl) h)
theorem t_Of (b : List UInt8) {r : CR} (h : s_Of (OA (tbl E0) (ltbl E0 55 0)) b (fun r o => some (r, o)) = some r) : tbl E0 55 [.lst .ro 1 (encB b)] [] = some r :=
  tbl_of (body := bodyOf Try.f55) Try.func55 (by kernel_rfl) (by kernel_rfl) (by kernel_rfl) (Eq.trans (by kernel_rfl) h)
theorem t_take (b : List UInt8) (e n : Int) {r : CR} (h : s_take (OA (tbl E0) (ltbl E0 96 0)) b e n (fun r o => some (r, o)) = some r) : tbl E0 96 [.ref 0 0, .int .i64 n] (eyeV b e) = some r :=
  tbl_of (body := bodyOf Try.f96) Try.func96 (by kernel_rfl) (by kernel_rfl) (by kernel_rfl) (Eq.trans (by kernel_rfl) h)
theorem t_taken (n : Int) {r : CR} (h : s_taken (OA (tbl E0) (ltbl E0 96 1)) n (fun r o => some (r, o)) = some r) : tbl E0 96 [.nilp, .int .i64 n] [] = some r :=
  tbl_of (body := bodyOf Try.f96) Try.func96 (by kernel_rfl) (by kernel_rfl) (by kernel_rfl) (Eq.trans (by kernel_rfl) h)
theorem t_left (b : List UInt8) (e : Int) {r : CR} (h : s_left (OA (tbl E0) (ltbl E0 93 0)) b e (fun r o => some (r, o)) = some r) : tbl E0 93 [.ref 0 0] (eyeV b e) = some r :=
  tbl_of (body := bodyOf Try.f93) Try.func93 (by kernel_rfl) (by kernel_rfl) (by kernel_rfl) (Eq.trans (by kernel_rfl) h)
theorem t_leftn  {r : CR} (h : s_leftn (OA (tbl E0) (ltbl E0 93 1))  (fun r o => some (r, o)) = some r) : tbl E0 93 [.nilp] [] = some r :=
  tbl_of (body := bodyOf Try.f93) Try.func93 (by kernel_rfl) (by kernel_rfl) (by kernel_rfl) (Eq.trans (by kernel_rfl) h)
theorem t_back (b c : List UInt8) (e f : Int) {r : CR} (h : s_back (OA (tbl E0) (ltbl E0 95 0)) b c e f (fun r o => some (r, o)) = some r) : tbl E0 95 [.ref 0 0, .lst .ro 1 (encB c), .int .i64 f] (eyeV b e) = some r :=
  tbl_of (body := bodyOf Try.f95) Try.func95 (by kernel_rfl) (by kernel_rfl) (by kernel_rfl) (Eq.trans (by kernel_rfl) h)
theorem t_backn (c : List UInt8) (f : Int) {r : CR} (h : s_backn (OA (tbl E0) (ltbl E0 95 1)) c f (fun r o => some (r, o)) = some r) : tbl E0 95 [.nilp, .lst .ro 1 (encB c), .int .i64 f] [] = some r :=
  tbl_of (body := bodyOf Try.f95) Try.func95 (by kernel_rfl) (by kernel_rfl) (by kernel_rfl) (Eq.trans (by kernel_rfl) h)
theorem t_ECount (b : List UInt8) (e n : Int) {r : CR} (h : s_ECount (OA (tbl E0) (ltbl E0 56 0)) b e n (fun r o => some (r, o)) = some r) : tbl E0 56 [.ref 0 0, .int .i64 n] (eyeV b e) = some r :=
  tbl_of (body := bodyOf Try.f56) Try.func56 (by kernel_rfl) (by kernel_rfl) (by kernel_rfl) (Eq.trans (by kernel_rfl) h)
theorem t_ECountn (n : Int) {r : CR} (h : s_ECountn (OA (tbl E0) (ltbl E0 56 1)) n (fun r o => some (r, o)) = some r) : tbl E0 56 [.nilp, .int .i64 n] [] = some r :=
  tbl_of (body := bodyOf Try.f56) Try.func56 (by kernel_rfl) (by kernel_rfl) (by kernel_rfl) (Eq.trans (by kernel_rfl) h)
theorem t_ENum (b : List UInt8) (e : Int) {r : CR} (h : s_ENum (OA (tbl E0) (ltbl E0 137 0)) b e (fun r o => some (r, o)) = some r) : tbl E0 137 [.ref 0 0] (eyeV b e) = some r :=
  tbl_of (body := bodyOf Try.f137) Try.func137 (by kernel_rfl) (by kernel_rfl) (by kernel_rfl) (Eq.trans (by kernel_rfl) h)
theorem t_ENumn  {r : CR} (h : s_ENumn (OA (tbl E0) (ltbl E0 137 1))  (fun r o => some (r, o)) = some r) : tbl E0 137 [.nilp] [] = some r :=
  tbl_of (body := bodyOf Try.f137) Try.func137 (by kernel_rfl) (by kernel_rfl) (by kernel_rfl) (Eq.trans (by kernel_rfl) h)
theorem t_EWord (b : List UInt8) (e : Int) {r : CR} (h : s_EWord (OA (tbl E0) (ltbl E0 62 0)) b e (fun r o => some (r, o)) = some r) : tbl E0 62 [.ref 0 0] (eyeV b e) = some r :=
  tbl_of (body := bodyOf Try.f62) Try.func62 (by kernel_rfl) (by kernel_rfl) (by kernel_rfl) (Eq.trans (by kernel_rfl) h)
theorem t_EWordn  {r : CR} (h : s_EWordn (OA (tbl E0) (ltbl E0 62 1))  (fun r o => some (r, o)) = some r) : tbl E0 62 [.nilp] [] = some r :=
  tbl_of (body := bodyOf Try.f62) Try.func62 (by kernel_rfl) (by kernel_rfl) (by kernel_rfl) (Eq.trans (by kernel_rfl) h)
theorem t_EText (b : List UInt8) (e n : Int) {r : CR} (h : s_EText (OA (tbl E0) (ltbl E0 57 0)) b e n (fun r o => some (r, o)) = some r) : tbl E0 57 [.ref 0 0, .int .i64 n] (eyeV b e) = some r :=
  tbl_of (body := bodyOf Try.f57) Try.func57 (by kernel_rfl) (by kernel_rfl) (by kernel_rfl) (Eq.trans (by kernel_rfl) h)
theorem t_ETextn (n : Int) {r : CR} (h : s_ETextn (OA (tbl E0) (ltbl E0 57 1)) n (fun r o => some (r, o)) = some r) : tbl E0 57 [.nilp, .int .i64 n] [] = some r :=
  tbl_of (body := bodyOf Try.f57) Try.func57 (by kernel_rfl) (by kernel_rfl) (by kernel_rfl) (Eq.trans (by kernel_rfl) h)
theorem t_Left (b : List UInt8) (e : Int) {r : CR} (h : s_Left (OA (tbl E0) (ltbl E0 65 0)) b e (fun r o => some (r, o)) = some r) : tbl E0 65 [.ref 0 0] (eyeV b e) = some r :=
  tbl_of (body := bodyOf Try.f65) Try.func65 (by kernel_rfl) (by kernel_rfl) (by kernel_rfl) (Eq.trans (by kernel_rfl) h)
theorem t_Leftn  {r : CR} (h : s_Leftn (OA (tbl E0) (ltbl E0 65 1))  (fun r o => some (r, o)) = some r) : tbl E0 65 [.nilp] [] = some r :=
  tbl_of (body := bodyOf Try.f65) Try.func65 (by kernel_rfl) (by kernel_rfl) (by kernel_rfl) (Eq.trans (by kernel_rfl) h)
theorem t_Bad (b : List UInt8) (e : Int) {r : CR} (h : s_Bad (OA (tbl E0) (ltbl E0 63 0)) b e (fun r o => some (r, o)) = some r) : tbl E0 63 [.ref 0 0] (eyeV b e) = some r :=
  tbl_of (body := bodyOf Try.f63) Try.func63 (by kernel_rfl) (by kernel_rfl) (by kernel_rfl) (Eq.trans (by kernel_rfl) h)
theorem t_Badn  {r : CR} (h : s_Badn (OA (tbl E0) (ltbl E0 63 1))  (fun r o => some (r, o)) = some r) : tbl E0 63 [.nilp] [] = some r :=
  tbl_of (body := bodyOf Try.f63) Try.func63 (by kernel_rfl) (by kernel_rfl) (by kernel_rfl) (Eq.trans (by kernel_rfl) h)
theorem t_End (b : List UInt8) (e : Int) {r : CR} (h : s_End (OA (tbl E0) (ltbl E0 58 0)) b e (fun r o => some (r, o)) = some r) : tbl E0 58 [.ref 0 0] (eyeV b e) = some r :=
  tbl_of (body := bodyOf Try.f58) Try.func58 (by kernel_rfl) (by kernel_rfl) (by kernel_rfl) (Eq.trans (by kernel_rfl) h)
theorem t_Endn  {r : CR} (h : s_Endn (OA (tbl E0) (ltbl E0 58 1))  (fun r o => some (r, o)) = some r) : tbl E0 58 [.nilp] [] = some r :=
  tbl_of (body := bodyOf Try.f58) Try.func58 (by kernel_rfl) (by kernel_rfl) (by kernel_rfl) (Eq.trans (by kernel_rfl) h)
theorem t_egroups (b : List UInt8) (e : Int) {r : CR} (h : s_egroups (OA (tbl E0) (ltbl E0 94 0)) b e (fun r o => some (r, o)) = some r) : tbl E0 94 [.ref 0 0] (eyeV b e) = some r :=
  tbl_of (body := bodyOf Try.f94) Try.func94 (by kernel_rfl) (by kernel_rfl) (by kernel_rfl) (Eq.trans (by kernel_rfl) h)
theorem t_egroupsn  {r : CR} (h : s_egroupsn (OA (tbl E0) (ltbl E0 94 1))  (fun r o => some (r, o)) = some r) : tbl E0 94 [.nilp] [] = some r :=
  tbl_of (body := bodyOf Try.f94) Try.func94 (by kernel_rfl) (by kernel_rfl) (by kernel_rfl) (Eq.trans (by kernel_rfl) h)
theorem t_EWordL (l b : List UInt8) (x m i e : Int) {r : LR} (h : s_EWordL (OA (tbl E0) (ltbl E0 62 0)) l b x m i e (fun vs os => ltbl E0 62 0 3 vs os) (fun j vs os => some (j, vs, os)) = some r) : ltbl E0 62 0 3 [.int .u32 x, .lst .ro 1 (encB l), .int .i64 m, .int .i64 i] [[.lst .ro 1 (encB b), .int .i64 e]] = some r :=
  ltbl_of (body := bodyOf Try.f62) Try.func62 (by kernel_rfl) (by kernel_rfl) (Eq.trans (by kernel_rfl) h)
theorem t_EWordLn (l : List UInt8) (x m i : Int) {r : LR} (h : s_EWordLn (OA (tbl E0) (ltbl E0 62 1)) l x m i (fun vs os => ltbl E0 62 1 3 vs os) (fun j vs os => some (j, vs, os)) = some r) : ltbl E0 62 1 3 [.int .u32 x, .lst .ro 1 (encB l), .int .i64 m, .int .i64 i] [] = some r :=
  ltbl_of (body := bodyOf Try.f62) Try.func62 (by kernel_rfl) (by kernel_rfl) (Eq.trans (by kernel_rfl) h)
theorem t_egroupsL (l b : List UInt8) (u m i e : Int) {r : LR} (h : s_egroupsL (OA (tbl E0) (ltbl E0 94 0)) l b u m i e (fun vs os => ltbl E0 94 0 5 vs os) (fun j vs os => some (j, vs, os)) = some r) : ltbl E0 94 0 5 [.int .u64 u, .lst .ro 1 (encB l), .int .i64 m, .int .i64 i] [[.lst .ro 1 (encB b), .int .i64 e]] = some r :=
  ltbl_of (body := bodyOf Try.f94) Try.func94 (by kernel_rfl) (by kernel_rfl) (Eq.trans (by kernel_rfl) h)
end Go.Proofs.Ythmocicjocjdoaa.V
