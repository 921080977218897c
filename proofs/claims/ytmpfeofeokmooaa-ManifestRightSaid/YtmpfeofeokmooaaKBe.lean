/- Whether any manifest may be, and whether two are the same, is as the document says. -/
import Derived.Test.YtmpfeofeokmooaaRows
import Derived.JoinedCond
import Derived.SizedLaws
import Derived.Test.YtmpfeofeokmooaaKBd
set_option linter.unusedVariables false
set_option linter.unusedSimpArgs false
namespace Go.Proofs.Ytmpfeofeokmooaa.V
open Go
open AV (int lst agg str bool ref clo)
open List (map)
def s_mGreat {α : Type} (A : Alg α) (x : Man) (kc : List AV → List (Nat × List AV) → α) : α :=
  A.chk true (A.loop 2 [int .i64 0] [[int .i64 x.ver, int .i64 x.sch.ver, lst .ro 2 (map frmV x.sch.forms), lst .ro 5 (map lnkV x.links), int .i64 x.img]] fun j0 l1 l2 => bif (j0.beq 0) then (asC A l1 fun v3 l4 => asB A v3 fun b5 => asN A l4 (asN A l2 (kc [bool b5] []))) else (bif (j0.beq 1) then (asN A l1 (asC A l2 fun l6 l7 => asC A l6 fun v8 l9 => asI A .i64 v8 fun n10 => asC A l9 fun v11 l12 => asI A .i64 v11 fun n13 => asC A l12 fun v14 l15 => asL A 2 v14 fun l16 => asC A l15 fun v17 l18 => asL A 5 v17 fun l19 => asC A l18 fun v20 l21 => asI A .i64 v20 fun n22 => asN A l21 (asN A l7 (A.join (fun x23 => A.asm (l19.length ≤ maxL) (bif (decide ((↑l19.length : Int) > (12 : Int))) then (x23 true) else (A.chk true (A.chk true (A.chk true (A.callx 13 [agg [int .i64 0, int .i64 n13, lst .ro 2 l16, lst .ro 16 [], lst .ro 16 []]] fun l24 => asC A l24 fun v25 l26 => asB A v25 fun b27 => asN A l26 (x23 b27))))))) fun b28 => kc [bool b28] [])))) else A.fail))
def s_mGreatL {α : Type} (A : Alg α) (x : Man) (i : Int) (next : List AV → List (List AV) → α) (kc : Nat → List AV → List (List AV) → α) : α :=
  A.join (fun x0 => A.asm ((map lnkV x.links).length ≤ maxL) (bif (decide (i < (↑(map lnkV x.links).length : Int))) then (x0 (decide (i < (13 : Int)))) else (x0 false))) fun b1 => bif b1 then (A.chk (decide ((0 : Int) ≤ i)) (nthE A (map lnkV x.links) i.toNat fun v2 => asA A v2 fun l3 => asC A l3 fun v4 l5 => asI A .i64 v4 fun n6 => asC A l5 fun v7 l8 => asI A .i64 v7 fun n9 => asC A l8 fun v10 l11 => asL A 2 v10 fun l12 => asC A l11 fun v13 l14 => asL A 16 v13 fun l15 => asC A l14 fun v16 l17 => asL A 16 v16 fun l18 => asN A l17 (A.chk true (A.callx 13 [agg [int .i64 n6, int .i64 n9, lst .ro 2 l12, lst .ro 16 l15, lst .ro 16 l18]] fun l19 => asC A l19 fun v20 l21 => asB A v20 fun b22 => asN A l21 (bif b22 then (kc 0 [bool true] []) else (next [int .i64 (IntKind.i64.wrap (i + (1 : Int)))] [[int .i64 x.ver, int .i64 x.sch.ver, lst .ro 2 (map frmV x.sch.forms), lst .ro 5 (map lnkV x.links), int .i64 x.img]])))))) else (kc 1 [] [[int .i64 x.ver, int .i64 x.sch.ver, lst .ro 2 (map frmV x.sch.forms), lst .ro 5 (map lnkV x.links), int .i64 x.img]])
def s_mRight {α : Type} (A : Alg α) (x : Man) (kc : List AV → List (Nat × List AV) → α) : α :=
  A.chk true (A.chk true (A.callx 34 [agg [int .i64 x.ver, int .i64 x.sch.ver, lst .ro 2 (map frmV x.sch.forms), lst .ro 5 (map lnkV x.links), int .i64 x.img]] fun l0 => asC A l0 fun v1 l2 => asL A 1 v1 fun l3 => asC A l2 fun v4 l5 => asI A .i64 v4 fun n6 => asN A l5 (kc [bool (n6 == (0 : Int))] [])))
def s_ymRight {α : Type} (A : Alg α) (x : Man) (kc : List AV → List (Nat × List AV) → α) : α :=
  A.chk true (A.loop 2 [int .i64 0] [[int .i64 x.ver, int .i64 x.sch.ver, lst .ro 2 (map frmV x.sch.forms), lst .ro 5 (map lnkV x.links), int .i64 x.img]] fun j0 l1 l2 => bif (j0.beq 0) then (asC A l1 fun v3 l4 => asB A v3 fun b5 => asN A l4 (asN A l2 (kc [bool b5] []))) else (bif (j0.beq 1) then (asN A l1 (asC A l2 fun l6 l7 => asC A l6 fun v8 l9 => asI A .i64 v8 fun n10 => asC A l9 fun v11 l12 => asI A .i64 v11 fun n13 => asC A l12 fun v14 l15 => asL A 2 v14 fun l16 => asC A l15 fun v17 l18 => asL A 5 v17 fun l19 => asC A l18 fun v20 l21 => asI A .i64 v20 fun n22 => asN A l21 (asN A l7 (A.join (fun x23 => bif (decide (n10 ≥ (1 : Int))) then (bif (decide (n10 ≤ (65535 : Int))) then (A.chk true (A.callx 37 [agg [int .i64 n13, lst .ro 2 l16]] fun l24 => asC A l24 fun v25 l26 => asB A v25 fun b27 => asN A l26 (bif b27 then (A.asm (l19.length ≤ maxL) (bif (decide ((↑l19.length : Int) ≤ (8 : Int))) then (bif (decide (n22 ≥ (0 : Int))) then (x23 (decide (n22 ≤ (131072 : Int)))) else (x23 false)) else (x23 false))) else (x23 false)))) else (x23 false)) else (x23 false)) fun b28 => kc [bool b28] [])))) else A.fail))
def s_ymRightL {α : Type} (A : Alg α) (x : Man) (i : Int) (next : List AV → List (List AV) → α) (kc : Nat → List AV → List (List AV) → α) : α :=
  A.asm ((map lnkV x.links).length ≤ maxL) (bif (decide (i < (↑(map lnkV x.links).length : Int))) then (A.chk (decide ((0 : Int) ≤ i)) (nthE A (map lnkV x.links) i.toNat fun v0 => asA A v0 fun l1 => asC A l1 fun v2 l3 => asI A .i64 v2 fun n4 => asC A l3 fun v5 l6 => asI A .i64 v5 fun n7 => asC A l6 fun v8 l9 => asL A 2 v8 fun l10 => asC A l9 fun v11 l12 => asL A 16 v11 fun l13 => asC A l12 fun v14 l15 => asL A 16 v14 fun l16 => asN A l15 (A.chk true (A.callx 16 [agg [int .i64 n4, int .i64 n7, lst .ro 2 l10, lst .ro 16 l13, lst .ro 16 l16]] fun l17 => asC A l17 fun v18 l19 => asB A v18 fun b20 => asN A l19 (bif (!b20) then (kc 0 [bool false] []) else (next [int .i64 (IntKind.i64.wrap (i + (1 : Int)))] [[int .i64 x.ver, int .i64 x.sch.ver, lst .ro 2 (map frmV x.sch.forms), lst .ro 5 (map lnkV x.links), int .i64 x.img]])))))) else (kc 1 [] [[int .i64 x.ver, int .i64 x.sch.ver, lst .ro 2 (map frmV x.sch.forms), lst .ro 5 (map lnkV x.links), int .i64 x.img]]))
def s_mSame {α : Type} (A : Alg α) (x : Man) (y : Man) (kc : List AV → List (Nat × List AV) → α) : α :=
  A.chk true (A.chk true (A.chk true (A.chk true (A.chk true (A.chk true (A.join (fun x0 => A.chk true (bif (IntKind.i64.wrap (x.ver - y.ver) == (0 : Int) && (IntKind.i64.wrap (x.img - y.img) == (0 : Int) && true)) then (A.chk true (A.chk true (A.callx 53 [agg [int .i64 x.sch.ver, lst .ro 2 (map frmV x.sch.forms)], agg [int .i64 y.sch.ver, lst .ro 2 (map frmV y.sch.forms)]] fun l1 => asC A l1 fun v2 l3 => asB A v2 fun b4 => asN A l3 (bif b4 then (A.callx 56 [lst .ro 5 (map lnkV x.links), lst .ro 5 (map lnkV y.links), clo 17 []] fun l5 => asC A l5 fun v6 l7 => asB A v6 fun b8 => asN A l7 (x0 b8)) else (x0 false))))) else (x0 false))) fun b9 => kc [bool b9] []))))))
def s_ymSame {α : Type} (A : Alg α) (x : Man) (y : Man) (kc : List AV → List (Nat × List AV) → α) : α :=
  A.chk true (A.chk true (A.join (fun x0 => bif (x.ver != y.ver) then (x0 true) else (bif (x.img != y.img) then (x0 true) else (A.chk true (A.chk true (A.callx 31 [agg [int .i64 x.sch.ver, lst .ro 2 (map frmV x.sch.forms)], agg [int .i64 y.sch.ver, lst .ro 2 (map frmV y.sch.forms)]] fun l1 => asC A l1 fun v2 l3 => asB A v2 fun b4 => asN A l3 (bif (!b4) then (x0 true) else (A.asm ((map lnkV x.links).length ≤ maxL) (A.asm ((map lnkV y.links).length ≤ maxL) (x0 ((↑(map lnkV x.links).length : Int) != (↑(map lnkV y.links).length : Int))))))))))) fun b5 => bif b5 then (kc [bool false] []) else (A.loop 4 [int .i64 0] [[int .i64 x.ver, int .i64 x.sch.ver, lst .ro 2 (map frmV x.sch.forms), lst .ro 5 (map lnkV x.links), int .i64 x.img], [int .i64 y.ver, int .i64 y.sch.ver, lst .ro 2 (map frmV y.sch.forms), lst .ro 5 (map lnkV y.links), int .i64 y.img]] fun j6 l7 l8 => bif (j6.beq 0) then (asC A l7 fun v9 l10 => asB A v9 fun b11 => asN A l10 (asN A l8 (kc [bool b11] []))) else (bif (j6.beq 1) then (asN A l7 (asN A l8 (kc [bool true] []))) else A.fail))))
def s_ymSameL {α : Type} (A : Alg α) (x : Man) (y : Man) (i : Int) (next : List AV → List (List AV) → α) (kc : Nat → List AV → List (List AV) → α) : α :=
  A.asm ((map lnkV x.links).length ≤ maxL) (bif (decide (i < (↑(map lnkV x.links).length : Int))) then (A.chk (decide ((0 : Int) ≤ i)) (nthE A (map lnkV x.links) i.toNat fun v0 => asA A v0 fun l1 => asC A l1 fun v2 l3 => asI A .i64 v2 fun n4 => asC A l3 fun v5 l6 => asI A .i64 v5 fun n7 => asC A l6 fun v8 l9 => asL A 2 v8 fun l10 => asC A l9 fun v11 l12 => asL A 16 v11 fun l13 => asC A l12 fun v14 l15 => asL A 16 v14 fun l16 => asN A l15 (A.chk true (A.chk (decide ((0 : Int) ≤ i)) (nthE A (map lnkV y.links) i.toNat fun v17 => asA A v17 fun l18 => asC A l18 fun v19 l20 => asI A .i64 v19 fun n21 => asC A l20 fun v22 l23 => asI A .i64 v22 fun n24 => asC A l23 fun v25 l26 => asL A 2 v25 fun l27 => asC A l26 fun v28 l29 => asL A 16 v28 fun l30 => asC A l29 fun v31 l32 => asL A 16 v31 fun l33 => asN A l32 (A.chk true (A.callx 18 [agg [int .i64 n4, int .i64 n7, lst .ro 2 l10, lst .ro 16 l13, lst .ro 16 l16], agg [int .i64 n21, int .i64 n24, lst .ro 2 l27, lst .ro 16 l30, lst .ro 16 l33]] fun l34 => asC A l34 fun v35 l36 => asB A v35 fun b37 => asN A l36 (bif (!b37) then (kc 0 [bool false] []) else (next [int .i64 (IntKind.i64.wrap (i + (1 : Int)))] [[int .i64 x.ver, int .i64 x.sch.ver, lst .ro 2 (map frmV x.sch.forms), lst .ro 5 (map lnkV x.links), int .i64 x.img], [int .i64 y.ver, int .i64 y.sch.ver, lst .ro 2 (map frmV y.sch.forms), lst .ro 5 (map lnkV y.links), int .i64 y.img]]))))))))) else (kc 1 [] []))
def s_EqFL {α : Type} (A : Alg α) (x : List Lnk) (y : List Lnk) (kc : List AV → List (Nat × List AV) → α) : α :=
  A.asm ((map lnkV x).length ≤ maxL) (A.asm ((map lnkV y).length ≤ maxL) (bif ((↑(map lnkV x).length : Int) != (↑(map lnkV y).length : Int)) then (kc [bool false] []) else (A.asm ((map lnkV x).length ≤ maxL) (A.loop 4 [lst .ro 5 (map lnkV y), clo 17 [], lst .ro 5 (map lnkV x), int .i64 (↑(map lnkV x).length : Int), int .i64 0] [] fun j0 l1 l2 => bif (j0.beq 0) then (asC A l1 fun v3 l4 => asB A v3 fun b5 => asN A l4 (asN A l2 (kc [bool b5] []))) else (bif (j0.beq 1) then (asN A l1 (asN A l2 (kc [bool true] []))) else A.fail)))))
def s_EqFLL {α : Type} (A : Alg α) (x : List Lnk) (y : List Lnk) (m : Int) (i : Int) (next : List AV → List (List AV) → α) (kc : Nat → List AV → List (List AV) → α) : α :=
  bif (decide (i < m)) then (A.chk (decide ((0 : Int) ≤ i)) (nthE A (map lnkV x) i.toNat fun v0 => asA A v0 fun l1 => asC A l1 fun v2 l3 => asI A .i64 v2 fun n4 => asC A l3 fun v5 l6 => asI A .i64 v5 fun n7 => asC A l6 fun v8 l9 => asL A 2 v8 fun l10 => asC A l9 fun v11 l12 => asL A 16 v11 fun l13 => asC A l12 fun v14 l15 => asL A 16 v14 fun l16 => asN A l15 (A.chk true (A.chk true (A.chk true (A.chk (decide ((0 : Int) ≤ i)) (nthE A (map lnkV y) i.toNat fun v17 => asA A v17 fun l18 => asC A l18 fun v19 l20 => asI A .i64 v19 fun n21 => asC A l20 fun v22 l23 => asI A .i64 v22 fun n24 => asC A l23 fun v25 l26 => asL A 2 v25 fun l27 => asC A l26 fun v28 l29 => asL A 16 v28 fun l30 => asC A l29 fun v31 l32 => asL A 16 v31 fun l33 => asN A l32 (A.chk true (A.chk true (A.chk true (A.chk true (A.chk true (A.callx 17 [agg [int .i64 n4, int .i64 n7, lst .ro 2 l10, lst .ro 16 l13, lst .ro 16 l16], agg [int .i64 n21, int .i64 n24, lst .ro 2 l27, lst .ro 16 l30, lst .ro 16 l33]] fun l34 => asC A l34 fun v35 l36 => asB A v35 fun b37 => asN A l36 (bif (!b37) then (kc 0 [bool false] []) else (next [lst .ro 5 (map lnkV y), clo 17 [], lst .ro 5 (map lnkV x), int .i64 m, int .i64 (IntKind.i64.wrap (i + (1 : Int)))] []))))))))))))))) else (kc 1 [] [])
def s_mPrint {α : Type} (A : Alg α) (x : Man) (kc : List AV → List (Nat × List AV) → α) : α :=
  A.chk true (A.chk true (A.callx 36 [agg [int .i64 x.sch.ver, lst .ro 2 (map frmV x.sch.forms)]] fun l0 => asC A l0 fun v1 l2 => asL A 1 v1 fun l3 => asC A l2 fun v4 l5 => asI A .i64 v4 fun n6 => asN A l5 (A.join (fun x7 => bif (n6 != (0 : Int)) then (x7 true) else (bif (decide (x.ver < (1 : Int))) then (x7 true) else (bif (decide (x.ver > (65535 : Int))) then (x7 true) else (A.asm ((map lnkV x.links).length ≤ maxL) (bif (decide ((↑(map lnkV x.links).length : Int) > (8 : Int))) then (x7 true) else (bif (decide (x.img < (0 : Int))) then (x7 true) else (x7 (decide (x.img > (131072 : Int)))))))))) fun b8 => bif b8 then (kc [lst .ro 1 [], int .i64 2] []) else (A.call 58 [] [] fun l9 l10 => asC A l9 fun v11 l12 => asRef0 A v11 fun o13 => bif (o13.beq 64) then (asC A l10 fun x14 l15 => bif (x14.1.beq 64) then (asC A x14.2 fun v16 l17 => asOwn A 1 v16 fun x18 l19 => asC A l17 fun v20 l21 => asI A .i64 v20 fun n22 => asN A l21 (asN A l12 (asN A l15 (A.call 82 [ref 0 0, int .u32 1230197842] [(0, [lst (.own (.E 0 0)) 1 l19, int .i64 n22])] fun l23 l24 => asC A l24 fun x25 l26 => bif (x25.1.beq 0) then (asC A x25.2 fun v27 l28 => asOwn A 1 v27 fun x29 l30 => asC A l28 fun v31 l32 => asI A .i64 v31 fun n33 => asN A l32 (asN A l23 (asN A l26 (A.call 59 [ref 0 0, int .i64 x.ver] [(0, [lst (.own (.E 0 0)) 1 l30, int .i64 n33])] fun l34 l35 => asC A l35 fun x36 l37 => bif (x36.1.beq 0) then (asC A x36.2 fun v38 l39 => asOwn A 1 v38 fun x40 l41 => asC A l39 fun v42 l43 => asI A .i64 v42 fun n44 => asN A l43 (asN A l34 (asN A l37 (orFail A (bytesOf l3) fun l45 => A.call 60 [ref 0 0, str l45] [(0, [lst (.own (.E 0 0)) 1 l41, int .i64 n44])] fun l46 l47 => asC A l47 fun x48 l49 => bif (x48.1.beq 0) then (asC A x48.2 fun v50 l51 => asOwn A 1 v50 fun x52 l53 => asC A l51 fun v54 l55 => asI A .i64 v54 fun n56 => asN A l55 (asN A l46 (asN A l49 (A.asm ((map lnkV x.links).length ≤ maxL) (A.call 59 [ref 0 0, int .i64 (↑(map lnkV x.links).length : Int)] [(0, [lst (.own (.E 0 0)) 1 l53, int .i64 n56])] fun l57 l58 => asC A l58 fun x59 l60 => bif (x59.1.beq 0) then (asC A x59.2 fun v61 l62 => asOwn A 1 v61 fun x63 l64 => asC A l62 fun v65 l66 => asI A .i64 v65 fun n67 => asN A l66 (asN A l57 (asN A l60 (A.asm ((map lnkV x.links).length ≤ maxL) (A.loop 10 [lst .ro 5 (map lnkV x.links), int .i64 (↑(map lnkV x.links).length : Int), int .i64 0] [[int .i64 x.ver, int .i64 x.sch.ver, lst .ro 2 (map frmV x.sch.forms), lst .ro 5 (map lnkV x.links), int .i64 x.img], [lst (.own (.O 1045 0)) 1 l64, int .i64 n67]] fun j68 l69 l70 => bif (j68.beq 0) then (asC A l69 fun v71 l72 => asL A 1 v71 fun l73 => asC A l72 fun v74 l75 => asI A .i64 v74 fun n76 => asN A l75 (asN A l70 (kc [lst .ro 1 l73, int .i64 n76] []))) else (bif (j68.beq 1) then (asN A l69 (asC A l70 fun l77 l78 => asC A l77 fun v79 l80 => asI A .i64 v79 fun n81 => asC A l80 fun v82 l83 => asI A .i64 v82 fun n84 => asC A l83 fun v85 l86 => asL A 2 v85 fun l87 => asC A l86 fun v88 l89 => asL A 5 v88 fun l90 => asC A l89 fun v91 l92 => asI A .i64 v91 fun n93 => asN A l92 (asC A l78 fun l94 l95 => asC A l94 fun v96 l97 => asOwn A 1 v96 fun x98 l99 => bif (x98.beq (.O (1045 : Nat) (0 : Nat))) then (asC A l97 fun v100 l101 => asI A .i64 v100 fun n102 => asN A l101 (asN A l95 (A.call 59 [ref 0 0, int .i64 n93] [(0, [lst (.own (.E 0 0)) 1 l99, int .i64 n102])] fun l103 l104 => asC A l104 fun x105 l106 => bif (x105.1.beq 0) then (asC A x105.2 fun v107 l108 => asOwn A 1 v107 fun x109 l110 => asC A l108 fun v111 l112 => asI A .i64 v111 fun n113 => asN A l112 (asN A l103 (asN A l106 (A.call 61 [ref 0 0] [(0, [lst (.own (.E 0 0)) 1 l110, int .i64 n113])] fun l114 l115 => asC A l115 fun x116 l117 => bif (x116.1.beq 0) then (asC A x116.2 fun v118 l119 => asOwn A 1 v118 fun x120 l121 => asC A l119 fun v122 l123 => asI A .i64 v122 fun n124 => asN A l123 (asC A l114 fun v125 l126 => asL A 1 v125 fun l127 => asC A l126 fun v128 l129 => asI A .i64 v128 fun n130 => asN A l129 (asN A l117 (kc [lst .ro 1 l127, int .i64 n130] [])))) else A.fail)))) else A.fail))) else A.fail))) else A.fail)))))) else A.fail))))) else A.fail)))) else A.fail)))) else A.fail)))) else A.fail) else A.fail))))
def s_mPrintL {α : Type} (A : Alg α) (x : Man) (l : List Lnk) (b : List AV) (m : Int) (i : Int) (e : Int) (next : List AV → List (List AV) → α) (kc : Nat → List AV → List (List AV) → α) : α :=
  bif (decide (i < m)) then (A.chk (decide ((0 : Int) ≤ i)) (nthE A (map lnkV l) i.toNat fun v0 => asA A v0 fun l1 => asC A l1 fun v2 l3 => asI A .i64 v2 fun n4 => asC A l3 fun v5 l6 => asI A .i64 v5 fun n7 => asC A l6 fun v8 l9 => asL A 2 v8 fun l10 => asC A l9 fun v11 l12 => asL A 16 v11 fun l13 => asC A l12 fun v14 l15 => asL A 16 v14 fun l16 => asN A l15 (A.chk true (A.chk true (A.chk true (A.chk true (A.callx 25 [agg [int .i64 n4, int .i64 n7, lst .ro 2 l10, lst .ro 16 l13, lst .ro 16 l16]] fun l17 => asC A l17 fun v18 l19 => asL A 1 v18 fun l20 => asC A l19 fun v21 l22 => asI A .i64 v21 fun n23 => asN A l22 (bif (n23 != (0 : Int)) then (kc 0 [lst .ro 1 [], int .i64 2] []) else (orFail A (bytesOf l20) fun l24 => A.call 60 [ref 0 0, str l24] [(0, [lst (.own (.E 0 0)) 1 b, int .i64 e])] fun l25 l26 => asC A l26 fun x27 l28 => bif (x27.1.beq 0) then (asC A x27.2 fun v29 l30 => asOwn A 1 v29 fun x31 l32 => asC A l30 fun v33 l34 => asI A .i64 v33 fun n35 => asN A l34 (asN A l25 (asN A l28 (next [lst .ro 5 (map lnkV l), int .i64 m, int .i64 (IntKind.i64.wrap (i + (1 : Int)))] [[int .i64 x.ver, int .i64 x.sch.ver, lst .ro 2 (map frmV x.sch.forms), lst .ro 5 (map lnkV x.links), int .i64 x.img], [lst (.own (.O 1045 0)) 1 l32, int .i64 n35]])))) else A.fail))))))))) else (kc 1 [] [[int .i64 x.ver, int .i64 x.sch.ver, lst .ro 2 (map frmV x.sch.forms), lst .ro 5 (map lnkV x.links), int .i64 x.img], [lst (.own (.O 1045 0)) 1 b, int .i64 e]])
def s_ManifestRight {α : Type} (A : Alg α) (x : Man) (y : Man) (kc : List AV → List (Nat × List AV) → α) : α :=
  A.chk true (A.chk true (A.join (fun x0 => A.chk true (A.callx 19 [agg [int .i64 x.ver, int .i64 x.sch.ver, lst .ro 2 (map frmV x.sch.forms), lst .ro 5 (map lnkV x.links), int .i64 x.img]] fun l1 => asC A l1 fun v2 l3 => asB A v2 fun b4 => asN A l3 (bif b4 then (x0 true) else (A.chk true (A.callx 19 [agg [int .i64 y.ver, int .i64 y.sch.ver, lst .ro 2 (map frmV y.sch.forms), lst .ro 5 (map lnkV y.links), int .i64 y.img]] fun l5 => asC A l5 fun v6 l7 => asB A v6 fun b8 => asN A l7 (x0 b8)))))) fun b9 => bif b9 then (A.callx 20 [] fun l10 => asC A l10 fun v11 l12 => asB A v11 fun b13 => asN A l12 (kc [bool b13] [])) else (A.chk true (A.chk true (A.both (A.chk true (A.chk true (A.chk true (A.chk true (A.chk true (A.chk true (A.callx 21 [agg [int .i64 x.ver, int .i64 x.sch.ver, lst .ro 2 (map frmV x.sch.forms), lst .ro 5 (map lnkV x.links), int .i64 x.img]] fun l14 => asC A l14 fun v15 l16 => asB A v15 fun b17 => asN A l16 (A.callx 22 [agg [int .i64 x.ver, int .i64 x.sch.ver, lst .ro 2 (map frmV x.sch.forms), lst .ro 5 (map lnkV x.links), int .i64 x.img]] fun l18 => asC A l18 fun v19 l20 => asB A v19 fun b21 => asN A l20 (bif (b17 == b21) then (A.chk true (A.chk true (A.chk true (A.chk true (A.callx 23 [agg [int .i64 x.ver, int .i64 x.sch.ver, lst .ro 2 (map frmV x.sch.forms), lst .ro 5 (map lnkV x.links), int .i64 x.img], agg [int .i64 y.ver, int .i64 y.sch.ver, lst .ro 2 (map frmV y.sch.forms), lst .ro 5 (map lnkV y.links), int .i64 y.img]] fun l22 => asC A l22 fun v23 l24 => asB A v23 fun b25 => asN A l24 (A.callx 24 [agg [int .i64 x.ver, int .i64 x.sch.ver, lst .ro 2 (map frmV x.sch.forms), lst .ro 5 (map lnkV x.links), int .i64 x.img], agg [int .i64 y.ver, int .i64 y.sch.ver, lst .ro 2 (map frmV y.sch.forms), lst .ro 5 (map lnkV y.links), int .i64 y.img]] fun l26 => asC A l26 fun v27 l28 => asB A v27 fun b29 => asN A l28 (bif (b25 == b29) then (A.chk true (A.chk true (A.callx 23 [agg [int .i64 x.ver, int .i64 x.sch.ver, lst .ro 2 (map frmV x.sch.forms), lst .ro 5 (map lnkV x.links), int .i64 x.img], agg [int .i64 x.ver, int .i64 x.sch.ver, lst .ro 2 (map frmV x.sch.forms), lst .ro 5 (map lnkV x.links), int .i64 x.img]] fun l30 => asC A l30 fun v31 l32 => asB A v31 fun b33 => asN A l32 (bif b33 then (A.callx 20 [] fun l34 => asC A l34 fun v35 l36 => asB A v35 fun b37 => asN A l36 (kc [bool b37] [])) else (kc [bool false] []))))) else (kc [bool false] [])))))))) else (kc [bool false] [])))))))))) (A.chk true (A.chk true (A.chk true (A.chk true (A.chk true (A.chk true (A.callx 21 [agg [int .i64 x.ver, int .i64 x.sch.ver, lst .ro 2 (map frmV x.sch.forms), lst .ro 5 (map lnkV x.links), int .i64 x.img]] fun l38 => asC A l38 fun v39 l40 => asB A v39 fun b41 => asN A l40 (A.callx 22 [agg [int .i64 x.ver, int .i64 x.sch.ver, lst .ro 2 (map frmV x.sch.forms), lst .ro 5 (map lnkV x.links), int .i64 x.img]] fun l42 => asC A l42 fun v43 l44 => asB A v43 fun b45 => asN A l44 (bif (b41 == b45) then (A.chk true (A.chk true (A.chk true (A.chk true (A.callx 23 [agg [int .i64 x.ver, int .i64 x.sch.ver, lst .ro 2 (map frmV x.sch.forms), lst .ro 5 (map lnkV x.links), int .i64 x.img], agg [int .i64 y.ver, int .i64 y.sch.ver, lst .ro 2 (map frmV y.sch.forms), lst .ro 5 (map lnkV y.links), int .i64 y.img]] fun l46 => asC A l46 fun v47 l48 => asB A v47 fun b49 => asN A l48 (A.callx 24 [agg [int .i64 x.ver, int .i64 x.sch.ver, lst .ro 2 (map frmV x.sch.forms), lst .ro 5 (map lnkV x.links), int .i64 x.img], agg [int .i64 y.ver, int .i64 y.sch.ver, lst .ro 2 (map frmV y.sch.forms), lst .ro 5 (map lnkV y.links), int .i64 y.img]] fun l50 => asC A l50 fun v51 l52 => asB A v51 fun b53 => asN A l52 (bif (b49 == b53) then (A.chk true (A.chk true (A.callx 23 [agg [int .i64 x.ver, int .i64 x.sch.ver, lst .ro 2 (map frmV x.sch.forms), lst .ro 5 (map lnkV x.links), int .i64 x.img], agg [int .i64 x.ver, int .i64 x.sch.ver, lst .ro 2 (map frmV x.sch.forms), lst .ro 5 (map lnkV x.links), int .i64 x.img]] fun l54 => asC A l54 fun v55 l56 => asB A v55 fun b57 => asN A l56 (bif b57 then (A.callx 20 [] fun l58 => asC A l58 fun v59 l60 => asB A v59 fun b61 => asN A l60 (kc [bool b61] [])) else (kc [bool false] []))))) else (kc [bool false] [])))))))) else (kc [bool false] [])))))))))))))))
theorem t_mGreat (x : Man) {r : CR} (h : s_mGreat (OA (tbl E0) (ltbl E0 19 0)) x (fun r o => some (r, o)) = some r) : tbl E0 19 [manV x] [] = some r :=
  tbl_of (body := bodyOf Try.f19) Try.func19 (by kernel_rfl) (by kernel_rfl) (by kernel_rfl) (Eq.trans (by kernel_rfl) h)
theorem t_mGreatL (x : Man) (i : Int) {r : LR} (h : s_mGreatL (OA (tbl E0) (ltbl E0 19 0)) x i (fun vs os => ltbl E0 19 0 2 vs os) (fun j vs os => some (j, vs, os)) = some r) : ltbl E0 19 0 2 [.int .i64 i] [manC x] = some r :=
  ltbl_of (body := bodyOf Try.f19) Try.func19 (by kernel_rfl) (by kernel_rfl) (Eq.trans (by kernel_rfl) h)
theorem t_mRight (x : Man) {r : CR} (h : s_mRight (OA (tbl E0) (ltbl E0 21 0)) x (fun r o => some (r, o)) = some r) : tbl E0 21 [manV x] [] = some r :=
  tbl_of (body := bodyOf Try.f21) Try.func21 (by kernel_rfl) (by kernel_rfl) (by kernel_rfl) (Eq.trans (by kernel_rfl) h)
theorem t_ymRight (x : Man) {r : CR} (h : s_ymRight (OA (tbl E0) (ltbl E0 22 0)) x (fun r o => some (r, o)) = some r) : tbl E0 22 [manV x] [] = some r :=
  tbl_of (body := bodyOf Try.f22) Try.func22 (by kernel_rfl) (by kernel_rfl) (by kernel_rfl) (Eq.trans (by kernel_rfl) h)
theorem t_ymRightL (x : Man) (i : Int) {r : LR} (h : s_ymRightL (OA (tbl E0) (ltbl E0 22 0)) x i (fun vs os => ltbl E0 22 0 2 vs os) (fun j vs os => some (j, vs, os)) = some r) : ltbl E0 22 0 2 [.int .i64 i] [manC x] = some r :=
  ltbl_of (body := bodyOf Try.f22) Try.func22 (by kernel_rfl) (by kernel_rfl) (Eq.trans (by kernel_rfl) h)
theorem t_mSame (x y : Man) {r : CR} (h : s_mSame (OA (tbl E0) (ltbl E0 23 0)) x y (fun r o => some (r, o)) = some r) : tbl E0 23 [manV x, manV y] [] = some r :=
  tbl_of (body := bodyOf Try.f23) Try.func23 (by kernel_rfl) (by kernel_rfl) (by kernel_rfl) (Eq.trans (by kernel_rfl) h)
theorem t_ymSame (x y : Man) {r : CR} (h : s_ymSame (OA (tbl E0) (ltbl E0 24 0)) x y (fun r o => some (r, o)) = some r) : tbl E0 24 [manV x, manV y] [] = some r :=
  tbl_of (body := bodyOf Try.f24) Try.func24 (by kernel_rfl) (by kernel_rfl) (by kernel_rfl) (Eq.trans (by kernel_rfl) h)
theorem t_ymSameL (x y : Man) (i : Int) {r : LR} (h : s_ymSameL (OA (tbl E0) (ltbl E0 24 0)) x y i (fun vs os => ltbl E0 24 0 4 vs os) (fun j vs os => some (j, vs, os)) = some r) : ltbl E0 24 0 4 [.int .i64 i] [manC x, manC y] = some r :=
  ltbl_of (body := bodyOf Try.f24) Try.func24 (by kernel_rfl) (by kernel_rfl) (Eq.trans (by kernel_rfl) h)
theorem t_EqFL (x y : List Lnk) {r : CR} (h : s_EqFL (OA (tbl E0) (ltbl E0 56 0)) x y (fun r o => some (r, o)) = some r) : tbl E0 56 [lnksV x, lnksV y, .clo 17 []] [] = some r :=
  tbl_of (body := bodyOf Try.f56) Try.func56 (by kernel_rfl) (by kernel_rfl) (by kernel_rfl) (Eq.trans (by kernel_rfl) h)
theorem t_EqFLL (x y : List Lnk) (m i : Int) {r : LR} (h : s_EqFLL (OA (tbl E0) (ltbl E0 56 0)) x y m i (fun vs os => ltbl E0 56 0 4 vs os) (fun j vs os => some (j, vs, os)) = some r) : ltbl E0 56 0 4 [lnksV y, .clo 17 [], lnksV x, .int .i64 m, .int .i64 i] [] = some r :=
  ltbl_of (body := bodyOf Try.f56) Try.func56 (by kernel_rfl) (by kernel_rfl) (Eq.trans (by kernel_rfl) h)
theorem t_mPrint (x : Man) {r : CR} (h : s_mPrint (OA (tbl E0) (ltbl E0 34 0)) x (fun r o => some (r, o)) = some r) : tbl E0 34 [manV x] [] = some r :=
  tbl_of (body := bodyOf Try.f34) Try.func34 (by kernel_rfl) (by kernel_rfl) (by kernel_rfl) (Eq.trans (by kernel_rfl) h)
theorem t_mPrintL (x : Man) (l : List Lnk) (b : List AV) (m i e : Int) {r : LR} (h : s_mPrintL (OA (tbl E0) (ltbl E0 34 0)) x l b m i e (fun vs os => ltbl E0 34 0 10 vs os) (fun j vs os => some (j, vs, os)) = some r) : ltbl E0 34 0 10 [lnksV l, .int .i64 m, .int .i64 i] [manC x, [.lst (.own (.O 1045 0)) 1 b, .int .i64 e]] = some r :=
  ltbl_of (body := bodyOf Try.f34) Try.func34 (by kernel_rfl) (by kernel_rfl) (Eq.trans (by kernel_rfl) h)
theorem t_ManifestRight (x y : Man) {r : CR} (h : s_ManifestRight (OA (tbl E0) (ltbl E0 4 0)) x y (fun r o => some (r, o)) = some r) : tbl E0 4 [manV x, manV y] [] = some r :=
  tbl_of (body := bodyOf Try.f4) Try.func4 (by kernel_rfl) (by kernel_rfl) (by kernel_rfl) (Eq.trans (by kernel_rfl) h)
end Go.Proofs.Ytmpfeofeokmooaa.V
namespace Go.Proofs.Ytmpfeofeokmooaa.V
open Go
theorem c_lGreatL (x : Lnk) : ∀ (r : List Frm) (i : Nat), x.to.forms.drop i = r → i ≤ 41 →
    ltbl E0 13 0 2 [.int .i64 i] [lnkC x] = some (if (r.take (41 - i)).any big then (0, [.bool true], []) else (1, [], [lnkC x])) := by
  intro r
  induction r with
  | nil =>
    intro i hr hi
    have h : x.to.forms.length ≤ i := by simpa using hr
    refine t_lGreatL _ _ ?_
    have : ¬ ((i : Int) < x.to.forms.length) := by omega
    simp [s_lGreatL, this]
  | cons f r ih =>
    intro i hr hi
    obtain ⟨hlt, hget, hr2⟩ := drop_c hr
    have h2 : (i : Int) < x.to.forms.length := by omega
    have e1 := i64_succ (i := i) (by omega)
    refine t_lGreatL _ _ ?_
    by_cases h41 : i < 41
    · have h := ih (i + 1) hr2 (by omega)
      have h3 : (i : Int) < 41 := by omega
      have e2 : 41 - i = (41 - (i + 1)) + 1 := by omega
      rw [e2, List.take_succ_cons, List.any_cons]
      simp only [s_lGreatL, OA_join, OA_asm, List.length_map, h2, h3, decide_true, cond_true, Option.bind_some, Tok.untok_tok, OA_chk, Int.natCast_nonneg, nthE, Int.toNat_natCast, List.getElem?_map, hget, Option.map_some, u_asA, u_asC, u_asI, u_asB, u_asL, u_asN, e1, h]
      by_cases b : 40 < f.fields.length
      · have b' : (f.fields.length : Int) > 40 := by omega
        simp [big, b, b']
      · have b' : ¬ ((f.fields.length : Int) > 40) := by omega
        simp [big, b, b']
    · have h3 : ¬ ((i : Int) < 41) := by omega
      have e2 : 41 - i = 0 := by omega
      simp [s_lGreatL, h2, h3, e2]
def greatK (x : Lnk) : Bool := greatS x.to || (greatT x.on || greatT x.back)
theorem c_lGreat (x : Lnk) : tbl E0 13 [lnkV x] [] = some ([.bool (greatK x)], []) :=
  t_lGreat x (by
    have e := c_lGreatL x x.to.forms 0 rfl (by omega)
    have g1 := c_yGreat x.on
    have g2 := c_yGreat x.back
    simp only [Int.natCast_zero, Nat.sub_zero, lnkC] at e
    simp only [stpsV] at g1 g2
    simp only [s_lGreat, OA_chk, cond_true, OA_loop, e, greatK, greatS]
    by_cases b : ((x.to.forms.take 41).any big) = true
    · simp [b]
    · have b : ((x.to.forms.take 41).any big) = false := by simpa using b
      by_cases c : 40 < x.to.forms.length
      · have c' : (x.to.forms.length : Int) > 40 := by omega
        simp [b, c, c']
      · have c' : ¬ ((x.to.forms.length : Int) > 40) := by omega
        rcases bor (greatT x.on) with q | q
        · simp [b, c, c', g1, q]
        · simp [b, c, c', g1, g2, q])
def Lnk.sml (x : Lnk) : Prop := Sml x.to ∧ (x.on.length ≤ 60 ∧ ∀ s ∈ x.on, s.sml) ∧ x.back.length ≤ 60 ∧ ∀ s ∈ x.back, s.sml
theorem greatK_sml {x : Lnk} (h : greatK x = false) : x.sml := by
  simp only [greatK, Bool.or_eq_false_iff] at h
  exact ⟨sml_of h.1, great_sml h.2.1, great_sml h.2.2⟩
def txtsB (l : List (List UInt8)) : List UInt8 := (l.map txtB).flatten
theorem c_lPrintL (l : List (List UInt8)) (hl : l.length ≤ 3) (hok : ∀ s ∈ l, s.length ≤ 140737488355328) : ∀ (r : List (List UInt8)) (i : Nat) (b : List AV) (e : Int), l.drop i = r → b.length + (txtsB r).length + 10 ≤ 140737488355328 →
    ltbl E0 25 0 10 [.lst .ro 1 (l.map bytesV), .int .i64 l.length, .int .i64 i] [[.lst (.own (.O 1061 0)) 1 b, .int .i64 e]] = some (1, [], [[.lst (.own (.O 1061 0)) 1 (b ++ encB (txtsB r)), .int .i64 e]]) := by
  intro r
  induction r with
  | nil =>
    intro i b e hr hb
    have h : l.length ≤ i := by simpa using hr
    refine t_lPrintL _ _ _ _ _ ?_
    have : ¬ ((i : Int) < l.length) := by omega
    simp [s_lPrintL, this, txtsB, encB_nil]
  | cons s r ih =>
    intro i b e hr hb
    obtain ⟨hlt, hget, hr2⟩ := drop_c hr
    have h2 : (i : Int) < l.length := by omega
    have e1 := i64_succ (i := i) (by omega)
    have hs := hok s (mem_drop hr)
    have et : (txtsB (s :: r)).length = (cnt s.length).length + s.length + (txtsB r).length := by simp [txtsB, txtB, Nat.add_assoc]
    have h := ih (i + 1) (b ++ encB (txtB s)) e hr2 (by rw [List.length_append, encB_length]; unfold txtB; rw [List.length_append]; omega)
    have c := c_PText b s e (by omega)
    simp only [penA] at c
    have eb : b ++ encB (txtsB (s :: r)) = b ++ encB (txtB s) ++ encB (txtsB r) := by simp [txtsB, encB_append]
    refine t_lPrintL _ _ _ _ _ ?_
    rw [eb]
    simp only [s_lPrintL, h2, Int.natCast_nonneg, nthE, Int.toNat_natCast, List.getElem?_map, hget, Option.map_some, orFail, bytesOf_encB, OA_asm, OA_chk, OA_call, OA_callx, OA_loop, OA_both_id, u_asA, u_asC, u_asI, u_asB, u_asS, u_asL, u_asOwn, u_asN, u_asRef0, Option.bind_some, nbeq, Nm_beq_self, decide_true, cond_true, cond_false, c, e1]
    exact h
theorem rights_iff (l : List Stp) : (if 40 < l.length then (7 : Int) else if l.all tRightS = true then 0 else 2) = 0 ↔ rightsS l = true := by
  unfold rightsS
  by_cases h : 40 < l.length
  · have : ¬ (l.length ≤ 40) := by omega
    simp [h, this]
  · have h' : l.length ≤ 40 := by omega
    rcases bor (l.all tRightS) with q | q <;> simp [h, h', q]
theorem rights_beq (l : List Stp) : ((if 40 < l.length then (7 : Int) else if l.all tRightS = true then 0 else 2) == 0) = rightsS l := by
  rw [Bool.eq_iff_iff, beq_iff_eq]
  exact rights_iff l
theorem lstB_len {l : List Stp} (hl : l.length ≤ 60) (h : ∀ x ∈ l, x.ok ∧ tRightS x = true) : (lstB l).length ≤ 400000 := by
  have h7 : (cnt l.length).length ≤ 10 := cnt_len10 (by omega)
  have := stpsB_len l h
  unfold lstB
  rw [List.length_append]
  omega
theorem rights_ok {l : List Stp} (hok : ∀ s ∈ l, s.ok) (h : rightsS l = true) : l.length ≤ 40 ∧ l.all tRightS = true ∧ (∀ x ∈ l, x.ok ∧ tRightS x = true) := by
  simp only [rightsS, Bool.and_eq_true, decide_eq_true_eq] at h
  exact ⟨h.1, h.2, fun x hx => ⟨hok x hx, List.all_eq_true.1 h.2 x hx⟩⟩
theorem lnkB_len {x : Lnk} (hx : x.ok) (hs : x.sml) (h : lnkS x = true) : (lnkB x).length ≤ 2000000 := by
  obtain ⟨h1, h2, h3, h4⟩ := hx
  simp only [lnkS, Bool.and_eq_true, decide_eq_true_eq] at h
  obtain ⟨g1, g2, g3, _, g4, g5⟩ := h
  obtain ⟨p1, p2, p3⟩ := rights_ok h3 g4
  obtain ⟨q1, q2, q3⟩ := rights_ok h4 g5
  have a1 := schB_len h2 g3
  have a2 := lstB_len (by omega) p3
  have a3 := lstB_len (by omega) q3
  have c0 : (cnt x.fr.toNat).length ≤ 10 := cnt_len10 (by omega)
  have c1 : (cnt (schB x.to).length).length ≤ 10 := cnt_len10 (by omega)
  have c2 : (cnt (lstB x.on).length).length ≤ 10 := cnt_len10 (by omega)
  have c3 : (cnt (lstB x.back).length).length ≤ 10 := cnt_len10 (by omega)
  unfold lnkB txtB
  simp only [List.length_append]
  omega
theorem c_lPrint (x : Lnk) (hx : x.ok) (hs : x.sml) : tbl E0 25 [lnkV x] [] = some ([.lst .ro 1 (if lnkS x = true then encB (lnkB x) else []), .int .i64 (if lnkS x = true then 0 else 2)], []) :=
  t_lPrint x (by
    have hx0 := hx
    obtain ⟨h1, h2, h3, h4⟩ := hx
    obtain ⟨s1, s2, s3⟩ := hs
    have c1 := c_sPrint x.to h2 s1
    have c2 := c_tPrint x.on (fun y hy => ⟨h3 y hy, s2.2 y hy⟩)
    have c3 := c_tPrint x.back (fun y hy => ⟨h4 y hy, s3.2 y hy⟩)
    simp only [schV, stpsV] at c1 c2 c3
    have e0 : ((if schS x.to = true then (0 : Int) else 2) == 0) = schS x.to := by rcases bor (schS x.to) with q | q <;> simp [q]
    have er : (bif (if schS x.to = true then (0 : Int) else 2) != 0 then true else bif (if 40 < x.on.length then (7 : Int) else if x.on.all tRightS = true then 0 else 2) != 0 then true else bif (if 40 < x.back.length then (7 : Int) else if x.back.all tRightS = true then 0 else 2) != 0 then true else bif decide (x.fr < 1) then true else bif decide (x.fr > 65535) then true else (x.fr == x.to.ver)) = !lnkS x := by
      simp only [bne, e0, rights_beq, lnkS]
      have k1 : decide (x.fr < 1) = !decide (1 ≤ x.fr) := by rw [← decide_not]; exact decide_eq_decide.2 (by omega)
      have k2 : decide (x.fr > 65535) = !decide (x.fr ≤ 65535) := by rw [← decide_not]; exact decide_eq_decide.2 (by omega)
      have k3 : (x.fr == x.to.ver) = (x.to.ver == x.fr) := by rw [Bool.eq_iff_iff, beq_iff_eq, beq_iff_eq]; exact eq_comm
      rw [k1, k2, k3]
      cases schS x.to <;> cases rightsS x.on <;> cases rightsS x.back <;> cases decide (1 ≤ x.fr) <;> cases decide (x.fr ≤ 65535) <;> cases (x.to.ver == x.fr) <;> rfl
    simp only [s_lPrint, OA_asm, OA_chk, OA_call, OA_callx, OA_loop, OA_both_id, u_asA, u_asC, u_asI, u_asB, u_asS, u_asL, u_asOwn, u_asN, u_asRef0, Option.bind_some, nbeq, Nm_beq_self, decide_true, cond_true, cond_false, OA_join, c1, c2, c3]
    simp only [tok_cond, Option.bind_some, Tok.untok_tok, er]
    rcases bor (lnkS x) with q | q
    · have hlen := lnkB_len hx0 ⟨s1, s2, s3⟩ q
      have q0 := q
      simp only [lnkS, Bool.and_eq_true, decide_eq_true_eq] at q0
      obtain ⟨g1, g2, g3, _, g4, g5⟩ := q0
      obtain ⟨p1, p2, p3⟩ := rights_ok h3 g4
      obtain ⟨q1, q2, q3⟩ := rights_ok h4 g5
      have a1 := schB_len h2 g3
      have a2 := lstB_len (by omega) p3
      have a3 := lstB_len (by omega) q3
      have hc : (cnt x.fr.toNat).length ≤ 10 := cnt_len10 (by omega)
      have d1 := p_Count [] x.fr 0 (by simp) (by omega) h1.2
      simp only [List.nil_append] at d1
      have et : cnt x.fr.toNat ++ txtsB [schB x.to, lstB x.on, lstB x.back] = lnkB x := by simp [txtsB, lnkB]
      have k := c_lPrintL [schB x.to, lstB x.on, lstB x.back] (by simp) (by intro s hs; simp at hs; rcases hs with rfl | rfl | rfl <;> omega) _ 0 (encB (cnt x.fr.toNat)) 0 rfl (by rw [List.drop_zero, encB_length, ← List.length_append, et]; omega)
      rw [← encB_append, List.drop_zero, et] at k
      have d := c_PDone (lnkB x) 0 (by omega)
      simp only [penV, penA, if_true] at d
      simp only [List.map_cons, List.map_nil, bytesV, Int.natCast_zero, List.length_cons, List.length_nil] at k
      simp only [q, g3, p1, p2, q1, q2, and_self, if_true, Bool.not_true, OA_asm, OA_chk, OA_call, OA_callx, OA_loop, OA_both_id, u_asA, u_asC, u_asI, u_asB, u_asS, u_asL, u_asOwn, u_asN, u_asRef0, Option.bind_some, nbeq, Nm_beq_self, decide_true, cond_true, cond_false, List.length_cons, List.length_nil, c_New, d1, k, d, Nat.one_ne_zero]
    · simp only [q, Bool.not_false, cond_true, Bool.false_eq_true, if_false])
theorem c_ylRight (x : Lnk) (hs : x.sml) : tbl E0 16 [lnkV x] [] = some ([.bool (lnkS x)], []) :=
  t_ylRight x (by
    obtain ⟨s1, s2, s3⟩ := hs
    have c1 := c_ysRight x.to s1
    have c2 := r_Rights15 x.on s2.2
    have c3 := r_Rights15 x.back s3.2
    simp only [schV, stpsV] at c1 c2 c3
    simp only [s_ylRight, OA_asm, OA_chk, OA_call, OA_callx, OA_loop, OA_both_id, u_asA, u_asC, u_asI, u_asB, u_asS, u_asL, u_asOwn, u_asN, u_asRef0, Option.bind_some, nbeq, Nm_beq_self, decide_true, cond_true, cond_false, OA_join, c1, c2, c3, rights_beq]
    simp only [tok_cond, Option.bind_some, Tok.untok_tok, cond_ff, lnkS])
theorem c_EqFSL (x y : List Stp) (hl : x.length ≤ 60) (he : x.length = y.length) (hx : ∀ a ∈ x, a.ok ∧ a.sml) (hy : ∀ a ∈ y, a.ok) : ∀ (r r' : List Stp) (i : Nat), x.drop i = r → y.drop i = r' →
    ltbl E0 54 0 4 [stpsV y, .clo 55 [], stpsV x, .int .i64 x.length, .int .i64 i] [] = some (if r = r' then (1, [], []) else (0, [.bool false], [])) := by
  intro r
  induction r with
  | nil =>
    intro r' i hr hr'
    have h : x.length ≤ i := by simpa using hr
    have h3 : r' = [] := by rw [← hr', List.drop_eq_nil_iff]; omega
    have : ¬ ((i : Int) < x.length) := by omega
    subst h3
    exact t_EqFSL _ _ _ _ (by simp [s_EqFSL, this])
  | cons a r ih =>
    intro r' i hr hr'
    obtain ⟨hlt, hget, hr2⟩ := drop_c hr
    have hlt' : i < y.length := by omega
    rw [List.drop_eq_getElem_cons hlt'] at hr'
    subst hr'
    have hg2 : y[i]? = some y[i] := List.getElem?_eq_getElem hlt'
    have hyi := hy y[i] (List.getElem_mem hlt')
    generalize y[i] = g at *
    have h2 : (i : Int) < x.length := by omega
    have e1 := i64_succ (i := i) (by omega)
    have h := ih _ (i + 1) hr2 rfl
    have c := c_tSame a g (hx a (mem_drop hr)).1 hyi (hx a (mem_drop hr)).2
    simp only [stpV, stpC, intsV, fldsV] at c
    refine t_EqFSL _ _ _ _ ?_
    simp only [s_EqFSL, List.length_map, h2, Int.natCast_nonneg, nthE, Int.toNat_natCast, List.getElem?_map, hget, hg2, Option.map_some, OA_asm, OA_chk, OA_call, OA_callx, OA_loop, OA_both_id, u_asA, u_asC, u_asI, u_asB, u_asS, u_asL, u_asOwn, u_asN, u_asRef0, Option.bind_some, nbeq, Nm_beq_self, decide_true, cond_true, cond_false, c, e1]
    by_cases e : a = g
    · simp only [e, decide_true, Bool.not_true, cond_false, h, List.cons.injEq, true_and]
    · simp [e]
theorem c_EqFS (x y : List Stp) (hl : x.length ≤ 60) (hx : ∀ a ∈ x, a.ok ∧ a.sml) (hy : ∀ a ∈ y, a.ok) : tbl E0 54 [stpsV x, stpsV y, .clo 55 []] [] = some ([.bool (decide (x = y))], []) :=
  t_EqFS x y (by
    by_cases he : x.length = y.length
    · have k := c_EqFSL x y hl he hx hy x y 0 rfl rfl
      simp only [Int.natCast_zero] at k
      have h' : ((x.length : Int) != (y.length : Int)) = false := by rw [he]; simp
      simp only [s_EqFS, List.length_map, OA_asm, OA_chk, OA_call, OA_callx, OA_loop, OA_both_id, u_asA, u_asC, u_asI, u_asB, u_asS, u_asL, u_asOwn, u_asN, u_asRef0, Option.bind_some, nbeq, Nm_beq_self, decide_true, cond_true, cond_false, h', k]
      by_cases e2 : x = y <;> simp [e2]
    · have : ¬ (x = y) := fun e => he (by rw [e])
      have h' : ((x.length : Int) != (y.length : Int)) = true := bne_t (by omega)
      simp only [s_EqFS, List.length_map, OA_asm, OA_chk, OA_call, OA_callx, OA_loop, OA_both_id, u_asA, u_asC, u_asI, u_asB, u_asS, u_asL, u_asOwn, u_asN, u_asRef0, Option.bind_some, nbeq, Nm_beq_self, decide_true, cond_true, cond_false, h']
      simp [this])
theorem lnk_eq (x y : Lnk) : decide (x = y) = (x.fr == y.fr && (decide (x.to = y.to) && (decide (x.on = y.on) && decide (x.back = y.back)))) := by
  obtain ⟨a, b, c, d⟩ := x
  obtain ⟨a', b', c', d'⟩ := y
  rw [Bool.eq_iff_iff]
  simp
theorem c_lSame (x y : Lnk) (hx : x.ok) (hy : y.ok) (hs : x.sml) : tbl E0 17 [lnkV x, lnkV y] [] = some ([.bool (decide (x = y))], []) :=
  t_lSame x y (by
    obtain ⟨h1, h2, h3, h4⟩ := hx
    obtain ⟨g1, g2, g3, g4⟩ := hy
    obtain ⟨s1, s2, s3⟩ := hs
    have c1 := c_sSame x.to y.to s1
    have c2 := c_EqFS x.on y.on s2.1 (fun a ha => ⟨h3 a ha, s2.2 a ha⟩) g3
    have c3 := c_EqFS x.back y.back s3.1 (fun a ha => ⟨h4 a ha, s3.2 a ha⟩) g4
    simp only [schV, stpsV] at c1 c2 c3
    simp only [s_lSame, OA_asm, OA_chk, OA_call, OA_callx, OA_loop, OA_both_id, u_asA, u_asC, u_asI, u_asB, u_asS, u_asL, u_asOwn, u_asN, u_asRef0, Option.bind_some, nbeq, Nm_beq_self, decide_true, cond_true, cond_false, OA_join, c1, c2, c3]
    simp only [tok_cond, Option.bind_some, Tok.untok_tok, cond_ff, lnk_eq])
theorem c_ylSame (x y : Lnk) (hs : x.sml) : tbl E0 18 [lnkV x, lnkV y] [] = some ([.bool (decide (x = y))], []) :=
  t_ylSame x y (by
    obtain ⟨s1, s2, s3⟩ := hs
    have c1 := c_ySame x.to y.to s1
    have c2 := c_SameListT x.on y.on (by omega) s2.2
    have c3 := c_SameListT x.back y.back (by omega) s3.2
    simp only [schV, stpsV] at c1 c2 c3
    simp only [s_ylSame, OA_asm, OA_chk, OA_call, OA_callx, OA_loop, OA_both_id, u_asA, u_asC, u_asI, u_asB, u_asS, u_asL, u_asOwn, u_asN, u_asRef0, Option.bind_some, nbeq, Nm_beq_self, decide_true, cond_true, cond_false, OA_join, c1, c2, c3]
    simp only [tok_cond, Option.bind_some, Tok.untok_tok, cond_ff, lnk_eq])
end Go.Proofs.Ytmpfeofeokmooaa.V
namespace Go.Proofs.Ytmpfeofeokmooaa.V
open Go
theorem c_mGreatL (x : Man) : ∀ (r : List Lnk) (i : Nat), x.links.drop i = r → i ≤ 13 →
    ltbl E0 19 0 2 [.int .i64 i] [manC x] = some (if (r.take (13 - i)).any greatK then (0, [.bool true], []) else (1, [], [manC x])) := by
  intro r
  induction r with
  | nil =>
    intro i hr hi
    have h : x.links.length ≤ i := by simpa using hr
    refine t_mGreatL _ _ ?_
    have : ¬ ((i : Int) < x.links.length) := by omega
    simp [s_mGreatL, this]
  | cons f r ih =>
    intro i hr hi
    obtain ⟨hlt, hget, hr2⟩ := drop_c hr
    have h2 : (i : Int) < x.links.length := by omega
    have e1 := i64_succ (i := i) (by omega)
    have c := c_lGreat f
    simp only [lnkV, lnkC] at c
    refine t_mGreatL _ _ ?_
    by_cases h41 : i < 13
    · have h := ih (i + 1) hr2 (by omega)
      have h3 : (i : Int) < 13 := by omega
      have e2 : 13 - i = (13 - (i + 1)) + 1 := by omega
      rw [e2, List.take_succ_cons, List.any_cons]
      simp only [s_mGreatL, OA_join, List.length_map, h2, h3, Tok.untok_tok, Int.natCast_nonneg, nthE, Int.toNat_natCast, List.getElem?_map, hget, Option.map_some, OA_asm, OA_chk, OA_call, OA_callx, OA_loop, OA_both_id, u_asA, u_asC, u_asI, u_asB, u_asS, u_asL, u_asOwn, u_asN, u_asRef0, Option.bind_some, nbeq, Nm_beq_self, decide_true, cond_true, cond_false, c, e1]
      rcases bor (greatK f) with b | b
      · simp [b]
      · simp only [b, cond_false, Bool.false_or]
        exact h
    · have h3 : ¬ ((i : Int) < 13) := by omega
      have e2 : 13 - i = 0 := by omega
      simp [s_mGreatL, h2, h3, e2]
def greatM (x : Man) : Bool := (x.links.take 13).any greatK || (decide (12 < x.links.length) || greatK ⟨0, x.sch, [], []⟩)
theorem c_mGreat (x : Man) : tbl E0 19 [manV x] [] = some ([.bool (greatM x)], []) :=
  t_mGreat x (by
    have e := c_mGreatL x x.links 0 rfl (by omega)
    have g := c_lGreat ⟨0, x.sch, [], []⟩
    simp only [Int.natCast_zero, Nat.sub_zero, manC] at e
    simp only [lnkV, lnkC, stpsV, List.map_nil] at g
    simp only [s_mGreat, OA_asm, OA_chk, OA_call, OA_callx, OA_loop, OA_both_id, u_asA, u_asC, u_asI, u_asB, u_asS, u_asL, u_asOwn, u_asN, u_asRef0, Option.bind_some, nbeq, Nm_beq_self, decide_true, cond_true, cond_false, e, greatM]
    rcases bor ((x.links.take 13).any greatK) with b | b
    · simp [b]
    · by_cases c : 12 < x.links.length
      · have c' : (x.links.length : Int) > 12 := by omega
        simp [b, c, c']
      · have c' : ¬ ((x.links.length : Int) > 12) := by omega
        simp [b, c, c', g])
def Man.sml (x : Man) : Prop := Sml x.sch ∧ x.links.length ≤ 12 ∧ ∀ l ∈ x.links, l.sml
theorem greatM_sml {x : Man} (h : greatM x = false) : x.sml := by
  simp only [greatM, Bool.or_eq_false_iff, decide_eq_false_iff_not, List.any_eq_false] at h
  obtain ⟨h1, h2, h3⟩ := h
  rw [List.take_of_length_le (by omega)] at h1
  exact ⟨(greatK_sml h3).1, by omega, fun l hl => greatK_sml (by simpa using h1 l hl)⟩
theorem c_ymRightL (x : Man) (hs : x.sml) : ∀ (r : List Lnk) (i : Nat), x.links.drop i = r →
    ltbl E0 22 0 2 [.int .i64 i] [manC x] = some (if r.all lnkS then (1, [], [manC x]) else (0, [.bool false], [])) := by
  have hl := hs.2.1
  intro r
  induction r with
  | nil =>
    intro i hr
    have h : x.links.length ≤ i := by simpa using hr
    refine t_ymRightL _ _ ?_
    have : ¬ ((i : Int) < x.links.length) := by omega
    simp [s_ymRightL, this]
  | cons f r ih =>
    intro i hr
    obtain ⟨hlt, hget, hr2⟩ := drop_c hr
    have h2 : (i : Int) < x.links.length := by omega
    have e1 := i64_succ (i := i) (by omega)
    have c := c_ylRight f (hs.2.2 f (mem_drop hr))
    simp only [lnkV, lnkC] at c
    have h := ih (i + 1) hr2
    refine t_ymRightL _ _ ?_
    simp only [s_ymRightL, List.length_map, h2, Int.natCast_nonneg, nthE, Int.toNat_natCast, List.getElem?_map, hget, Option.map_some, OA_asm, OA_chk, OA_call, OA_callx, OA_loop, OA_both_id, u_asA, u_asC, u_asI, u_asB, u_asS, u_asL, u_asOwn, u_asN, u_asRef0, Option.bind_some, nbeq, Nm_beq_self, decide_true, cond_true, cond_false, c, e1, List.all_cons]
    rcases bor (lnkS f) with b | b
    · simp only [b, Bool.not_true, cond_false, Bool.true_and]
      exact h
    · simp [b]
theorem c_ymRight (x : Man) (hs : x.sml) : tbl E0 22 [manV x] [] = some ([.bool (manS x)], []) :=
  t_ymRight x (by
    have k := c_ymRightL x hs x.links 0 rfl
    have c1 := c_ysRight x.sch hs.1
    simp only [schV] at c1
    simp only [Int.natCast_zero, manC] at k
    simp only [s_ymRight, OA_asm, OA_chk, OA_call, OA_callx, OA_loop, OA_both_id, u_asA, u_asC, u_asI, u_asB, u_asS, u_asL, u_asOwn, u_asN, u_asRef0, Option.bind_some, nbeq, Nm_beq_self, decide_true, cond_true, cond_false, OA_join, k, manS]
    rcases bor (x.links.all lnkS) with b | b
    · simp only [b, if_true, OA_asm, OA_chk, OA_call, OA_callx, OA_loop, OA_both_id, u_asA, u_asC, u_asI, u_asB, u_asS, u_asL, u_asOwn, u_asN, u_asRef0, Option.bind_some, nbeq, Nm_beq_self, decide_true, cond_true, cond_false, c1, Nat.one_ne_zero, Bool.true_and]
      simp only [tok_cond, Option.bind_some, Tok.untok_tok, cond_ff, List.length_map]
      have e1 : decide ((x.links.length : Int) ≤ 8) = decide (x.links.length ≤ 8) := decide_eq_decide.2 (by omega)
      simp only [e1]
      rfl
    · simp [b])
theorem lnksB_cons (x : Lnk) (l : List Lnk) : lnksB (x :: l) = txtB (lnkB x) ++ lnksB l := by simp [lnksB]
theorem c_mPrintL (x : Man) (l : List Lnk) (hl : l.length ≤ 8) (hok : ∀ y ∈ l, y.ok ∧ y.sml) (B : Nat) (hB : ∀ y ∈ l, lnkS y = true → (txtB (lnkB y)).length ≤ B) : ∀ (r : List Lnk) (i : Nat) (b : List AV) (e : Int), l.drop i = r → b.length + B * r.length + 10 ≤ 140737488355328 →
    ltbl E0 34 0 10 [lnksV l, .int .i64 l.length, .int .i64 i] [manC x, [.lst (.own (.O 1045 0)) 1 b, .int .i64 e]] = some (if r.all lnkS then (1, [], [manC x, [.lst (.own (.O 1045 0)) 1 (b ++ encB (lnksB r)), .int .i64 e]]) else (0, [.lst .ro 1 [], .int .i64 2], [])) := by
  intro r
  induction r with
  | nil =>
    intro i b e hr hb
    have h : l.length ≤ i := by simpa using hr
    refine t_mPrintL _ _ _ _ _ _ ?_
    have : ¬ ((i : Int) < l.length) := by omega
    simp [s_mPrintL, this, lnksB, encB_nil]
  | cons y r ih =>
    intro i b e hr hb
    obtain ⟨hlt, hget, hr2⟩ := drop_c hr
    have h2 : (i : Int) < l.length := by omega
    have e1 := i64_succ (i := i) (by omega)
    obtain ⟨y1, y2⟩ := hok y (mem_drop hr)
    have c := c_lPrint y y1 y2
    simp only [lnkV, lnkC] at c
    rw [List.length_cons, Nat.mul_succ] at hb
    refine t_mPrintL _ _ _ _ _ _ ?_
    simp only [s_mPrintL, h2, Int.natCast_nonneg, nthE, Int.toNat_natCast, List.getElem?_map, hget, Option.map_some, OA_asm, OA_chk, OA_call, OA_callx, OA_loop, OA_both_id, u_asA, u_asC, u_asI, u_asB, u_asS, u_asL, u_asOwn, u_asN, u_asRef0, Option.bind_some, nbeq, Nm_beq_self, decide_true, cond_true, cond_false, c, List.all_cons]
    rcases bor (lnkS y) with q | q
    · have hlen := hB y (mem_drop hr) q; have hlen2 := lnkB_len y1 y2 q
      have et : (txtB (lnkB y)).length = (cnt (lnkB y).length).length + (lnkB y).length := by simp [txtB]
      have h := ih (i + 1) (b ++ encB (txtB (lnkB y))) e hr2 (by rw [List.length_append, encB_length]; omega)
      have c2 := c_PText b (lnkB y) e (by omega)
      simp only [penA] at c2
      have eb : b ++ encB (lnksB (y :: r)) = b ++ encB (txtB (lnkB y)) ++ encB (lnksB r) := by rw [lnksB_cons, encB_append, List.append_assoc]
      simp only [manC] at h
      simp only [q, if_true, bne_self_eq_false, orFail, bytesOf_encB, OA_asm, OA_chk, OA_call, OA_callx, OA_loop, OA_both_id, u_asA, u_asC, u_asI, u_asB, u_asS, u_asL, u_asOwn, u_asN, u_asRef0, Option.bind_some, nbeq, Nm_beq_self, decide_true, cond_true, cond_false, c2, e1, Bool.true_and, eb]
      exact h
    · simp only [q, Bool.false_eq_true, if_false, Bool.false_and]
      rfl
theorem b_Count (p : List UInt8) (n e : Int) (hb : p.length + 10 ≤ 140737488355328) (h0 : 0 ≤ n) (hn : n ≤ 9223372036854775807) : tbl E0 59 [.ref 0 0, .int .i64 n] [(0, [.lst (.own (.E 0 0)) 1 (encB p), .int .i64 e])] = some ([], [(0, [.lst (.own (.E 0 0)) 1 (encB (p ++ cnt n.toNat)), .int .i64 e])]) := by
  rw [encB_append]
  exact p_Count (encB p) n e (by rw [encB_length]; exact hb) h0 hn
theorem b_Text (p s : List UInt8) (e : Int) (hb : p.length + 10 + s.length ≤ 140737488355328) : tbl E0 60 [.ref 0 0, .str s] [(0, [.lst (.own (.E 0 0)) 1 (encB p), .int .i64 e])] = some ([], [(0, [.lst (.own (.E 0 0)) 1 (encB (p ++ txtB s)), .int .i64 e])]) := by
  have c := c_PText (encB p) s e (by rw [encB_length]; exact hb)
  rw [← encB_append] at c
  exact c
theorem lnksB_len : ∀ (l : List Lnk), (∀ y ∈ l, y.ok ∧ y.sml) → l.all lnkS = true → (lnksB l).length ≤ 2000010 * l.length
  | [], _, _ => by simp [lnksB]
  | y :: l, h, hq => by
    simp only [List.all_cons, Bool.and_eq_true] at hq
    have h1 := lnkB_len (h y (by simp)).1 (h y (by simp)).2 hq.1
    have h2 := lnksB_len l (fun g hg => h g (by simp [hg])) hq.2
    have h3 : (cnt (lnkB y).length).length ≤ 10 := cnt_len10 (by omega)
    have et : (txtB (lnkB y)).length = (cnt (lnkB y).length).length + (lnkB y).length := by simp [txtB]
    rw [lnksB_cons, List.length_append, List.length_cons]
    omega
theorem manB_len {x : Man} (hx : x.ok) (hs : x.sml) (h : manS x = true) : (manB x).length ≤ 17000000 := by
  obtain ⟨h1, h2, h3, h4⟩ := hx
  obtain ⟨s1, s2, s3⟩ := hs
  simp only [manS, Bool.and_eq_true, decide_eq_true_eq] at h
  obtain ⟨g0, g1, g2, g3, g4, g5, g6⟩ := h
  have a1 := schB_len h2 g3
  have a2 := lnksB_len x.links (fun y hy => ⟨h3 y hy, s3 y hy⟩) g0
  have hc1 : (cnt x.ver.toNat).length ≤ 10 := cnt_len10 (by omega)
  have hc2 : (cnt (schB x.sch).length).length ≤ 10 := cnt_len10 (by omega)
  have hc3 : (cnt x.links.length).length ≤ 10 := cnt_len10 (by omega)
  have hc4 : (cnt x.img.toNat).length ≤ 10 := cnt_len10 (by omega)
  have hw : (word4 1230197842).length = 4 := rfl
  unfold manB txtB
  simp only [List.length_append]
  omega
theorem c_mPrint (x : Man) (hx : x.ok) (hs : x.sml) : tbl E0 34 [manV x] [] = some ([.lst .ro 1 (if manS x = true then encB (manB x) else []), .int .i64 (if manS x = true then 0 else 2)], []) :=
  t_mPrint x (by
    have hx0 := hx
    have hs0 := hs
    obtain ⟨h1, h2, h3, h4⟩ := hx
    obtain ⟨s1, s2, s3⟩ := hs
    have c1 := c_sPrint x.sch h2 s1
    simp only [schV] at c1
    have e0 : ((if schS x.sch = true then (0 : Int) else 2) == 0) = schS x.sch := by rcases bor (schS x.sch) with q | q <;> simp [q]
    obtain ⟨ck, hck⟩ : ∃ ck, (decide (1 ≤ x.ver) && (decide (x.ver ≤ 65535) && (schS x.sch && (decide (x.links.length ≤ 8) && (decide (0 ≤ x.img) && decide (x.img ≤ 131072)))))) = ck := ⟨_, rfl⟩
    have er : (bif (if schS x.sch = true then (0 : Int) else 2) != 0 then true else bif decide (x.ver < 1) then true else bif decide (x.ver > 65535) then true else bif decide ((x.links.length : Int) > 8) then true else bif decide (x.img < 0) then true else decide (x.img > 131072)) = !ck := by
      rw [← hck]
      simp only [bne, e0]
      have k1 : decide (x.ver < 1) = !decide (1 ≤ x.ver) := by rw [← decide_not]; exact decide_eq_decide.2 (by omega)
      have k2 : decide (x.ver > 65535) = !decide (x.ver ≤ 65535) := by rw [← decide_not]; exact decide_eq_decide.2 (by omega)
      have k3 : decide ((x.links.length : Int) > 8) = !decide (x.links.length ≤ 8) := by rw [← decide_not]; exact decide_eq_decide.2 (by omega)
      have k4 : decide (x.img < 0) = !decide (0 ≤ x.img) := by rw [← decide_not]; exact decide_eq_decide.2 (by omega)
      have k5 : decide (x.img > 131072) = !decide (x.img ≤ 131072) := by rw [← decide_not]; exact decide_eq_decide.2 (by omega)
      rw [k1, k2, k3, k4, k5]
      cases schS x.sch <;> cases decide (1 ≤ x.ver) <;> cases decide (x.ver ≤ 65535) <;> cases decide (x.links.length ≤ 8) <;> cases decide (0 ≤ x.img) <;> cases decide (x.img ≤ 131072) <;> rfl
    have em : manS x = (x.links.all lnkS && ck) := by rw [← hck]; rfl
    simp only [s_mPrint, OA_asm, OA_chk, OA_call, OA_callx, OA_loop, OA_both_id, u_asA, u_asC, u_asI, u_asB, u_asS, u_asL, u_asOwn, u_asN, u_asRef0, Option.bind_some, nbeq, Nm_beq_self, decide_true, cond_true, cond_false, OA_join, c1, List.length_map]
    simp only [tok_cond, Option.bind_some, Tok.untok_tok, er]
    rcases bor ck with q | q
    · have q0 := hck.trans q
      simp only [Bool.and_eq_true, decide_eq_true_eq] at q0
      obtain ⟨g1, g2, g3, g4, g5, g6⟩ := q0
      have a1 := schB_len h2 g3
      have hc1 : (cnt x.ver.toNat).length ≤ 10 := cnt_len10 (by omega)
      have hc2 : (cnt (schB x.sch).length).length ≤ 10 := cnt_len10 (by omega)
      have hc3 : (cnt x.links.length).length ≤ 10 := cnt_len10 (by omega)
      have hw : (word4 1230197842).length = 4 := rfl
      have d0 := c_PWord [] 1230197842 0 (by simp) (by omega)
      simp only [penA, List.nil_append] at d0
      rw [show ((1230197842 : Nat) : Int) = 1230197842 from rfl] at d0
      have d1 := b_Count (word4 1230197842) x.ver 0 (by omega) (by omega) h1.2
      have d2 := b_Text (word4 1230197842 ++ cnt x.ver.toNat) (schB x.sch) 0 (by rw [List.length_append]; omega)
      have ht : (txtB (schB x.sch)).length = (cnt (schB x.sch).length).length + (schB x.sch).length := by simp [txtB]
      have d3 := b_Count (word4 1230197842 ++ cnt x.ver.toNat ++ txtB (schB x.sch)) x.links.length 0 (by rw [List.length_append, List.length_append]; omega) (by omega) (by omega)
      simp only [Int.toNat_natCast] at d3
      have k := c_mPrintL x x.links g4 (fun y hy => ⟨h3 y hy, s3 y hy⟩) 2000010 (fun y hy hq => by have h5 := lnkB_len (h3 y hy) (s3 y hy) hq; have h6 : (cnt (lnkB y).length).length ≤ 10 := cnt_len10 (by omega); unfold txtB; rw [List.length_append]; omega) x.links 0 (encB (word4 1230197842 ++ cnt x.ver.toNat ++ txtB (schB x.sch) ++ cnt x.links.length)) 0 rfl (by rw [encB_length, List.length_append, List.length_append, List.length_append]; omega)
      simp only [Int.natCast_zero, ← encB_append, manC] at k
      simp only [q, g3, if_true, orFail, bytesOf_encB, Bool.not_true, OA_asm, OA_chk, OA_call, OA_callx, OA_loop, OA_both_id, u_asA, u_asC, u_asI, u_asB, u_asS, u_asL, u_asOwn, u_asN, u_asRef0, Option.bind_some, nbeq, Nm_beq_self, decide_true, cond_true, cond_false, c_New, d0, d1, d2, d3, k, em, Bool.and_true]
      rcases bor (x.links.all lnkS) with w | w
      · have hb := manB_len hx0 hs0 (by rw [em, w, q]; rfl)
        have ep : manB x = word4 1230197842 ++ cnt x.ver.toNat ++ txtB (schB x.sch) ++ cnt x.links.length ++ lnksB x.links ++ cnt x.img.toNat := by unfold manB; simp only [List.append_assoc]
        have epl := congrArg List.length ep
        simp only [List.length_append] at epl
        have d4 := b_Count (word4 1230197842 ++ cnt x.ver.toNat ++ txtB (schB x.sch) ++ cnt x.links.length ++ lnksB x.links) x.img 0 (by rw [List.length_append, List.length_append, List.length_append, List.length_append]; omega) (by omega) h4.2
        rw [← ep] at d4
        have d5 := c_PDone (manB x) 0 (by omega)
        simp only [penV, penA, if_true] at d5
        simp only [w, if_true, g3, OA_asm, OA_chk, OA_call, OA_callx, OA_loop, OA_both_id, u_asA, u_asC, u_asI, u_asB, u_asS, u_asL, u_asOwn, u_asN, u_asRef0, Option.bind_some, nbeq, Nm_beq_self, decide_true, cond_true, cond_false, d4, d5, Nat.one_ne_zero]
        rfl
      · simp only [w, Bool.false_eq_true, if_false, OA_asm, OA_chk, OA_call, OA_callx, OA_loop, OA_both_id, u_asA, u_asC, u_asI, u_asB, u_asS, u_asL, u_asOwn, u_asN, u_asRef0, Option.bind_some, nbeq, Nm_beq_self, decide_true, cond_true, cond_false]
    · simp only [em, q, Bool.not_false, cond_true, Bool.and_false, Bool.false_eq_true, if_false])
theorem c_EqFLL (x y : List Lnk) (hl : x.length ≤ 12) (he : x.length = y.length) (hx : ∀ a ∈ x, a.ok ∧ a.sml) (hy : ∀ a ∈ y, a.ok) : ∀ (r r' : List Lnk) (i : Nat), x.drop i = r → y.drop i = r' →
    ltbl E0 56 0 4 [lnksV y, .clo 17 [], lnksV x, .int .i64 x.length, .int .i64 i] [] = some (if r = r' then (1, [], []) else (0, [.bool false], [])) := by
  intro r
  induction r with
  | nil =>
    intro r' i hr hr'
    have h : x.length ≤ i := by simpa using hr
    have h3 : r' = [] := by rw [← hr', List.drop_eq_nil_iff]; omega
    have : ¬ ((i : Int) < x.length) := by omega
    subst h3
    exact t_EqFLL _ _ _ _ (by simp [s_EqFLL, this])
  | cons a r ih =>
    intro r' i hr hr'
    obtain ⟨hlt, hget, hr2⟩ := drop_c hr
    have hlt' : i < y.length := by omega
    rw [List.drop_eq_getElem_cons hlt'] at hr'
    subst hr'
    have hg2 : y[i]? = some y[i] := List.getElem?_eq_getElem hlt'
    have hyi := hy y[i] (List.getElem_mem hlt')
    generalize y[i] = g at *
    have h2 : (i : Int) < x.length := by omega
    have e1 := i64_succ (i := i) (by omega)
    have h := ih _ (i + 1) hr2 rfl
    have c := c_lSame a g (hx a (mem_drop hr)).1 hyi (hx a (mem_drop hr)).2
    simp only [lnkV, lnkC] at c
    refine t_EqFLL _ _ _ _ ?_
    simp only [s_EqFLL, List.length_map, h2, Int.natCast_nonneg, nthE, Int.toNat_natCast, List.getElem?_map, hget, hg2, Option.map_some, OA_asm, OA_chk, OA_call, OA_callx, OA_loop, OA_both_id, u_asA, u_asC, u_asI, u_asB, u_asS, u_asL, u_asOwn, u_asN, u_asRef0, Option.bind_some, nbeq, Nm_beq_self, decide_true, cond_true, cond_false, c, e1]
    by_cases e : a = g
    · simp only [e, decide_true, Bool.not_true, cond_false, h, List.cons.injEq, true_and]
    · simp [e]
theorem c_EqFL (x y : List Lnk) (hl : x.length ≤ 12) (hx : ∀ a ∈ x, a.ok ∧ a.sml) (hy : ∀ a ∈ y, a.ok) : tbl E0 56 [lnksV x, lnksV y, .clo 17 []] [] = some ([.bool (decide (x = y))], []) :=
  t_EqFL x y (by
    by_cases he : x.length = y.length
    · have k := c_EqFLL x y hl he hx hy x y 0 rfl rfl
      simp only [Int.natCast_zero] at k
      have h' : ((x.length : Int) != (y.length : Int)) = false := by rw [he]; simp
      simp only [s_EqFL, List.length_map, OA_asm, OA_chk, OA_call, OA_callx, OA_loop, OA_both_id, u_asA, u_asC, u_asI, u_asB, u_asS, u_asL, u_asOwn, u_asN, u_asRef0, Option.bind_some, nbeq, Nm_beq_self, decide_true, cond_true, cond_false, h', k]
      by_cases e2 : x = y <;> simp [e2]
    · have : ¬ (x = y) := fun e => he (by rw [e])
      have h' : ((x.length : Int) != (y.length : Int)) = true := bne_t (by omega)
      simp only [s_EqFL, List.length_map, OA_asm, OA_chk, OA_call, OA_callx, OA_loop, OA_both_id, u_asA, u_asC, u_asI, u_asB, u_asS, u_asL, u_asOwn, u_asN, u_asRef0, Option.bind_some, nbeq, Nm_beq_self, decide_true, cond_true, cond_false, h']
      simp [this])
theorem man_eq (x y : Man) : decide (x = y) = ((x.ver == y.ver && x.img == y.img) && (decide (x.sch = y.sch) && decide (x.links = y.links))) := by
  obtain ⟨a, b, c, d⟩ := x
  obtain ⟨a', b', c', d'⟩ := y
  rw [Bool.eq_iff_iff]
  simp only [decide_eq_true_eq, Bool.and_eq_true, beq_iff_eq, Man.mk.injEq]
  constructor
  · rintro ⟨rfl, rfl, rfl, rfl⟩; simp
  · rintro ⟨⟨rfl, rfl⟩, rfl, rfl⟩; simp
theorem c_ymSameL (x y : Man) (hs : x.sml) (he : x.links.length = y.links.length) : ∀ (r r' : List Lnk) (i : Nat), x.links.drop i = r → y.links.drop i = r' →
    ltbl E0 24 0 4 [.int .i64 i] [manC x, manC y] = some (if r = r' then (1, [], []) else (0, [.bool false], [])) := by
  have hl := hs.2.1
  intro r
  induction r with
  | nil =>
    intro r' i hr hr'
    have h : x.links.length ≤ i := by simpa using hr
    have h3 : r' = [] := by rw [← hr', List.drop_eq_nil_iff]; omega
    have : ¬ ((i : Int) < x.links.length) := by omega
    subst h3
    exact t_ymSameL _ _ _ (by simp [s_ymSameL, this])
  | cons a r ih =>
    intro r' i hr hr'
    obtain ⟨hlt, hget, hr2⟩ := drop_c hr
    have hlt' : i < y.links.length := by omega
    rw [List.drop_eq_getElem_cons hlt'] at hr'
    subst hr'
    have hg2 : y.links[i]? = some y.links[i] := List.getElem?_eq_getElem hlt'
    generalize y.links[i] = g at *
    have h2 : (i : Int) < x.links.length := by omega
    have e1 := i64_succ (i := i) (by omega)
    have h := ih _ (i + 1) hr2 rfl
    have c := c_ylSame a g (hs.2.2 a (mem_drop hr))
    simp only [lnkV, lnkC] at c
    simp only [manC] at h
    refine t_ymSameL _ _ _ ?_
    simp only [s_ymSameL, List.length_map, h2, Int.natCast_nonneg, nthE, Int.toNat_natCast, List.getElem?_map, hget, hg2, Option.map_some, OA_asm, OA_chk, OA_call, OA_callx, OA_loop, OA_both_id, u_asA, u_asC, u_asI, u_asB, u_asS, u_asL, u_asOwn, u_asN, u_asRef0, Option.bind_some, nbeq, Nm_beq_self, decide_true, cond_true, cond_false, c, e1]
    by_cases e : a = g
    · simp only [e, decide_true, Bool.not_true, cond_false, h, List.cons.injEq, true_and]
    · simp [e]
theorem c_mSame (x y : Man) (hx : x.ok) (hy : y.ok) (hs : x.sml) : tbl E0 23 [manV x, manV y] [] = some ([.bool (decide (x = y))], []) :=
  t_mSame x y (by
    obtain ⟨h1, h2, h3, h4⟩ := hx
    obtain ⟨g1, g2, g3, g4⟩ := hy
    obtain ⟨s1, s2, s3⟩ := hs
    have c1 := c_sSame x.sch y.sch s1
    have c2 := c_EqFL x.links y.links s2 (fun a ha => ⟨h3 a ha, s3 a ha⟩) g3
    simp only [schV, lnksV] at c1 c2
    simp only [s_mSame, OA_asm, OA_chk, OA_call, OA_callx, OA_loop, OA_both_id, u_asA, u_asC, u_asI, u_asB, u_asS, u_asL, u_asOwn, u_asN, u_asRef0, Option.bind_some, nbeq, Nm_beq_self, decide_true, cond_true, cond_false, OA_join, c1, c2, wrap0 h1 g1, wrap0 h4 g4]
    simp only [tok_cond, Option.bind_some, Tok.untok_tok, cond_ff, Bool.and_true, man_eq])
theorem c_ymSame (x y : Man) (hs : x.sml) : tbl E0 24 [manV x, manV y] [] = some ([.bool (decide (x = y))], []) :=
  t_ymSame x y (by
    have c1 := c_ySame x.sch y.sch hs.1
    simp only [schV] at c1
    simp only [s_ymSame, OA_asm, OA_chk, OA_call, OA_callx, OA_loop, OA_both_id, u_asA, u_asC, u_asI, u_asB, u_asS, u_asL, u_asOwn, u_asN, u_asRef0, Option.bind_some, nbeq, Nm_beq_self, decide_true, cond_true, cond_false, OA_join, c1, List.length_map]
    simp only [tok_cond, Option.bind_some, Tok.untok_tok, cond_tt, man_eq]
    generalize hq : (x.ver != y.ver || (x.img != y.img || (!decide (x.sch = y.sch) || ((x.links.length : Int) != y.links.length)))) = q
    rcases bor q with hb | hb
    · subst hb
      have : ((x.ver == y.ver && x.img == y.img) && (decide (x.sch = y.sch) && decide (x.links = y.links))) = false := by
        rw [Bool.eq_false_iff]
        intro h
        simp only [Bool.and_eq_true, beq_iff_eq, decide_eq_true_eq] at h
        obtain ⟨⟨a1, a2⟩, a3, a4⟩ := h
        simp [a1, a2, a3, a4] at hq
      rw [this]
      rfl
    · rw [hb] at hq
      simp only [Bool.or_eq_false_iff, bne_eq_false_iff_eq, Bool.not_eq_false', decide_eq_true_eq] at hq
      obtain ⟨a1, a2, a3, a4⟩ := hq
      have k := c_ymSameL x y hs (by omega) x.links y.links 0 rfl rfl
      simp only [Int.natCast_zero, manC] at k
      have hR : ((x.ver == y.ver && x.img == y.img) && (decide (x.sch = y.sch) && decide (x.links = y.links))) = decide (x.links = y.links) := by simp [a1, a2, a3]
      rw [hR]
      simp only [hb, cond_false, OA_loop, k]
      by_cases e : x.links = y.links <;> simp [e])
theorem awake30 : tbl E0 20 [] [] = some ([.bool true], []) := tbl_iff.2 ⟨300, by kernel_rfl⟩
theorem c_mRight (x : Man) (hx : x.ok) (hs : x.sml) : tbl E0 21 [manV x] [] = some ([.bool (manS x)], []) :=
  t_mRight x (by
    have c := c_mPrint x hx hs
    simp only [manV, manC] at c
    have e : ((if manS x = true then (0 : Int) else 2) == 0) = manS x := by rcases bor (manS x) with q | q <;> simp [q]
    simp only [s_mRight, OA_asm, OA_chk, OA_call, OA_callx, OA_loop, OA_both_id, u_asA, u_asC, u_asI, u_asB, u_asS, u_asL, u_asOwn, u_asN, u_asRef0, Option.bind_some, nbeq, Nm_beq_self, decide_true, cond_true, cond_false, c, e])
theorem c_ManifestRight (x y : Man) (hx : x.ok) (hy : y.ok) : tbl E0 4 [manV x, manV y] [] = some ([.bool true], []) :=
  t_ManifestRight x y (by
    have g1 := c_mGreat x
    have g2 := c_mGreat y
    simp only [manV, manC] at g1 g2
    rcases bor (greatM x) with h | h
    · rw [h] at g1
      simp only [s_ManifestRight, OA_asm, OA_chk, OA_call, OA_callx, OA_loop, OA_both_id, u_asA, u_asC, u_asI, u_asB, u_asS, u_asL, u_asOwn, u_asN, u_asRef0, Option.bind_some, nbeq, Nm_beq_self, decide_true, cond_true, cond_false, OA_join, g1, awake30, Tok.untok_tok]
    · rw [h] at g1
      rcases bor (greatM y) with h' | h'
      · rw [h'] at g2
        simp only [s_ManifestRight, OA_asm, OA_chk, OA_call, OA_callx, OA_loop, OA_both_id, u_asA, u_asC, u_asI, u_asB, u_asS, u_asL, u_asOwn, u_asN, u_asRef0, Option.bind_some, nbeq, Nm_beq_self, decide_true, cond_true, cond_false, OA_join, g1, g2, awake30, Tok.untok_tok]
      · rw [h'] at g2
        have sx := greatM_sml h
        have c1 := c_mRight x hx sx
        have c2 := c_ymRight x sx
        have c3 := c_mSame x y hx hy sx
        have c4 := c_ymSame x y sx
        have c5 := c_mSame x x hx hx sx
        simp only [manV, manC] at c1 c2 c3 c4 c5
        simp only [s_ManifestRight, OA_asm, OA_chk, OA_call, OA_callx, OA_loop, OA_both_id, u_asA, u_asC, u_asI, u_asB, u_asS, u_asL, u_asOwn, u_asN, u_asRef0, Option.bind_some, nbeq, Nm_beq_self, decide_true, cond_true, cond_false, OA_join, g1, g2, c1, c2, c3, c4, c5, beq_self_eq_true, awake30, Tok.untok_tok])
end Go.Proofs.Ytmpfeofeokmooaa.V
namespace Go.Proofs.Ytmpfeofeokmooaa.V
open Go
variable {H : Type}
theorem fitAll_two {t u : Nat} {d e : DataW H} {m : Nat} {xs : List AV} (h : FitAll T0 m [t, u] [d, e] xs) : ∃ x ys y zs, xs = [x, y] ∧ Fit T0 m t d ys ∧ ElemOf (T0.ty t) x ys ∧ Fit T0 m u e zs ∧ ElemOf (T0.ty u) y zs := by
  obtain ⟨d', ds, x, xs', e1, rfl, ⟨ys, h0, h1⟩, h⟩ := each3_cons h
  cases e1
  obtain ⟨d', ds, y, xs', e1, rfl, ⟨zs, h2, h3⟩, h⟩ := each3_cons h
  obtain ⟨rfl, rfl⟩ := each3_nil h
  cases e1
  exact ⟨x, ys, y, zs, rfl, h0, h1, h2, h3⟩
end Go.Proofs.Ytmpfeofeokmooaa.V
namespace Go.Proofs.Ytmpfeofeokmooaa.V
open Go
variable {H : Type}
theorem each_all {α β : Type} {q : β → Prop} : ∀ {l : List α} {r : List β}, Each (fun _ b => q b) l r → ∀ {b : β}, b ∈ r → q b := by
  intro l r h b hb
  obtain ⟨i, hi, e⟩ := List.mem_iff_getElem.1 hb
  obtain ⟨a, _, h2⟩ := h.get i b (by rw [← e]; exact List.getElem?_eq_getElem hi)
  exact h2
theorem fit_fld {n : Nat} {d : DataW H} {xs : List AV} (hf : Fit T0 (n + 2) 47 d xs) : ∃ f : Fld, f.ok ∧ xs = fldC f := by
  obtain ⟨ds, yss, rfl, rfl, h⟩ := fit_struct (fs := [(0, 3), (1, 3), (2, 3), (3, 3), (4, 3)]) (by kernel_rfl) hf
  obtain ⟨d0, ds, y0, yss, rfl, rfl, h0, h⟩ := each3_cons h
  obtain ⟨d1, ds, y1, yss, rfl, rfl, h1, h⟩ := each3_cons h
  obtain ⟨d2, ds, y2, yss, rfl, rfl, h2, h⟩ := each3_cons h
  obtain ⟨d3, ds, y3, yss, rfl, rfl, h3, h⟩ := each3_cons h
  obtain ⟨d4, ds, y4, yss, rfl, rfl, h4, h⟩ := each3_cons h
  obtain ⟨rfl, rfl⟩ := each3_nil h
  obtain ⟨a, ha, rfl, rfl⟩ := fit_i64 (by kernel_rfl) h0
  obtain ⟨b, hb, rfl, rfl⟩ := fit_i64 (by kernel_rfl) h1
  obtain ⟨c, hc, rfl, rfl⟩ := fit_i64 (by kernel_rfl) h2
  obtain ⟨e, he, rfl, rfl⟩ := fit_i64 (by kernel_rfl) h3
  obtain ⟨g, hg, rfl, rfl⟩ := fit_i64 (by kernel_rfl) h4
  exact ⟨⟨a, b, c, e, g⟩, ⟨ha, hb, hc, he, hg⟩, rfl⟩
theorem fit_flds {n : Nat} {d : DataW H} {xs : List AV} (hf : Fit T0 (n + 3) 51 d xs) : ∃ l : List Fld, (∀ f ∈ l, f.ok) ∧ xs = [fldsV l] := by
  obtain ⟨ds, sp, l, hd, rfl, h⟩ := fit_slice (e := 47) (by kernel_rfl) hf
  obtain ⟨cs, rfl, hq⟩ := each_map (f := fldV) (Q := fun d f => f.ok) (fun d x ⟨ys, h1, h2⟩ => by
    obtain ⟨f, hf, rfl⟩ := fit_fld h1
    exact ⟨f, elem_agg (by kernel_rfl) h2, hf⟩) h
  exact ⟨cs, fun f hf => each_all hq hf, rfl⟩
theorem fit_frm {n : Nat} {d : DataW H} {xs : List AV} (hf : Fit T0 (n + 4) 72 d xs) : ∃ f : Frm, f.ok ∧ xs = [.int .i64 f.id, fldsV f.fields] := by
  obtain ⟨ds, yss, rfl, rfl, h⟩ := fit_struct (fs := [(0, 3), (1, 51)]) (by kernel_rfl) hf
  obtain ⟨d0, ds, y0, yss, rfl, rfl, h0, h⟩ := each3_cons h
  obtain ⟨d1, ds, y1, yss, rfl, rfl, h1, h⟩ := each3_cons h
  obtain ⟨rfl, rfl⟩ := each3_nil h
  obtain ⟨a, ha, rfl, rfl⟩ := fit_i64 (by kernel_rfl) h0
  obtain ⟨l, hl, rfl⟩ := fit_flds h1
  exact ⟨⟨a, l⟩, ⟨ha, hl⟩, rfl⟩
theorem fit_frms {n : Nat} {d : DataW H} {xs : List AV} (hf : Fit T0 (n + 5) 22 d xs) : ∃ l : List Frm, (∀ f ∈ l, f.ok) ∧ xs = [frmsV l] := by
  obtain ⟨ds, sp, l, hd, rfl, h⟩ := fit_slice (e := 72) (by kernel_rfl) hf
  obtain ⟨cs, rfl, hq⟩ := each_map (f := frmV) (Q := fun d f => f.ok) (fun d x ⟨ys, h1, h2⟩ => by
    obtain ⟨f, hf, rfl⟩ := fit_frm h1
    exact ⟨f, elem_agg (by kernel_rfl) h2, hf⟩) h
  exact ⟨cs, fun f hf => each_all hq hf, rfl⟩
theorem fit_sch {n : Nat} {d : DataW H} {xs : List AV} (hf : Fit T0 (n + 6) 24 d xs) : ∃ s : Sch, s.ok ∧ xs = [.int .i64 s.ver, frmsV s.forms] := by
  obtain ⟨ds, yss, rfl, rfl, h⟩ := fit_struct (fs := [(0, 3), (1, 22)]) (by kernel_rfl) hf
  obtain ⟨d0, ds, y0, yss, rfl, rfl, h0, h⟩ := each3_cons h
  obtain ⟨d1, ds, y1, yss, rfl, rfl, h1, h⟩ := each3_cons h
  obtain ⟨rfl, rfl⟩ := each3_nil h
  obtain ⟨a, ha, rfl, rfl⟩ := fit_i64 (by kernel_rfl) h0
  obtain ⟨l, hl, rfl⟩ := fit_frms h1
  exact ⟨⟨a, l⟩, ⟨ha, hl⟩, rfl⟩
end Go.Proofs.Ytmpfeofeokmooaa.V
namespace Go.Proofs.Ytmpfeofeokmooaa.V
open Go
variable {H : Type}
theorem fit_ints {n : Nat} {d : DataW H} {xs : List AV} (hf : Fit T0 (n + 2) 50 d xs) : ∃ l : List Int, (∀ n ∈ l, i64 n) ∧ xs = [intsV l] := by
  obtain ⟨ds, sp, l, hd, rfl, h⟩ := fit_slice (e := 3) (by kernel_rfl) hf
  obtain ⟨cs, rfl, hq⟩ := each_map (f := fun n => AV.int .i64 n) (Q := fun d n => i64 n) (fun d x ⟨ys, h1, h2⟩ => by
    obtain ⟨a, ha, rfl, rfl⟩ := fit_i64 (by kernel_rfl) h1
    have q := elem_one (by kernel_rfl) h2
    injection q with q
    exact ⟨a, q.symm, ha⟩) h
  exact ⟨cs, fun f hf => each_all hq hf, rfl⟩
theorem fit_val {n : Nat} {d : DataW H} {xs : List AV} (hf : Fit T0 (n + 2) 49 d xs) : ∃ (a : Int) (s : List UInt8), i64 a ∧ xs = [.int .i64 a, .str s] := by
  obtain ⟨ds, yss, rfl, rfl, h⟩ := fit_struct (fs := [(0, 3), (1, 9)]) (by kernel_rfl) hf
  obtain ⟨d0, ds, y0, yss, rfl, rfl, h0, h⟩ := each3_cons h
  obtain ⟨d1, ds, y1, yss, rfl, rfl, h1, h⟩ := each3_cons h
  obtain ⟨rfl, rfl⟩ := each3_nil h
  obtain ⟨a, ha, rfl, rfl⟩ := fit_i64 (by kernel_rfl) h0
  obtain ⟨s, rfl, rfl⟩ := fit_str (by kernel_rfl) h1
  exact ⟨a, s, ha, rfl⟩
theorem fit_stp {n : Nat} {d : DataW H} {xs : List AV} (hf : Fit T0 (n + 4) 53 d xs) : ∃ x : Stp, x.ok ∧ xs = stpC x := by
  obtain ⟨ds, yss, rfl, rfl, h⟩ := fit_struct (fs := [(0, 3), (1, 3), (2, 3), (3, 3), (4, 3), (5, 3), (6, 3), (7, 47), (12, 49), (14, 50), (15, 51)]) (by kernel_rfl) hf
  obtain ⟨d0, ds, y0, yss, rfl, rfl, h0, h⟩ := each3_cons h
  obtain ⟨d1, ds, y1, yss, rfl, rfl, h1, h⟩ := each3_cons h
  obtain ⟨d2, ds, y2, yss, rfl, rfl, h2, h⟩ := each3_cons h
  obtain ⟨d3, ds, y3, yss, rfl, rfl, h3, h⟩ := each3_cons h
  obtain ⟨d4, ds, y4, yss, rfl, rfl, h4, h⟩ := each3_cons h
  obtain ⟨d5, ds, y5, yss, rfl, rfl, h5, h⟩ := each3_cons h
  obtain ⟨d6, ds, y6, yss, rfl, rfl, h6, h⟩ := each3_cons h
  obtain ⟨d7, ds, y7, yss, rfl, rfl, h7, h⟩ := each3_cons h
  obtain ⟨d8, ds, y8, yss, rfl, rfl, h8, h⟩ := each3_cons h
  obtain ⟨d9, ds, y9, yss, rfl, rfl, h9, h⟩ := each3_cons h
  obtain ⟨dA, ds, yA, yss, rfl, rfl, hA, h⟩ := each3_cons h
  obtain ⟨rfl, rfl⟩ := each3_nil h
  obtain ⟨a0, i0, rfl, rfl⟩ := fit_i64 (by kernel_rfl) h0
  obtain ⟨a1, i1, rfl, rfl⟩ := fit_i64 (by kernel_rfl) h1
  obtain ⟨a2, i2, rfl, rfl⟩ := fit_i64 (by kernel_rfl) h2
  obtain ⟨a3, i3, rfl, rfl⟩ := fit_i64 (by kernel_rfl) h3
  obtain ⟨a4, i4, rfl, rfl⟩ := fit_i64 (by kernel_rfl) h4
  obtain ⟨a5, i5, rfl, rfl⟩ := fit_i64 (by kernel_rfl) h5
  obtain ⟨a6, i6, rfl, rfl⟩ := fit_i64 (by kernel_rfl) h6
  obtain ⟨f, i7, rfl⟩ := fit_fld h7
  obtain ⟨a8, s, i8, rfl⟩ := fit_val h8
  obtain ⟨t, i9, rfl⟩ := fit_ints h9
  obtain ⟨fs, iA, rfl⟩ := fit_flds hA
  exact ⟨⟨a0, a1, a2, a3, a4, a5, a6, f, a8, s, t, fs⟩, ⟨i0, i1, i2, i3, i4, i5, i6, i7, i8, i9, iA⟩, rfl⟩
theorem fit_stps {n : Nat} {d : DataW H} {xs : List AV} (hf : Fit T0 (n + 5) 25 d xs) : ∃ l : List Stp, (∀ f ∈ l, f.ok) ∧ xs = [stpsV l] := by
  obtain ⟨ds, sp, l, hd, rfl, h⟩ := fit_slice (e := 53) (by kernel_rfl) hf
  obtain ⟨cs, rfl, hq⟩ := each_map (f := stpV) (Q := fun d f => f.ok) (fun d x ⟨ys, h1, h2⟩ => by
    obtain ⟨f, hf, rfl⟩ := fit_stp h1
    exact ⟨f, elem_agg (by kernel_rfl) h2, hf⟩) h
  exact ⟨cs, fun f hf => each_all hq hf, rfl⟩
end Go.Proofs.Ytmpfeofeokmooaa.V
namespace Go.Proofs.Ytmpfeofeokmooaa.V
open Go
variable {H : Type}
theorem fit_lnk {n : Nat} {d : DataW H} {xs : List AV} (hf : Fit T0 (n + 7) 27 d xs) : ∃ x : Lnk, x.ok ∧ xs = lnkC x := by
  obtain ⟨ds, yss, rfl, rfl, h⟩ := fit_struct (fs := [(0, 3), (1, 24), (3, 25), (4, 25)]) (by kernel_rfl) hf
  obtain ⟨d0, ds, y0, yss, rfl, rfl, h0, h⟩ := each3_cons h
  obtain ⟨d1, ds, y1, yss, rfl, rfl, h1, h⟩ := each3_cons h
  obtain ⟨d2, ds, y2, yss, rfl, rfl, h2, h⟩ := each3_cons h
  obtain ⟨d3, ds, y3, yss, rfl, rfl, h3, h⟩ := each3_cons h
  obtain ⟨rfl, rfl⟩ := each3_nil h
  obtain ⟨a, ha, rfl, rfl⟩ := fit_i64 (by kernel_rfl) h0
  obtain ⟨s, hs, rfl⟩ := fit_sch h1
  obtain ⟨l, hl, rfl⟩ := fit_stps h2
  obtain ⟨m, hm, rfl⟩ := fit_stps h3
  exact ⟨⟨a, s, l, m⟩, ⟨ha, hs, hl, hm⟩, rfl⟩
end Go.Proofs.Ytmpfeofeokmooaa.V
namespace Go.Proofs.Ytmpfeofeokmooaa.V
open Go
variable {H : Type}
theorem fit_lnks {n : Nat} {d : DataW H} {xs : List AV} (hf : Fit T0 (n + 8) 31 d xs) : ∃ l : List Lnk, (∀ f ∈ l, f.ok) ∧ xs = [lnksV l] := by
  obtain ⟨ds, sp, l, hd, rfl, h⟩ := fit_slice (e := 27) (by kernel_rfl) hf
  obtain ⟨cs, rfl, hq⟩ := each_map (f := lnkV) (Q := fun d f => f.ok) (fun d x ⟨ys, h1, h2⟩ => by
    obtain ⟨f, hf, rfl⟩ := fit_lnk h1
    exact ⟨f, elem_agg (by kernel_rfl) h2, hf⟩) h
  exact ⟨cs, fun f hf => each_all hq hf, rfl⟩
theorem fit_man {n : Nat} {d : DataW H} {xs : List AV} (hf : Fit T0 (n + 9) 33 d xs) : ∃ x : Man, x.ok ∧ xs = manC x := by
  obtain ⟨ds, yss, rfl, rfl, h⟩ := fit_struct (fs := [(0, 3), (1, 24), (3, 31), (4, 3)]) (by kernel_rfl) hf
  obtain ⟨d0, ds, y0, yss, rfl, rfl, h0, h⟩ := each3_cons h
  obtain ⟨d1, ds, y1, yss, rfl, rfl, h1, h⟩ := each3_cons h
  obtain ⟨d2, ds, y2, yss, rfl, rfl, h2, h⟩ := each3_cons h
  obtain ⟨d3, ds, y3, yss, rfl, rfl, h3, h⟩ := each3_cons h
  obtain ⟨rfl, rfl⟩ := each3_nil h
  obtain ⟨a, ha, rfl, rfl⟩ := fit_i64 (by kernel_rfl) h0
  obtain ⟨s, hs, rfl⟩ := fit_sch h1
  obtain ⟨l, hl, rfl⟩ := fit_lnks h2
  obtain ⟨b, hb, rfl, rfl⟩ := fit_i64 (by kernel_rfl) h3
  exact ⟨⟨a, s, l, b⟩, ⟨ha, hs, hl, hb⟩, rfl⟩
theorem l_ManifestRight (d0 d1 : DataW H) (xs : List AV) (hf : FitAll T0 9 Try.f4.params.toList [d0, d1] xs) (hk : (DataW.weightsEach Try.prog (Try.f4.params.toList ++ Rows.manifestRightSpec.plain.varTypes Try.prog) ([d0, d1] ++ [])).all (· ≤ reachBytes) = true) :
    tbl E0 4 xs [] = some ([.bool true], []) := by
  obtain ⟨x, ys, y, zs, rfl, h1, h2, h3, h4⟩ := fitAll_two (t := 33) (u := 33) hf
  obtain ⟨s, hs, rfl⟩ := fit_man h1
  obtain ⟨t, ht, rfl⟩ := fit_man h3
  have e1 := elem_agg (by kernel_rfl) h2
  have e2 := elem_agg (by kernel_rfl) h4
  subst e1; subst e2
  exact c_ManifestRight s t hs ht
end Go.Proofs.Ytmpfeofeokmooaa.V
namespace Go.Proofs.Ytmpfeofeokmooaa.manifestRight
open Go Go.ChangeShapes Go.WideShapes Go.ChangeAt Go.RowKit Go.Proofs.Ytmpfeofeokmooaa.V
theorem own : ownKnob Try.prog.godebug = none := by kernel_rfl
set_option maxRecDepth 100000 in
theorem contract (H : Type) (enc : TypeId × Value → H) (W : World) (base : Nat) (args : Array Value) (ds gs : List (DataW H)) (before : List MemPlace)
    (hval : ∀ (j : Nat) t v, Try.f4.params[j]? = some t → args[j]? = some v → Value.okWide Try.prog W .any base t v)
    (hW : DataW.Whole enc Try.prog Try.f4.params.toList Rows.manifestRightSpec.vars false W args.toList ds gs before) (hk : (DataW.weightsEach Try.prog (Try.f4.params.toList ++ Rows.manifestRightSpec.plain.varTypes Try.prog) (ds ++ gs)).all (· ≤ reachBytes) = true) :
    Calls Try.prog 4 args W fun e W' => ∃ v, e = .returned v ∧ Rows.manifestRightSpec.post enc Try.prog Try.f4 false true false false W args v W' := by
  obtain ⟨p, q, hA, hV, hps, hfz, hnd⟩ := id hW
  obtain ⟨rfl, rfl⟩ := trodVars_none hV
  have hlen := trodAll_length hA
  obtain ⟨d0, d1, rfl⟩ : ∃ d0 d1, ds = [d0, d1] := by
    match ds, hlen with
    | [d0, d1], _ => exact ⟨d0, d1, rfl⟩
  refine (law_calls (E := E0) E0_ok (m := 9) (ts := Try.f4.params.toList) (by kernel_rfl) (fun j t v h1 h2 => hval j t v (by simpa using h1) (by simpa using h2)) hA (fun xs hf => l_ManifestRight d0 d1 xs hf hk)).mono fun e W' ⟨he, bel⟩ => ?_
  subst he
  exact ⟨_, rfl, law_post (tb := 4) (by kernel_rfl) (by kernel_rfl) (by kernel_rfl) Try.underlying4 rfl rfl hW hA bel⟩
set_option maxRecDepth 100000 in
theorem lifted (os : Os) (started : os.Started) (H : Type) (enc : TypeId × Value → H) :
    ReturnsInHanded {} Try.checked os 4 .any (Rows.manifestRightSpec.pre6 enc Try.prog Try.f4 Rows.manifestRightRow.domain false) (Rows.manifestRightSpec.post enc Try.prog Try.f4 false true false false) := by
  refine returnsInHanded_of_change_sized (C := Try.checked) own started (by kernel_rfl) Try.func4
    (ChangeSpec.witness6 (enc := enc) (C := Try.checked) false ⟨#[], #[.agg #[.int .i64 0, .int .i64 0, .slice none 0 0, .slice none 0 0, .int .i64 0], .agg #[.int .i64 0, .int .i64 0, .slice none 0 0, .slice none 0 0, .int .i64 0]], []⟩ 9 (by kernel_rfl) (by kernel_rfl) (by kernel_rfl) (by kernel_rfl)) ?_
  intro W base args ds gs before hval hW _ hk _
  exact contract H enc W base args ds gs before hval hW hk
theorem proved : Rows.ManifestRightSaid :=
  OpenClaim.holds_of_wide 4 Try.f4 rfl rfl rfl rfl rfl rfl rfl ⟨rfl, rfl, rfl, rfl, rfl⟩ rfl rfl rfl rfl rfl (by kernel_rfl) Try.func4 (by kernel_rfl)
    (of_decide_eq_true (by kernel_rfl)) (by unfold Func.isWrapper; first | (rw [if_pos (by decide +kernel)]; kernel_rfl) | (rw [if_neg (by decide +kernel)]; exact ⟨rfl, rfl⟩))
    (fun os started H enc _ => lifted os started H enc)
end Go.Proofs.Ytmpfeofeokmooaa.manifestRight
namespace Go.Proofs.Ytmpfeofeokmooaa
theorem manifestRight_holds : Rows.ManifestRightSaid := manifestRight.proved
end Go.Proofs.Ytmpfeofeokmooaa
