/- Part 5 of the proof that: Manifests' bytes are as the document says: ManifestBytes. -/
import Derived.Test.YtmpfeofeokmooaaGreatKBd
set_option linter.unusedVariables false
set_option linter.unusedSimpArgs false
namespace Go.Proofs.YtmpfeofeokmooaaGreat.V
open Go
open AV (int lst agg str bool ref clo)
open List (map)
abbrev stpO (x : Stp) (k m : Nm) : List AV := [.int .i64 x.op, .int .i64 x.form, .int .i64 x.field, .int .i64 x.place, .int .i64 x.to, .int .i64 x.a, .int .i64 x.b, .int .i64 x.f.id, .int .i64 x.f.kind, .int .i64 x.f.lo, .int .i64 x.f.hi, .int .i64 x.f.most, .int .i64 x.n, .str x.s, .lst (.own k) 1 (x.t.map fun n => AV.int .i64 n), .lst (.own m) 5 (x.fields.map fldV)]
def s_writeField {α : Type} (A : Alg α) (b : List AV) (x : Fld) (e : Int) (kc : List AV → List (Nat × List AV) → α) : α :=
  A.chk true (A.call 26 [ref 0 0, int .i64 x.id] [(0, [lst (.own (.E 0 0)) 1 b, int .i64 e])] fun l0 l1 => asC A l1 fun x2 l3 => bif (x2.1.beq 0) then (asC A x2.2 fun v4 l5 => asOwn A 1 v4 fun x6 l7 => asC A l5 fun v8 l9 => asI A .i64 v8 fun n10 => asN A l9 (asN A l0 (asN A l3 (A.call 26 [ref 0 0, int .i64 x.kind] [(0, [lst (.own (.E 0 0)) 1 l7, int .i64 n10])] fun l11 l12 => asC A l12 fun x13 l14 => bif (x13.1.beq 0) then (asC A x13.2 fun v15 l16 => asOwn A 1 v15 fun x17 l18 => asC A l16 fun v19 l20 => asI A .i64 v19 fun n21 => asN A l20 (asN A l11 (asN A l14 (A.call 84 [ref 0 0, int .i64 x.lo] [(0, [lst (.own (.E 0 0)) 1 l18, int .i64 n21])] fun l22 l23 => asC A l23 fun x24 l25 => bif (x24.1.beq 0) then (asC A x24.2 fun v26 l27 => asOwn A 1 v26 fun x28 l29 => asC A l27 fun v30 l31 => asI A .i64 v30 fun n32 => asN A l31 (asN A l22 (asN A l25 (A.call 84 [ref 0 0, int .i64 x.hi] [(0, [lst (.own (.E 0 0)) 1 l29, int .i64 n32])] fun l33 l34 => asC A l34 fun x35 l36 => bif (x35.1.beq 0) then (asC A x35.2 fun v37 l38 => asOwn A 1 v37 fun x39 l40 => asC A l38 fun v41 l42 => asI A .i64 v41 fun n43 => asN A l42 (asN A l33 (asN A l36 (A.call 26 [ref 0 0, int .i64 x.most] [(0, [lst (.own (.E 0 0)) 1 l40, int .i64 n43])] fun l44 l45 => asC A l45 fun x46 l47 => bif (x46.1.beq 0) then (asC A x46.2 fun v48 l49 => asOwn A 1 v48 fun x50 l51 => asC A l49 fun v52 l53 => asI A .i64 v52 fun n54 => asN A l53 (asN A l44 (asN A l47 (kc [] [(0, [lst (.own (.E 0 0)) 1 l51, int .i64 n54])])))) else A.fail)))) else A.fail)))) else A.fail)))) else A.fail)))) else A.fail)
def s_twrite {α : Type} (A : Alg α) (b : List AV) (x : Stp) (p : Int) (e : Int) (kc : List AV → List (Nat × List AV) → α) : α :=
  A.chk true (bif (p == (0 : Int)) then (A.call 26 [ref 0 0, int .i64 x.form] [(0, [lst (.own (.E 0 0)) 1 b, int .i64 e])] fun l0 l1 => asC A l1 fun x2 l3 => bif (x2.1.beq 0) then (asC A x2.2 fun v4 l5 => asOwn A 1 v4 fun x6 l7 => asC A l5 fun v8 l9 => asI A .i64 v8 fun n10 => asN A l9 (asN A l0 (asN A l3 (kc [] [(0, [lst (.own (.E 0 0)) 1 l7, int .i64 n10])])))) else A.fail) else (bif (p == (1 : Int)) then (A.call 26 [ref 0 0, int .i64 x.field] [(0, [lst (.own (.E 0 0)) 1 b, int .i64 e])] fun l11 l12 => asC A l12 fun x13 l14 => bif (x13.1.beq 0) then (asC A x13.2 fun v15 l16 => asOwn A 1 v15 fun x17 l18 => asC A l16 fun v19 l20 => asI A .i64 v19 fun n21 => asN A l20 (asN A l11 (asN A l14 (kc [] [(0, [lst (.own (.E 0 0)) 1 l18, int .i64 n21])])))) else A.fail) else (bif (p == (2 : Int)) then (A.call 26 [ref 0 0, int .i64 x.place] [(0, [lst (.own (.E 0 0)) 1 b, int .i64 e])] fun l22 l23 => asC A l23 fun x24 l25 => bif (x24.1.beq 0) then (asC A x24.2 fun v26 l27 => asOwn A 1 v26 fun x28 l29 => asC A l27 fun v30 l31 => asI A .i64 v30 fun n32 => asN A l31 (asN A l22 (asN A l25 (kc [] [(0, [lst (.own (.E 0 0)) 1 l29, int .i64 n32])])))) else A.fail) else (bif (p == (3 : Int)) then (A.call 26 [ref 0 0, int .i64 x.to] [(0, [lst (.own (.E 0 0)) 1 b, int .i64 e])] fun l33 l34 => asC A l34 fun x35 l36 => bif (x35.1.beq 0) then (asC A x35.2 fun v37 l38 => asOwn A 1 v37 fun x39 l40 => asC A l38 fun v41 l42 => asI A .i64 v41 fun n43 => asN A l42 (asN A l33 (asN A l36 (kc [] [(0, [lst (.own (.E 0 0)) 1 l40, int .i64 n43])])))) else A.fail) else (bif (p == (4 : Int)) then (A.call 26 [ref 0 0, int .i64 x.a] [(0, [lst (.own (.E 0 0)) 1 b, int .i64 e])] fun l44 l45 => asC A l45 fun x46 l47 => bif (x46.1.beq 0) then (asC A x46.2 fun v48 l49 => asOwn A 1 v48 fun x50 l51 => asC A l49 fun v52 l53 => asI A .i64 v52 fun n54 => asN A l53 (asN A l44 (asN A l47 (kc [] [(0, [lst (.own (.E 0 0)) 1 l51, int .i64 n54])])))) else A.fail) else (bif (p == (5 : Int)) then (A.call 84 [ref 0 0, int .i64 x.a] [(0, [lst (.own (.E 0 0)) 1 b, int .i64 e])] fun l55 l56 => asC A l56 fun x57 l58 => bif (x57.1.beq 0) then (asC A x57.2 fun v59 l60 => asOwn A 1 v59 fun x61 l62 => asC A l60 fun v63 l64 => asI A .i64 v63 fun n65 => asN A l64 (asN A l55 (asN A l58 (A.call 84 [ref 0 0, int .i64 x.b] [(0, [lst (.own (.E 0 0)) 1 l62, int .i64 n65])] fun l66 l67 => asC A l67 fun x68 l69 => bif (x68.1.beq 0) then (asC A x68.2 fun v70 l71 => asOwn A 1 v70 fun x72 l73 => asC A l71 fun v74 l75 => asI A .i64 v74 fun n76 => asN A l75 (asN A l66 (asN A l69 (kc [] [(0, [lst (.own (.E 0 0)) 1 l73, int .i64 n76])])))) else A.fail)))) else A.fail) else (bif (p == (6 : Int)) then (A.chk true (A.call 88 [ref 0 0, agg [int .i64 x.f.id, int .i64 x.f.kind, int .i64 x.f.lo, int .i64 x.f.hi, int .i64 x.f.most]] [(0, [lst (.own (.E 0 0)) 1 b, int .i64 e])] fun l77 l78 => asC A l78 fun x79 l80 => bif (x79.1.beq 0) then (asC A x79.2 fun v81 l82 => asOwn A 1 v81 fun x83 l84 => asC A l82 fun v85 l86 => asI A .i64 v85 fun n87 => asN A l86 (asN A l77 (asN A l80 (kc [] [(0, [lst (.own (.E 0 0)) 1 l84, int .i64 n87])])))) else A.fail)) else (bif (p == (7 : Int)) then (A.call 84 [ref 0 0, int .i64 x.n] [(0, [lst (.own (.E 0 0)) 1 b, int .i64 e])] fun l88 l89 => asC A l89 fun x90 l91 => bif (x90.1.beq 0) then (asC A x90.2 fun v92 l93 => asOwn A 1 v92 fun x94 l95 => asC A l93 fun v96 l97 => asI A .i64 v96 fun n98 => asN A l97 (asN A l88 (asN A l91 (A.call 27 [ref 0 0, str x.s] [(0, [lst (.own (.E 0 0)) 1 l95, int .i64 n98])] fun l99 l100 => asC A l100 fun x101 l102 => bif (x101.1.beq 0) then (asC A x101.2 fun v103 l104 => asOwn A 1 v103 fun x105 l106 => asC A l104 fun v107 l108 => asI A .i64 v107 fun n109 => asN A l108 (asN A l99 (asN A l102 (kc [] [(0, [lst (.own (.E 0 0)) 1 l106, int .i64 n109])])))) else A.fail)))) else A.fail) else (bif (p == (8 : Int)) then (A.asm ((map (fun n => int .i64 n) x.t).length ≤ maxL) (A.call 26 [ref 0 0, int .i64 (↑(map (fun n => int .i64 n) x.t).length : Int)] [(0, [lst (.own (.E 0 0)) 1 b, int .i64 e])] fun l110 l111 => asC A l111 fun x112 l113 => bif (x112.1.beq 0) then (asC A x112.2 fun v114 l115 => asOwn A 1 v114 fun x116 l117 => asC A l115 fun v118 l119 => asI A .i64 v118 fun n120 => asN A l119 (asN A l110 (asN A l113 (A.asm ((map (fun n => int .i64 n) x.t).length ≤ maxL) (A.loop 23 [lst .ro 1 (map (fun n => int .i64 n) x.t), int .i64 (↑(map (fun n => int .i64 n) x.t).length : Int), int .i64 0] [[lst (.own (.O 0 0)) 1 l117, int .i64 n120]] fun j121 l122 l123 => bif (j121.beq 2) then (asN A l122 (asC A l123 fun l124 l125 => asC A l124 fun v126 l127 => asOwn A 1 v126 fun x128 l129 => bif (x128.beq (.O (0 : Nat) (0 : Nat))) then (asC A l127 fun v130 l131 => asI A .i64 v130 fun n132 => asN A l131 (asN A l125 (kc [] [(0, [lst (.own (.E 0 0)) 1 l129, int .i64 n132])]))) else A.fail)) else A.fail))))) else A.fail)) else (bif (p == (9 : Int)) then (A.asm ((map fldV x.fields).length ≤ maxL) (A.call 26 [ref 0 0, int .i64 (↑(map fldV x.fields).length : Int)] [(0, [lst (.own (.E 0 0)) 1 b, int .i64 e])] fun l133 l134 => asC A l134 fun x135 l136 => bif (x135.1.beq 0) then (asC A x135.2 fun v137 l138 => asOwn A 1 v137 fun x139 l140 => asC A l138 fun v141 l142 => asI A .i64 v141 fun n143 => asN A l142 (asN A l133 (asN A l136 (A.asm ((map fldV x.fields).length ≤ maxL) (A.loop 30 [lst .ro 5 (map fldV x.fields), int .i64 (↑(map fldV x.fields).length : Int), int .i64 0] [[lst (.own (.O 0 0)) 1 l140, int .i64 n143]] fun j144 l145 l146 => bif (j144.beq 4) then (asN A l145 (asC A l146 fun l147 l148 => asC A l147 fun v149 l150 => asOwn A 1 v149 fun x151 l152 => bif (x151.beq (.O (0 : Nat) (0 : Nat))) then (asC A l150 fun v153 l154 => asI A .i64 v153 fun n155 => asN A l154 (asN A l148 (kc [] [(0, [lst (.own (.E 0 0)) 1 l152, int .i64 n155])]))) else A.fail)) else A.fail))))) else A.fail)) else (kc [] [(0, [lst (.own (.E 0 0)) 1 b, int .i64 e])])))))))))))
def s_twriteT {α : Type} (A : Alg α) (l : List Int) (b : List AV) (m : Int) (i : Int) (e : Int) (next : List AV → List (List AV) → α) (kc : Nat → List AV → List (List AV) → α) : α :=
  bif (decide (i < m)) then (A.chk (decide ((0 : Int) ≤ i)) (nthE A (map (fun n => int .i64 n) l) i.toNat fun v0 => asI A .i64 v0 fun n1 => A.call 26 [ref 0 0, int .i64 n1] [(0, [lst (.own (.E 0 0)) 1 b, int .i64 e])] fun l2 l3 => asC A l3 fun x4 l5 => bif (x4.1.beq 0) then (asC A x4.2 fun v6 l7 => asOwn A 1 v6 fun x8 l9 => asC A l7 fun v10 l11 => asI A .i64 v10 fun n12 => asN A l11 (asN A l2 (asN A l5 (next [lst .ro 1 (map (fun n => int .i64 n) l), int .i64 m, int .i64 (IntKind.i64.wrap (i + (1 : Int)))] [[lst (.own (.O 0 0)) 1 l9, int .i64 n12]])))) else A.fail)) else (kc 2 [] [[lst (.own (.O 0 0)) 1 b, int .i64 e]])
def s_twriteF {α : Type} (A : Alg α) (l : List Fld) (b : List AV) (m : Int) (i : Int) (e : Int) (next : List AV → List (List AV) → α) (kc : Nat → List AV → List (List AV) → α) : α :=
  bif (decide (i < m)) then (A.chk (decide ((0 : Int) ≤ i)) (nthE A (map fldV l) i.toNat fun v0 => asA A v0 fun l1 => asC A l1 fun v2 l3 => asI A .i64 v2 fun n4 => asC A l3 fun v5 l6 => asI A .i64 v5 fun n7 => asC A l6 fun v8 l9 => asI A .i64 v8 fun n10 => asC A l9 fun v11 l12 => asI A .i64 v11 fun n13 => asC A l12 fun v14 l15 => asI A .i64 v14 fun n16 => asN A l15 (A.chk true (A.chk true (A.chk true (A.chk true (A.call 88 [ref 0 0, agg [int .i64 n4, int .i64 n7, int .i64 n10, int .i64 n13, int .i64 n16]] [(0, [lst (.own (.E 0 0)) 1 b, int .i64 e])] fun l17 l18 => asC A l18 fun x19 l20 => bif (x19.1.beq 0) then (asC A x19.2 fun v21 l22 => asOwn A 1 v21 fun x23 l24 => asC A l22 fun v25 l26 => asI A .i64 v25 fun n27 => asN A l26 (asN A l17 (asN A l20 (next [lst .ro 5 (map fldV l), int .i64 m, int .i64 (IntKind.i64.wrap (i + (1 : Int)))] [[lst (.own (.O 0 0)) 1 l24, int .i64 n27]])))) else A.fail))))))) else (kc 4 [] [[lst (.own (.O 0 0)) 1 b, int .i64 e]])
def s_tPrint {α : Type} (A : Alg α) (l : List Stp) (kc : List AV → List (Nat × List AV) → α) : α :=
  A.asm ((map stpV l).length ≤ maxL) (bif (decide ((↑(map stpV l).length : Int) > (40 : Int))) then (kc [lst .ro 1 [], int .i64 7] []) else (A.call 25 [] [] fun l0 l1 => asC A l0 fun v2 l3 => asRef0 A v2 fun o4 => bif (o4.beq 64) then (asC A l1 fun x5 l6 => bif (x5.1.beq 64) then (asC A x5.2 fun v7 l8 => asOwn A 1 v7 fun x9 l10 => asC A l8 fun v11 l12 => asI A .i64 v11 fun n13 => asN A l12 (asN A l3 (asN A l6 (A.asm ((map stpV l).length ≤ maxL) (A.call 26 [ref 0 0, int .i64 (↑(map stpV l).length : Int)] [(0, [lst (.own (.E 0 0)) 1 l10, int .i64 n13])] fun l14 l15 => asC A l15 fun x16 l17 => bif (x16.1.beq 0) then (asC A x16.2 fun v18 l19 => asOwn A 1 v18 fun x20 l21 => asC A l19 fun v22 l23 => asI A .i64 v22 fun n24 => asN A l23 (asN A l14 (asN A l17 (A.asm ((map stpV l).length ≤ maxL) (A.loop 6 [lst .ro 16 (map stpV l), int .i64 (↑(map stpV l).length : Int), int .i64 0] [[lst (.own (.O 1012 0)) 1 l21, int .i64 n24]] fun j25 l26 l27 => bif (j25.beq 0) then (asC A l26 fun v28 l29 => asL A 1 v28 fun l30 => asC A l29 fun v31 l32 => asI A .i64 v31 fun n33 => asN A l32 (asN A l27 (kc [lst .ro 1 l30, int .i64 n33] []))) else (bif (j25.beq 1) then (asN A l26 (asC A l27 fun l34 l35 => asC A l34 fun v36 l37 => asOwn A 1 v36 fun x38 l39 => bif (x38.beq (.O (1012 : Nat) (0 : Nat))) then (asC A l37 fun v40 l41 => asI A .i64 v40 fun n42 => asN A l41 (asN A l35 (A.call 28 [ref 0 0] [(0, [lst (.own (.E 0 0)) 1 l39, int .i64 n42])] fun l43 l44 => asC A l44 fun x45 l46 => bif (x45.1.beq 0) then (asC A x45.2 fun v47 l48 => asOwn A 1 v47 fun x49 l50 => asC A l48 fun v51 l52 => asI A .i64 v51 fun n53 => asN A l52 (asC A l43 fun v54 l55 => asL A 1 v54 fun l56 => asC A l55 fun v57 l58 => asI A .i64 v57 fun n59 => asN A l58 (asN A l46 (kc [lst .ro 1 l56, int .i64 n59] [])))) else A.fail))) else A.fail)) else A.fail)))))) else A.fail))))) else A.fail) else A.fail))
def s_tPrintL {α : Type} (A : Alg α) (l : List Stp) (b : List AV) (m : Int) (i : Int) (e : Int) (next : List AV → List (List AV) → α) (kc : Nat → List AV → List (List AV) → α) : α :=
  bif (decide (i < m)) then (A.chk (decide ((0 : Int) ≤ i)) (nthE A (map stpV l) i.toNat fun v0 => asA A v0 fun l1 => asC A l1 fun v2 l3 => asI A .i64 v2 fun n4 => asC A l3 fun v5 l6 => asI A .i64 v5 fun n7 => asC A l6 fun v8 l9 => asI A .i64 v8 fun n10 => asC A l9 fun v11 l12 => asI A .i64 v11 fun n13 => asC A l12 fun v14 l15 => asI A .i64 v14 fun n16 => asC A l15 fun v17 l18 => asI A .i64 v17 fun n19 => asC A l18 fun v20 l21 => asI A .i64 v20 fun n22 => asC A l21 fun v23 l24 => asI A .i64 v23 fun n25 => asC A l24 fun v26 l27 => asI A .i64 v26 fun n28 => asC A l27 fun v29 l30 => asI A .i64 v29 fun n31 => asC A l30 fun v32 l33 => asI A .i64 v32 fun n34 => asC A l33 fun v35 l36 => asI A .i64 v35 fun n37 => asC A l36 fun v38 l39 => asI A .i64 v38 fun n40 => asC A l39 fun v41 l42 => asS A v41 fun l43 => asC A l42 fun v44 l45 => asL A 1 v44 fun l46 => asC A l45 fun v47 l48 => asL A 5 v47 fun l49 => asN A l48 (A.chk true (A.chk true (A.chk true (A.chk true (A.callx 58 [agg [int .i64 n4, int .i64 n7, int .i64 n10, int .i64 n13, int .i64 n16, int .i64 n19, int .i64 n22, int .i64 n25, int .i64 n28, int .i64 n31, int .i64 n34, int .i64 n37, int .i64 n40, str l43, lst .ro 1 l46, lst .ro 5 l49]] fun l50 => asC A l50 fun v51 l52 => asB A v51 fun b53 => asN A l52 (bif (!b53) then (kc 0 [lst .ro 1 [], int .i64 2] []) else (A.call 26 [ref 0 0, int .i64 n4] [(0, [lst (.own (.E 0 0)) 1 b, int .i64 e])] fun l54 l55 => asC A l55 fun x56 l57 => bif (x56.1.beq 0) then (asC A x56.2 fun v58 l59 => asOwn A 1 v58 fun x60 l61 => asC A l59 fun v62 l63 => asI A .i64 v62 fun n64 => asN A l63 (asN A l54 (asN A l57 (A.callx 59 [int .i64 n4] fun l65 => asC A l65 fun v66 l67 => asL A 1 v66 fun l68 => asN A l67 (A.asm (l68.length ≤ maxL) (A.loop 12 [lst .ro 16 (map stpV l), int .i64 m, int .i64 i, lst .ro 1 l68, int .i64 (↑l68.length : Int), int .i64 0] [[int .i64 n4, int .i64 n7, int .i64 n10, int .i64 n13, int .i64 n16, int .i64 n19, int .i64 n22, int .i64 n25, int .i64 n28, int .i64 n31, int .i64 n34, int .i64 n37, int .i64 n40, str l43, lst .ro 1 l46, lst .ro 5 l49], [lst (.own (.O 1012 0)) 1 l61, int .i64 n64]] fun j69 l70 l71 => bif (j69.beq 3) then (asC A l70 fun v72 l73 => asL A 16 v72 fun l74 => asC A l73 fun v75 l76 => asI A .i64 v75 fun n77 => asC A l76 fun v78 l79 => asI A .i64 v78 fun n80 => asN A l79 (asC A l71 fun l81 l82 => asC A l81 fun v83 l84 => asOwn A 1 v83 fun x85 l86 => bif (x85.beq (.O (1012 : Nat) (0 : Nat))) then (asC A l84 fun v87 l88 => asI A .i64 v87 fun n89 => asN A l88 (asN A l82 (next [lst .ro 16 l74, int .i64 n77, int .i64 (IntKind.i64.wrap (n80 + (1 : Int)))] [[lst (.own (.O 1012 0)) 1 l86, int .i64 n89]]))) else A.fail)) else A.fail)))))) else A.fail))))))))) else (kc 1 [] [[lst (.own (.O 1012 0)) 1 b, int .i64 e]])
def s_tPrintK {α : Type} (A : Alg α) (l : List Stp) (x : Stp) (u : List Int) (b : List AV) (m : Int) (i : Int) (n : Int) (k : Int) (e : Int) (next : List AV → List (List AV) → α) (kc : Nat → List AV → List (List AV) → α) : α :=
  bif (decide (k < n)) then (A.chk (decide ((0 : Int) ≤ k)) (nthE A (map (fun n => int .i64 n) u) k.toNat fun v0 => asI A .i64 v0 fun n1 => A.chk true (A.call 60 [ref 0 0, agg [int .i64 x.op, int .i64 x.form, int .i64 x.field, int .i64 x.place, int .i64 x.to, int .i64 x.a, int .i64 x.b, int .i64 x.f.id, int .i64 x.f.kind, int .i64 x.f.lo, int .i64 x.f.hi, int .i64 x.f.most, int .i64 x.n, str x.s, lst .ro 1 (map (fun n => int .i64 n) x.t), lst .ro 5 (map fldV x.fields)], int .i64 n1] [(0, [lst (.own (.E 0 0)) 1 b, int .i64 e])] fun l2 l3 => asC A l3 fun x4 l5 => bif (x4.1.beq 0) then (asC A x4.2 fun v6 l7 => asOwn A 1 v6 fun x8 l9 => asC A l7 fun v10 l11 => asI A .i64 v10 fun n12 => asN A l11 (asN A l2 (asN A l5 (next [lst .ro 16 (map stpV l), int .i64 m, int .i64 i, lst .ro 1 (map (fun n => int .i64 n) u), int .i64 n, int .i64 (IntKind.i64.wrap (k + (1 : Int)))] [[int .i64 x.op, int .i64 x.form, int .i64 x.field, int .i64 x.place, int .i64 x.to, int .i64 x.a, int .i64 x.b, int .i64 x.f.id, int .i64 x.f.kind, int .i64 x.f.lo, int .i64 x.f.hi, int .i64 x.f.most, int .i64 x.n, str x.s, lst .ro 1 (map (fun n => int .i64 n) x.t), lst .ro 5 (map fldV x.fields)], [lst (.own (.O 1012 0)) 1 l9, int .i64 n12]])))) else A.fail))) else (kc 3 [lst .ro 16 (map stpV l), int .i64 m, int .i64 i] [[lst (.own (.O 1012 0)) 1 b, int .i64 e]])
def s_count15 {α : Type} (A : Alg α) (n : Int) (kc : List AV → List (Nat × List AV) → α) : α :=
  A.call 31 [int .u64 (IntKind.u64.wrap n)] [] fun l0 l1 => asC A l0 fun v2 l3 => asOwn A 1 v2 fun x4 l5 => asN A l3 (asN A l1 (kc [lst (.own (.R 0)) 1 l5] []))
def s_typed {α : Type} (A : Alg α) (x : Fld) (kc : List AV → List (Nat × List AV) → α) : α :=
  A.chk true (A.call 67 [int .i64 x.id] [] fun l0 l1 => asC A l0 fun v2 l3 => asOwn A 1 v2 fun x4 l5 => asN A l3 (asN A l1 (A.call 67 [int .i64 x.kind] [] fun l6 l7 => asC A l6 fun v8 l9 => asOwn A 1 v8 fun x10 l11 => asN A l9 (asN A l7 (A.chk (decide ((l5.length + l11.length) * 1 ≤ 140737488355328)) (A.call 98 [int .i64 x.lo] [] fun l12 l13 => asC A l12 fun v14 l15 => asOwn A 1 v14 fun x16 l17 => asN A l15 (asN A l13 (A.chk (decide (((l5 ++ l11).length + l17.length) * 1 ≤ 140737488355328)) (A.call 98 [int .i64 x.hi] [] fun l18 l19 => asC A l18 fun v20 l21 => asOwn A 1 v20 fun x22 l23 => asN A l21 (asN A l19 (A.chk (decide (((l5 ++ l11 ++ l17).length + l23.length) * 1 ≤ 140737488355328)) (A.call 67 [int .i64 x.most] [] fun l24 l25 => asC A l24 fun v26 l27 => asOwn A 1 v26 fun x28 l29 => asN A l27 (asN A l25 (A.chk (decide (((l5 ++ l11 ++ l17 ++ l23).length + l29.length) * 1 ≤ 140737488355328)) (kc [lst .ro 1 (l5 ++ l11 ++ l17 ++ l23 ++ l29)] [])))))))))))))))
def s_sBytes {α : Type} (A : Alg α) (x : Stp) (kc : List AV → List (Nat × List AV) → α) : α :=
  A.chk true (A.call 67 [int .i64 x.op] [] fun l0 l1 => asC A l0 fun v2 l3 => asOwn A 1 v2 fun x4 l5 => asN A l3 (asN A l1 (A.callx 92 [int .i64 x.op] fun l6 => asC A l6 fun v7 l8 => asS A v7 fun l9 => asN A l8 (A.loop 4 [lst (.own (.L 3)) 1 l5, str l9, int .i64 0] [[int .i64 x.op, int .i64 x.form, int .i64 x.field, int .i64 x.place, int .i64 x.to, int .i64 x.a, int .i64 x.b, int .i64 x.f.id, int .i64 x.f.kind, int .i64 x.f.lo, int .i64 x.f.hi, int .i64 x.f.most, int .i64 x.n, str x.s, lst .ro 1 (map (fun n => int .i64 n) x.t), lst .ro 5 (map fldV x.fields)]] fun j10 l11 l12 => bif (j10.beq 1) then (asC A l11 fun v13 l14 => asOwn A 1 v13 fun x15 l16 => bif (x15.beq (.L (3 : Nat))) then (asN A l14 (asN A l12 (kc [lst .ro 1 l16] []))) else A.fail) else A.fail))))
def s_sBytesL {α : Type} (A : Alg α) (x : Stp) (b : List AV) (s : List UInt8) (i : Int) (next : List AV → List (List AV) → α) (kc : Nat → List AV → List (List AV) → α) : α :=
  A.asm (s.length ≤ maxL) (bif (decide (i < (↑s.length : Int))) then (A.chk (decide ((0 : Int) ≤ i)) (nthE A s i.toNat fun x0 => bif ((↑x0.toNat : Int) == (102 : Int)) then (A.call 67 [int .i64 x.form] [] fun l1 l2 => asC A l1 fun v3 l4 => asOwn A 1 v3 fun x5 l6 => asN A l4 (asN A l2 (A.chk (decide ((b.length + l6.length) * 1 ≤ 140737488355328)) (next [lst (.own (.L 3)) 1 (b ++ l6), str s, int .i64 (IntKind.i64.wrap (i + (1 : Int)))] [[int .i64 x.op, int .i64 x.form, int .i64 x.field, int .i64 x.place, int .i64 x.to, int .i64 x.a, int .i64 x.b, int .i64 x.f.id, int .i64 x.f.kind, int .i64 x.f.lo, int .i64 x.f.hi, int .i64 x.f.most, int .i64 x.n, str x.s, lst .ro 1 (map (fun n => int .i64 n) x.t), lst .ro 5 (map fldV x.fields)]])))) else (bif ((↑x0.toNat : Int) == (100 : Int)) then (A.call 67 [int .i64 x.field] [] fun l7 l8 => asC A l7 fun v9 l10 => asOwn A 1 v9 fun x11 l12 => asN A l10 (asN A l8 (A.chk (decide ((b.length + l12.length) * 1 ≤ 140737488355328)) (next [lst (.own (.L 3)) 1 (b ++ l12), str s, int .i64 (IntKind.i64.wrap (i + (1 : Int)))] [[int .i64 x.op, int .i64 x.form, int .i64 x.field, int .i64 x.place, int .i64 x.to, int .i64 x.a, int .i64 x.b, int .i64 x.f.id, int .i64 x.f.kind, int .i64 x.f.lo, int .i64 x.f.hi, int .i64 x.f.most, int .i64 x.n, str x.s, lst .ro 1 (map (fun n => int .i64 n) x.t), lst .ro 5 (map fldV x.fields)]])))) else (bif ((↑x0.toNat : Int) == (112 : Int)) then (A.call 67 [int .i64 x.place] [] fun l13 l14 => asC A l13 fun v15 l16 => asOwn A 1 v15 fun x17 l18 => asN A l16 (asN A l14 (A.chk (decide ((b.length + l18.length) * 1 ≤ 140737488355328)) (next [lst (.own (.L 3)) 1 (b ++ l18), str s, int .i64 (IntKind.i64.wrap (i + (1 : Int)))] [[int .i64 x.op, int .i64 x.form, int .i64 x.field, int .i64 x.place, int .i64 x.to, int .i64 x.a, int .i64 x.b, int .i64 x.f.id, int .i64 x.f.kind, int .i64 x.f.lo, int .i64 x.f.hi, int .i64 x.f.most, int .i64 x.n, str x.s, lst .ro 1 (map (fun n => int .i64 n) x.t), lst .ro 5 (map fldV x.fields)]])))) else (bif ((↑x0.toNat : Int) == (116 : Int)) then (A.call 67 [int .i64 x.to] [] fun l19 l20 => asC A l19 fun v21 l22 => asOwn A 1 v21 fun x23 l24 => asN A l22 (asN A l20 (A.chk (decide ((b.length + l24.length) * 1 ≤ 140737488355328)) (next [lst (.own (.L 3)) 1 (b ++ l24), str s, int .i64 (IntKind.i64.wrap (i + (1 : Int)))] [[int .i64 x.op, int .i64 x.form, int .i64 x.field, int .i64 x.place, int .i64 x.to, int .i64 x.a, int .i64 x.b, int .i64 x.f.id, int .i64 x.f.kind, int .i64 x.f.lo, int .i64 x.f.hi, int .i64 x.f.most, int .i64 x.n, str x.s, lst .ro 1 (map (fun n => int .i64 n) x.t), lst .ro 5 (map fldV x.fields)]])))) else (bif ((↑x0.toNat : Int) == (97 : Int)) then (A.call 67 [int .i64 x.a] [] fun l25 l26 => asC A l25 fun v27 l28 => asOwn A 1 v27 fun x29 l30 => asN A l28 (asN A l26 (A.chk (decide ((b.length + l30.length) * 1 ≤ 140737488355328)) (next [lst (.own (.L 3)) 1 (b ++ l30), str s, int .i64 (IntKind.i64.wrap (i + (1 : Int)))] [[int .i64 x.op, int .i64 x.form, int .i64 x.field, int .i64 x.place, int .i64 x.to, int .i64 x.a, int .i64 x.b, int .i64 x.f.id, int .i64 x.f.kind, int .i64 x.f.lo, int .i64 x.f.hi, int .i64 x.f.most, int .i64 x.n, str x.s, lst .ro 1 (map (fun n => int .i64 n) x.t), lst .ro 5 (map fldV x.fields)]])))) else (bif ((↑x0.toNat : Int) == (98 : Int)) then (A.call 98 [int .i64 x.a] [] fun l31 l32 => asC A l31 fun v33 l34 => asOwn A 1 v33 fun x35 l36 => asN A l34 (asN A l32 (A.chk (decide ((b.length + l36.length) * 1 ≤ 140737488355328)) (A.call 98 [int .i64 x.b] [] fun l37 l38 => asC A l37 fun v39 l40 => asOwn A 1 v39 fun x41 l42 => asN A l40 (asN A l38 (A.chk (decide (((b ++ l36).length + l42.length) * 1 ≤ 140737488355328)) (next [lst (.own (.L 3)) 1 (b ++ l36 ++ l42), str s, int .i64 (IntKind.i64.wrap (i + (1 : Int)))] [[int .i64 x.op, int .i64 x.form, int .i64 x.field, int .i64 x.place, int .i64 x.to, int .i64 x.a, int .i64 x.b, int .i64 x.f.id, int .i64 x.f.kind, int .i64 x.f.lo, int .i64 x.f.hi, int .i64 x.f.most, int .i64 x.n, str x.s, lst .ro 1 (map (fun n => int .i64 n) x.t), lst .ro 5 (map fldV x.fields)]]))))))) else (bif ((↑x0.toNat : Int) == (70 : Int)) then (A.chk true (A.callx 99 [agg [int .i64 x.f.id, int .i64 x.f.kind, int .i64 x.f.lo, int .i64 x.f.hi, int .i64 x.f.most]] fun l43 => asC A l43 fun v44 l45 => asL A 1 v44 fun l46 => asN A l45 (A.chk (decide ((b.length + l46.length) * 1 ≤ 140737488355328)) (next [lst (.own (.L 3)) 1 (b ++ l46), str s, int .i64 (IntKind.i64.wrap (i + (1 : Int)))] [[int .i64 x.op, int .i64 x.form, int .i64 x.field, int .i64 x.place, int .i64 x.to, int .i64 x.a, int .i64 x.b, int .i64 x.f.id, int .i64 x.f.kind, int .i64 x.f.lo, int .i64 x.f.hi, int .i64 x.f.most, int .i64 x.n, str x.s, lst .ro 1 (map (fun n => int .i64 n) x.t), lst .ro 5 (map fldV x.fields)]])))) else (bif ((↑x0.toNat : Int) == (86 : Int)) then (A.call 98 [int .i64 x.n] [] fun l47 l48 => asC A l47 fun v49 l50 => asOwn A 1 v49 fun x51 l52 => asN A l50 (asN A l48 (A.chk (decide ((b.length + l52.length) * 1 ≤ 140737488355328)) (A.callx 32 [str x.s] fun l53 => asC A l53 fun v54 l55 => asL A 1 v54 fun l56 => asN A l55 (A.chk (decide (((b ++ l52).length + l56.length) * 1 ≤ 140737488355328)) (next [lst (.own (.L 3)) 1 (b ++ l52 ++ l56), str s, int .i64 (IntKind.i64.wrap (i + (1 : Int)))] [[int .i64 x.op, int .i64 x.form, int .i64 x.field, int .i64 x.place, int .i64 x.to, int .i64 x.a, int .i64 x.b, int .i64 x.f.id, int .i64 x.f.kind, int .i64 x.f.lo, int .i64 x.f.hi, int .i64 x.f.most, int .i64 x.n, str x.s, lst .ro 1 (map (fun n => int .i64 n) x.t), lst .ro 5 (map fldV x.fields)]])))))) else (bif ((↑x0.toNat : Int) == (84 : Int)) then (A.asm ((map (fun n => int .i64 n) x.t).length ≤ maxL) (A.call 67 [int .i64 (↑(map (fun n => int .i64 n) x.t).length : Int)] [] fun l57 l58 => asC A l57 fun v59 l60 => asOwn A 1 v59 fun x61 l62 => asN A l60 (asN A l58 (A.chk (decide ((b.length + l62.length) * 1 ≤ 140737488355328)) (A.loop 26 [lst (.own (.L 3)) 1 (b ++ l62), str s, int .i64 i, int .i64 0] [[int .i64 x.op, int .i64 x.form, int .i64 x.field, int .i64 x.place, int .i64 x.to, int .i64 x.a, int .i64 x.b, int .i64 x.f.id, int .i64 x.f.kind, int .i64 x.f.lo, int .i64 x.f.hi, int .i64 x.f.most, int .i64 x.n, str x.s, lst .ro 1 (map (fun n => int .i64 n) x.t), lst .ro 5 (map fldV x.fields)]] fun j63 l64 l65 => bif (j63.beq 4) then (asC A l64 fun v66 l67 => asOwn A 1 v66 fun x68 l69 => bif (x68.beq (.L (3 : Nat))) then (asC A l67 fun v70 l71 => asS A v70 fun l72 => asC A l71 fun v73 l74 => asI A .i64 v73 fun n75 => asN A l74 (asC A l65 fun l76 l77 => asC A l76 fun v78 l79 => asI A .i64 v78 fun n80 => asC A l79 fun v81 l82 => asI A .i64 v81 fun n83 => asC A l82 fun v84 l85 => asI A .i64 v84 fun n86 => asC A l85 fun v87 l88 => asI A .i64 v87 fun n89 => asC A l88 fun v90 l91 => asI A .i64 v90 fun n92 => asC A l91 fun v93 l94 => asI A .i64 v93 fun n95 => asC A l94 fun v96 l97 => asI A .i64 v96 fun n98 => asC A l97 fun v99 l100 => asI A .i64 v99 fun n101 => asC A l100 fun v102 l103 => asI A .i64 v102 fun n104 => asC A l103 fun v105 l106 => asI A .i64 v105 fun n107 => asC A l106 fun v108 l109 => asI A .i64 v108 fun n110 => asC A l109 fun v111 l112 => asI A .i64 v111 fun n113 => asC A l112 fun v114 l115 => asI A .i64 v114 fun n116 => asC A l115 fun v117 l118 => asS A v117 fun l119 => asC A l118 fun v120 l121 => asL A 1 v120 fun l122 => asC A l121 fun v123 l124 => asL A 5 v123 fun l125 => asN A l124 (asN A l77 (next [lst (.own (.L 3)) 1 l69, str l72, int .i64 (IntKind.i64.wrap (n75 + (1 : Int)))] [[int .i64 n80, int .i64 n83, int .i64 n86, int .i64 n89, int .i64 n92, int .i64 n95, int .i64 n98, int .i64 n101, int .i64 n104, int .i64 n107, int .i64 n110, int .i64 n113, int .i64 n116, str l119, lst .ro 1 l122, lst .ro 5 l125]])))) else A.fail) else A.fail))))) else (bif ((↑x0.toNat : Int) == (76 : Int)) then (A.asm ((map fldV x.fields).length ≤ maxL) (A.call 67 [int .i64 (↑(map fldV x.fields).length : Int)] [] fun l126 l127 => asC A l126 fun v128 l129 => asOwn A 1 v128 fun x130 l131 => asN A l129 (asN A l127 (A.chk (decide ((b.length + l131.length) * 1 ≤ 140737488355328)) (A.loop 32 [lst (.own (.L 3)) 1 (b ++ l131), str s, int .i64 i, int .i64 0] [[int .i64 x.op, int .i64 x.form, int .i64 x.field, int .i64 x.place, int .i64 x.to, int .i64 x.a, int .i64 x.b, int .i64 x.f.id, int .i64 x.f.kind, int .i64 x.f.lo, int .i64 x.f.hi, int .i64 x.f.most, int .i64 x.n, str x.s, lst .ro 1 (map (fun n => int .i64 n) x.t), lst .ro 5 (map fldV x.fields)]] fun j132 l133 l134 => bif (j132.beq 6) then (asC A l133 fun v135 l136 => asOwn A 1 v135 fun x137 l138 => bif (x137.beq (.L (3 : Nat))) then (asC A l136 fun v139 l140 => asS A v139 fun l141 => asC A l140 fun v142 l143 => asI A .i64 v142 fun n144 => asN A l143 (asC A l134 fun l145 l146 => asC A l145 fun v147 l148 => asI A .i64 v147 fun n149 => asC A l148 fun v150 l151 => asI A .i64 v150 fun n152 => asC A l151 fun v153 l154 => asI A .i64 v153 fun n155 => asC A l154 fun v156 l157 => asI A .i64 v156 fun n158 => asC A l157 fun v159 l160 => asI A .i64 v159 fun n161 => asC A l160 fun v162 l163 => asI A .i64 v162 fun n164 => asC A l163 fun v165 l166 => asI A .i64 v165 fun n167 => asC A l166 fun v168 l169 => asI A .i64 v168 fun n170 => asC A l169 fun v171 l172 => asI A .i64 v171 fun n173 => asC A l172 fun v174 l175 => asI A .i64 v174 fun n176 => asC A l175 fun v177 l178 => asI A .i64 v177 fun n179 => asC A l178 fun v180 l181 => asI A .i64 v180 fun n182 => asC A l181 fun v183 l184 => asI A .i64 v183 fun n185 => asC A l184 fun v186 l187 => asS A v186 fun l188 => asC A l187 fun v189 l190 => asL A 1 v189 fun l191 => asC A l190 fun v192 l193 => asL A 5 v192 fun l194 => asN A l193 (asN A l146 (next [lst (.own (.L 3)) 1 l138, str l141, int .i64 (IntKind.i64.wrap (n144 + (1 : Int)))] [[int .i64 n149, int .i64 n152, int .i64 n155, int .i64 n158, int .i64 n161, int .i64 n164, int .i64 n167, int .i64 n170, int .i64 n173, int .i64 n176, int .i64 n179, int .i64 n182, int .i64 n185, str l188, lst .ro 1 l191, lst .ro 5 l194]])))) else A.fail) else A.fail))))) else (next [lst (.own (.L 3)) 1 b, str s, int .i64 (IntKind.i64.wrap (i + (1 : Int)))] [[int .i64 x.op, int .i64 x.form, int .i64 x.field, int .i64 x.place, int .i64 x.to, int .i64 x.a, int .i64 x.b, int .i64 x.f.id, int .i64 x.f.kind, int .i64 x.f.lo, int .i64 x.f.hi, int .i64 x.f.most, int .i64 x.n, str x.s, lst .ro 1 (map (fun n => int .i64 n) x.t), lst .ro 5 (map fldV x.fields)]])))))))))))) else (kc 1 [lst (.own (.L 3)) 1 b] []))
def s_sBytesT {α : Type} (A : Alg α) (x : Stp) (b : List AV) (s : List UInt8) (i : Int) (k : Int) (next : List AV → List (List AV) → α) (kc : Nat → List AV → List (List AV) → α) : α :=
  A.asm ((map (fun n => int .i64 n) x.t).length ≤ maxL) (bif (decide (k < (↑(map (fun n => int .i64 n) x.t).length : Int))) then (A.chk (decide ((0 : Int) ≤ k)) (nthE A (map (fun n => int .i64 n) x.t) k.toNat fun v0 => asI A .i64 v0 fun n1 => A.call 67 [int .i64 n1] [] fun l2 l3 => asC A l2 fun v4 l5 => asOwn A 1 v4 fun x6 l7 => asN A l5 (asN A l3 (A.chk (decide ((b.length + l7.length) * 1 ≤ 140737488355328)) (next [lst (.own (.L 3)) 1 (b ++ l7), str s, int .i64 i, int .i64 (IntKind.i64.wrap (k + (1 : Int)))] [[int .i64 x.op, int .i64 x.form, int .i64 x.field, int .i64 x.place, int .i64 x.to, int .i64 x.a, int .i64 x.b, int .i64 x.f.id, int .i64 x.f.kind, int .i64 x.f.lo, int .i64 x.f.hi, int .i64 x.f.most, int .i64 x.n, str x.s, lst .ro 1 (map (fun n => int .i64 n) x.t), lst .ro 5 (map fldV x.fields)]]))))) else (kc 4 [lst (.own (.L 3)) 1 b, str s, int .i64 i] [[int .i64 x.op, int .i64 x.form, int .i64 x.field, int .i64 x.place, int .i64 x.to, int .i64 x.a, int .i64 x.b, int .i64 x.f.id, int .i64 x.f.kind, int .i64 x.f.lo, int .i64 x.f.hi, int .i64 x.f.most, int .i64 x.n, str x.s, lst .ro 1 (map (fun n => int .i64 n) x.t), lst .ro 5 (map fldV x.fields)]]))
def s_sBytesF {α : Type} (A : Alg α) (x : Stp) (b : List AV) (s : List UInt8) (i : Int) (k : Int) (next : List AV → List (List AV) → α) (kc : Nat → List AV → List (List AV) → α) : α :=
  A.asm ((map fldV x.fields).length ≤ maxL) (bif (decide (k < (↑(map fldV x.fields).length : Int))) then (A.chk (decide ((0 : Int) ≤ k)) (nthE A (map fldV x.fields) k.toNat fun v0 => asA A v0 fun l1 => asC A l1 fun v2 l3 => asI A .i64 v2 fun n4 => asC A l3 fun v5 l6 => asI A .i64 v5 fun n7 => asC A l6 fun v8 l9 => asI A .i64 v8 fun n10 => asC A l9 fun v11 l12 => asI A .i64 v11 fun n13 => asC A l12 fun v14 l15 => asI A .i64 v14 fun n16 => asN A l15 (A.chk true (A.callx 99 [agg [int .i64 n4, int .i64 n7, int .i64 n10, int .i64 n13, int .i64 n16]] fun l17 => asC A l17 fun v18 l19 => asL A 1 v18 fun l20 => asN A l19 (A.chk (decide ((b.length + l20.length) * 1 ≤ 140737488355328)) (next [lst (.own (.L 3)) 1 (b ++ l20), str s, int .i64 i, int .i64 (IntKind.i64.wrap (k + (1 : Int)))] [[int .i64 x.op, int .i64 x.form, int .i64 x.field, int .i64 x.place, int .i64 x.to, int .i64 x.a, int .i64 x.b, int .i64 x.f.id, int .i64 x.f.kind, int .i64 x.f.lo, int .i64 x.f.hi, int .i64 x.f.most, int .i64 x.n, str x.s, lst .ro 1 (map (fun n => int .i64 n) x.t), lst .ro 5 (map fldV x.fields)]])))))) else (kc 6 [lst (.own (.L 3)) 1 b, str s, int .i64 i] [[int .i64 x.op, int .i64 x.form, int .i64 x.field, int .i64 x.place, int .i64 x.to, int .i64 x.a, int .i64 x.b, int .i64 x.f.id, int .i64 x.f.kind, int .i64 x.f.lo, int .i64 x.f.hi, int .i64 x.f.most, int .i64 x.n, str x.s, lst .ro 1 (map (fun n => int .i64 n) x.t), lst .ro 5 (map fldV x.fields)]]))
def s_ytPrint {α : Type} (A : Alg α) (l : List Stp) (kc : List AV → List (Nat × List AV) → α) : α :=
  A.asm ((map stpV l).length ≤ maxL) (A.call 67 [int .i64 (↑(map stpV l).length : Int)] [] fun l0 l1 => asC A l0 fun v2 l3 => asOwn A 1 v2 fun x4 l5 => asN A l3 (asN A l1 (A.loop 3 [lst .ro 16 (map stpV l), lst (.own (.L 3)) 1 l5, int .i64 0] [] fun j6 l7 l8 => bif (j6.beq 1) then (asC A l7 fun v9 l10 => asOwn A 1 v9 fun x11 l12 => bif (x11.beq (.L (3 : Nat))) then (asN A l10 (asN A l8 (kc [lst .ro 1 l12] []))) else A.fail) else A.fail)))
def s_ytPrintL {α : Type} (A : Alg α) (l : List Stp) (b : List AV) (i : Int) (next : List AV → List (List AV) → α) (kc : Nat → List AV → List (List AV) → α) : α :=
  A.asm ((map stpV l).length ≤ maxL) (bif (decide (i < (↑(map stpV l).length : Int))) then (A.chk (decide ((0 : Int) ≤ i)) (nthE A (map stpV l) i.toNat fun v0 => asA A v0 fun l1 => asC A l1 fun v2 l3 => asI A .i64 v2 fun n4 => asC A l3 fun v5 l6 => asI A .i64 v5 fun n7 => asC A l6 fun v8 l9 => asI A .i64 v8 fun n10 => asC A l9 fun v11 l12 => asI A .i64 v11 fun n13 => asC A l12 fun v14 l15 => asI A .i64 v14 fun n16 => asC A l15 fun v17 l18 => asI A .i64 v17 fun n19 => asC A l18 fun v20 l21 => asI A .i64 v20 fun n22 => asC A l21 fun v23 l24 => asI A .i64 v23 fun n25 => asC A l24 fun v26 l27 => asI A .i64 v26 fun n28 => asC A l27 fun v29 l30 => asI A .i64 v29 fun n31 => asC A l30 fun v32 l33 => asI A .i64 v32 fun n34 => asC A l33 fun v35 l36 => asI A .i64 v35 fun n37 => asC A l36 fun v38 l39 => asI A .i64 v38 fun n40 => asC A l39 fun v41 l42 => asS A v41 fun l43 => asC A l42 fun v44 l45 => asL A 1 v44 fun l46 => asC A l45 fun v47 l48 => asL A 5 v47 fun l49 => asN A l48 (A.chk true (A.callx 68 [agg [int .i64 n4, int .i64 n7, int .i64 n10, int .i64 n13, int .i64 n16, int .i64 n19, int .i64 n22, int .i64 n25, int .i64 n28, int .i64 n31, int .i64 n34, int .i64 n37, int .i64 n40, str l43, lst .ro 1 l46, lst .ro 5 l49]] fun l50 => asC A l50 fun v51 l52 => asL A 1 v51 fun l53 => asN A l52 (A.chk (decide ((b.length + l53.length) * 1 ≤ 140737488355328)) (next [lst .ro 16 (map stpV l), lst (.own (.L 3)) 1 (b ++ l53), int .i64 (IntKind.i64.wrap (i + (1 : Int)))] [])))))) else (kc 1 [lst (.own (.L 3)) 1 b] []))
def s_Rights15 {α : Type} (A : Alg α) (l : List Stp) (kc : List AV → List (Nat × List AV) → α) : α :=
  A.asm ((map stpV l).length ≤ maxL) (bif (decide ((↑(map stpV l).length : Int) > (40 : Int))) then (kc [int .i64 7] []) else (A.loop 4 [lst .ro 16 (map stpV l), int .i64 0] [] fun j0 l1 l2 => bif (j0.beq 0) then (asC A l1 fun v3 l4 => asI A .i64 v3 fun n5 => asN A l4 (asN A l2 (kc [int .i64 n5] []))) else (bif (j0.beq 1) then (asN A l1 (asN A l2 (kc [int .i64 0] []))) else A.fail)))
def s_Rights15L {α : Type} (A : Alg α) (l : List Stp) (i : Int) (next : List AV → List (List AV) → α) (kc : Nat → List AV → List (List AV) → α) : α :=
  A.asm ((map stpV l).length ≤ maxL) (bif (decide (i < (↑(map stpV l).length : Int))) then (A.chk (decide ((0 : Int) ≤ i)) (nthE A (map stpV l) i.toNat fun v0 => asA A v0 fun l1 => asC A l1 fun v2 l3 => asI A .i64 v2 fun n4 => asC A l3 fun v5 l6 => asI A .i64 v5 fun n7 => asC A l6 fun v8 l9 => asI A .i64 v8 fun n10 => asC A l9 fun v11 l12 => asI A .i64 v11 fun n13 => asC A l12 fun v14 l15 => asI A .i64 v14 fun n16 => asC A l15 fun v17 l18 => asI A .i64 v17 fun n19 => asC A l18 fun v20 l21 => asI A .i64 v20 fun n22 => asC A l21 fun v23 l24 => asI A .i64 v23 fun n25 => asC A l24 fun v26 l27 => asI A .i64 v26 fun n28 => asC A l27 fun v29 l30 => asI A .i64 v29 fun n31 => asC A l30 fun v32 l33 => asI A .i64 v32 fun n34 => asC A l33 fun v35 l36 => asI A .i64 v35 fun n37 => asC A l36 fun v38 l39 => asI A .i64 v38 fun n40 => asC A l39 fun v41 l42 => asS A v41 fun l43 => asC A l42 fun v44 l45 => asL A 1 v44 fun l46 => asC A l45 fun v47 l48 => asL A 5 v47 fun l49 => asN A l48 (A.chk true (A.callx 65 [agg [int .i64 n4, int .i64 n7, int .i64 n10, int .i64 n13, int .i64 n16, int .i64 n19, int .i64 n22, int .i64 n25, int .i64 n28, int .i64 n31, int .i64 n34, int .i64 n37, int .i64 n40, str l43, lst .ro 1 l46, lst .ro 5 l49]] fun l50 => asC A l50 fun v51 l52 => asB A v51 fun b53 => asN A l52 (bif (!b53) then (kc 0 [int .i64 2] []) else (next [lst .ro 16 (map stpV l), int .i64 (IntKind.i64.wrap (i + (1 : Int)))] [])))))) else (kc 1 [] []))
def s_readField {α : Type} (A : Alg α) (b : List UInt8) (e : Int) (kc : List AV → List (Nat × List AV) → α) : α :=
  A.call 36 [ref 0 0, int .i64 255] [(0, [lst .ro 1 (encB b), int .i64 e])] fun l0 l1 => asC A l1 fun x2 l3 => bif (x2.1.beq 0) then (asC A x2.2 fun v4 l5 => asL A 1 v4 fun l6 => asC A l5 fun v7 l8 => asI A .i64 v7 fun n9 => asN A l8 (asC A l0 fun v10 l11 => asI A .i64 v10 fun n12 => asN A l11 (asN A l3 (A.call 36 [ref 0 0, int .i64 4] [(0, [lst .ro 1 l6, int .i64 n9])] fun l13 l14 => asC A l14 fun x15 l16 => bif (x15.1.beq 0) then (asC A x15.2 fun v17 l18 => asL A 1 v17 fun l19 => asC A l18 fun v20 l21 => asI A .i64 v20 fun n22 => asN A l21 (asC A l13 fun v23 l24 => asI A .i64 v23 fun n25 => asN A l24 (asN A l16 (A.chk true (A.chk true (A.chk true (A.chk true (A.call 100 [ref 0 0] [(0, [lst .ro 1 l19, int .i64 n22])] fun l26 l27 => asC A l27 fun x28 l29 => bif (x28.1.beq 0) then (asC A x28.2 fun v30 l31 => asL A 1 v30 fun l32 => asC A l31 fun v33 l34 => asI A .i64 v33 fun n35 => asN A l34 (asC A l26 fun v36 l37 => asI A .i64 v36 fun n38 => asN A l37 (asN A l29 (A.chk true (A.call 100 [ref 0 0] [(0, [lst .ro 1 l32, int .i64 n35])] fun l39 l40 => asC A l40 fun x41 l42 => bif (x41.1.beq 0) then (asC A x41.2 fun v43 l44 => asL A 1 v43 fun l45 => asC A l44 fun v46 l47 => asI A .i64 v46 fun n48 => asN A l47 (asC A l39 fun v49 l50 => asI A .i64 v49 fun n51 => asN A l50 (asN A l42 (A.chk true (A.call 36 [ref 0 0, int .i64 1000] [(0, [lst .ro 1 l45, int .i64 n48])] fun l52 l53 => asC A l53 fun x54 l55 => bif (x54.1.beq 0) then (asC A x54.2 fun v56 l57 => asL A 1 v56 fun l58 => asC A l57 fun v59 l60 => asI A .i64 v59 fun n61 => asN A l60 (asC A l52 fun v62 l63 => asI A .i64 v62 fun n64 => asN A l63 (asN A l55 (A.chk true (A.chk true (A.chk true (A.chk true (A.chk true (kc [agg [int .i64 n12, int .i64 n25, int .i64 n38, int .i64 n51, int .i64 n64]] [(0, [lst .ro 1 l58, int .i64 n61])]))))))))) else A.fail))))) else A.fail))))) else A.fail)))))))) else A.fail)))) else A.fail
def s_tread {α : Type} (A : Alg α) (b : List UInt8) (x : Stp) (p : Int) (e : Int) (kc : List AV → List (Nat × List AV) → α) : α :=
  bif (p == (0 : Int)) then (A.call 36 [ref 0 0, int .i64 200] [(0, [lst .ro 1 (encB b), int .i64 e])] fun l0 l1 => asC A l1 fun x2 l3 => bif (x2.1.beq 0) then (asC A x2.2 fun v4 l5 => asL A 1 v4 fun l6 => asC A l5 fun v7 l8 => asI A .i64 v7 fun n9 => asN A l8 (asC A l0 fun v10 l11 => asI A .i64 v10 fun n12 => asN A l11 (asN A l3 (A.chk true (kc [] [(0, [lst .ro 1 l6, int .i64 n9]), (1, [int .i64 x.op, int .i64 n12, int .i64 x.field, int .i64 x.place, int .i64 x.to, int .i64 x.a, int .i64 x.b, int .i64 x.f.id, int .i64 x.f.kind, int .i64 x.f.lo, int .i64 x.f.hi, int .i64 x.f.most, int .i64 x.n, str x.s, lst (.own (.E 1 14)) 1 (map (fun n => int .i64 n) x.t), lst (.own (.E 1 15)) 5 (map fldV x.fields)])]))))) else A.fail) else (bif (p == (1 : Int)) then (A.call 36 [ref 0 0, int .i64 255] [(0, [lst .ro 1 (encB b), int .i64 e])] fun l13 l14 => asC A l14 fun x15 l16 => bif (x15.1.beq 0) then (asC A x15.2 fun v17 l18 => asL A 1 v17 fun l19 => asC A l18 fun v20 l21 => asI A .i64 v20 fun n22 => asN A l21 (asC A l13 fun v23 l24 => asI A .i64 v23 fun n25 => asN A l24 (asN A l16 (A.chk true (kc [] [(0, [lst .ro 1 l19, int .i64 n22]), (1, [int .i64 x.op, int .i64 x.form, int .i64 n25, int .i64 x.place, int .i64 x.to, int .i64 x.a, int .i64 x.b, int .i64 x.f.id, int .i64 x.f.kind, int .i64 x.f.lo, int .i64 x.f.hi, int .i64 x.f.most, int .i64 x.n, str x.s, lst (.own (.E 1 14)) 1 (map (fun n => int .i64 n) x.t), lst (.own (.E 1 15)) 5 (map fldV x.fields)])]))))) else A.fail) else (bif (p == (2 : Int)) then (A.call 36 [ref 0 0, int .i64 8] [(0, [lst .ro 1 (encB b), int .i64 e])] fun l26 l27 => asC A l27 fun x28 l29 => bif (x28.1.beq 0) then (asC A x28.2 fun v30 l31 => asL A 1 v30 fun l32 => asC A l31 fun v33 l34 => asI A .i64 v33 fun n35 => asN A l34 (asC A l26 fun v36 l37 => asI A .i64 v36 fun n38 => asN A l37 (asN A l29 (A.chk true (kc [] [(0, [lst .ro 1 l32, int .i64 n35]), (1, [int .i64 x.op, int .i64 x.form, int .i64 x.field, int .i64 n38, int .i64 x.to, int .i64 x.a, int .i64 x.b, int .i64 x.f.id, int .i64 x.f.kind, int .i64 x.f.lo, int .i64 x.f.hi, int .i64 x.f.most, int .i64 x.n, str x.s, lst (.own (.E 1 14)) 1 (map (fun n => int .i64 n) x.t), lst (.own (.E 1 15)) 5 (map fldV x.fields)])]))))) else A.fail) else (bif (p == (3 : Int)) then (A.call 36 [ref 0 0, int .i64 255] [(0, [lst .ro 1 (encB b), int .i64 e])] fun l39 l40 => asC A l40 fun x41 l42 => bif (x41.1.beq 0) then (asC A x41.2 fun v43 l44 => asL A 1 v43 fun l45 => asC A l44 fun v46 l47 => asI A .i64 v46 fun n48 => asN A l47 (asC A l39 fun v49 l50 => asI A .i64 v49 fun n51 => asN A l50 (asN A l42 (A.chk true (kc [] [(0, [lst .ro 1 l45, int .i64 n48]), (1, [int .i64 x.op, int .i64 x.form, int .i64 x.field, int .i64 x.place, int .i64 n51, int .i64 x.a, int .i64 x.b, int .i64 x.f.id, int .i64 x.f.kind, int .i64 x.f.lo, int .i64 x.f.hi, int .i64 x.f.most, int .i64 x.n, str x.s, lst (.own (.E 1 14)) 1 (map (fun n => int .i64 n) x.t), lst (.own (.E 1 15)) 5 (map fldV x.fields)])]))))) else A.fail) else (bif (p == (4 : Int)) then (A.call 36 [ref 0 0, int .i64 1048576] [(0, [lst .ro 1 (encB b), int .i64 e])] fun l52 l53 => asC A l53 fun x54 l55 => bif (x54.1.beq 0) then (asC A x54.2 fun v56 l57 => asL A 1 v56 fun l58 => asC A l57 fun v59 l60 => asI A .i64 v59 fun n61 => asN A l60 (asC A l52 fun v62 l63 => asI A .i64 v62 fun n64 => asN A l63 (asN A l55 (A.chk true (kc [] [(0, [lst .ro 1 l58, int .i64 n61]), (1, [int .i64 x.op, int .i64 x.form, int .i64 x.field, int .i64 x.place, int .i64 x.to, int .i64 n64, int .i64 x.b, int .i64 x.f.id, int .i64 x.f.kind, int .i64 x.f.lo, int .i64 x.f.hi, int .i64 x.f.most, int .i64 x.n, str x.s, lst (.own (.E 1 14)) 1 (map (fun n => int .i64 n) x.t), lst (.own (.E 1 15)) 5 (map fldV x.fields)])]))))) else A.fail) else (bif (p == (5 : Int)) then (A.call 100 [ref 0 0] [(0, [lst .ro 1 (encB b), int .i64 e])] fun l65 l66 => asC A l66 fun x67 l68 => bif (x67.1.beq 0) then (asC A x67.2 fun v69 l70 => asL A 1 v69 fun l71 => asC A l70 fun v72 l73 => asI A .i64 v72 fun n74 => asN A l73 (asC A l65 fun v75 l76 => asI A .i64 v75 fun n77 => asN A l76 (asN A l68 (A.chk true (A.call 100 [ref 0 0] [(0, [lst .ro 1 l71, int .i64 n74])] fun l78 l79 => asC A l79 fun x80 l81 => bif (x80.1.beq 0) then (asC A x80.2 fun v82 l83 => asL A 1 v82 fun l84 => asC A l83 fun v85 l86 => asI A .i64 v85 fun n87 => asN A l86 (asC A l78 fun v88 l89 => asI A .i64 v88 fun n90 => asN A l89 (asN A l81 (A.chk true (kc [] [(0, [lst .ro 1 l84, int .i64 n87]), (1, [int .i64 x.op, int .i64 x.form, int .i64 x.field, int .i64 x.place, int .i64 x.to, int .i64 n77, int .i64 n90, int .i64 x.f.id, int .i64 x.f.kind, int .i64 x.f.lo, int .i64 x.f.hi, int .i64 x.f.most, int .i64 x.n, str x.s, lst (.own (.E 1 14)) 1 (map (fun n => int .i64 n) x.t), lst (.own (.E 1 15)) 5 (map fldV x.fields)])]))))) else A.fail))))) else A.fail) else (bif (p == (6 : Int)) then (A.call 101 [ref 0 0] [(0, [lst .ro 1 (encB b), int .i64 e])] fun l91 l92 => asC A l92 fun x93 l94 => bif (x93.1.beq 0) then (asC A x93.2 fun v95 l96 => asL A 1 v95 fun l97 => asC A l96 fun v98 l99 => asI A .i64 v98 fun n100 => asN A l99 (asC A l91 fun v101 l102 => asA A v101 fun l103 => asC A l103 fun v104 l105 => asI A .i64 v104 fun n106 => asC A l105 fun v107 l108 => asI A .i64 v107 fun n109 => asC A l108 fun v110 l111 => asI A .i64 v110 fun n112 => asC A l111 fun v113 l114 => asI A .i64 v113 fun n115 => asC A l114 fun v116 l117 => asI A .i64 v116 fun n118 => asN A l117 (asN A l102 (asN A l94 (A.chk true (A.chk true (kc [] [(0, [lst .ro 1 l97, int .i64 n100]), (1, [int .i64 x.op, int .i64 x.form, int .i64 x.field, int .i64 x.place, int .i64 x.to, int .i64 x.a, int .i64 x.b, int .i64 n106, int .i64 n109, int .i64 n112, int .i64 n115, int .i64 n118, int .i64 x.n, str x.s, lst (.own (.E 1 14)) 1 (map (fun n => int .i64 n) x.t), lst (.own (.E 1 15)) 5 (map fldV x.fields)])]))))))) else A.fail) else (bif (p == (7 : Int)) then (A.call 100 [ref 0 0] [(0, [lst .ro 1 (encB b), int .i64 e])] fun l119 l120 => asC A l120 fun x121 l122 => bif (x121.1.beq 0) then (asC A x121.2 fun v123 l124 => asL A 1 v123 fun l125 => asC A l124 fun v126 l127 => asI A .i64 v126 fun n128 => asN A l127 (asC A l119 fun v129 l130 => asI A .i64 v129 fun n131 => asN A l130 (asN A l122 (A.chk true (A.call 37 [ref 0 0, int .i64 32] [(0, [lst .ro 1 l125, int .i64 n128])] fun l132 l133 => asC A l133 fun x134 l135 => bif (x134.1.beq 0) then (asC A x134.2 fun v136 l137 => asL A 1 v136 fun l138 => asC A l137 fun v139 l140 => asI A .i64 v139 fun n141 => asN A l140 (asC A l132 fun v142 l143 => asS A v142 fun l144 => asN A l143 (asN A l135 (A.chk true (kc [] [(0, [lst .ro 1 l138, int .i64 n141]), (1, [int .i64 x.op, int .i64 x.form, int .i64 x.field, int .i64 x.place, int .i64 x.to, int .i64 x.a, int .i64 x.b, int .i64 x.f.id, int .i64 x.f.kind, int .i64 x.f.lo, int .i64 x.f.hi, int .i64 x.f.most, int .i64 n131, str l144, lst (.own (.E 1 14)) 1 (map (fun n => int .i64 n) x.t), lst (.own (.E 1 15)) 5 (map fldV x.fields)])]))))) else A.fail))))) else A.fail) else (bif (p == (8 : Int)) then (A.call 36 [ref 0 0, int .i64 64] [(0, [lst .ro 1 (encB b), int .i64 e])] fun l145 l146 => asC A l146 fun x147 l148 => bif (x147.1.beq 0) then (asC A x147.2 fun v149 l150 => asL A 1 v149 fun l151 => asC A l150 fun v152 l153 => asI A .i64 v152 fun n154 => asN A l153 (asC A l145 fun v155 l156 => asI A .i64 v155 fun n157 => asN A l156 (asN A l148 (A.loop 21 [int .i64 n157, int .i64 0] [[lst .ro 1 l151, int .i64 n154], [int .i64 x.op, int .i64 x.form, int .i64 x.field, int .i64 x.place, int .i64 x.to, int .i64 x.a, int .i64 x.b, int .i64 x.f.id, int .i64 x.f.kind, int .i64 x.f.lo, int .i64 x.f.hi, int .i64 x.f.most, int .i64 x.n, str x.s, lst (.own (.O 1 14)) 1 (map (fun n => int .i64 n) x.t), lst (.own (.O 1 15)) 5 (map fldV x.fields)]] fun j158 l159 l160 => bif (j158.beq 2) then (asN A l159 (asC A l160 fun l161 l162 => asC A l161 fun v163 l164 => asL A 1 v163 fun l165 => asC A l164 fun v166 l167 => asI A .i64 v166 fun n168 => asN A l167 (asC A l162 fun l169 l170 => asC A l169 fun v171 l172 => asI A .i64 v171 fun n173 => asC A l172 fun v174 l175 => asI A .i64 v174 fun n176 => asC A l175 fun v177 l178 => asI A .i64 v177 fun n179 => asC A l178 fun v180 l181 => asI A .i64 v180 fun n182 => asC A l181 fun v183 l184 => asI A .i64 v183 fun n185 => asC A l184 fun v186 l187 => asI A .i64 v186 fun n188 => asC A l187 fun v189 l190 => asI A .i64 v189 fun n191 => asC A l190 fun v192 l193 => asI A .i64 v192 fun n194 => asC A l193 fun v195 l196 => asI A .i64 v195 fun n197 => asC A l196 fun v198 l199 => asI A .i64 v198 fun n200 => asC A l199 fun v201 l202 => asI A .i64 v201 fun n203 => asC A l202 fun v204 l205 => asI A .i64 v204 fun n206 => asC A l205 fun v207 l208 => asI A .i64 v207 fun n209 => asC A l208 fun v210 l211 => asS A v210 fun l212 => asC A l211 fun v213 l214 => asOwn A 1 v213 fun x215 l216 => bif (x215.beq (.O (1 : Nat) (14 : Nat))) then (asC A l214 fun v217 l218 => asOwn A 5 v217 fun x219 l220 => bif (x219.beq (.O (1 : Nat) (15 : Nat))) then (asN A l218 (asN A l170 (kc [] [(0, [lst .ro 1 l165, int .i64 n168]), (1, [int .i64 n173, int .i64 n176, int .i64 n179, int .i64 n182, int .i64 n185, int .i64 n188, int .i64 n191, int .i64 n194, int .i64 n197, int .i64 n200, int .i64 n203, int .i64 n206, int .i64 n209, str l212, lst (.own (.E 1 14)) 1 l216, lst (.own (.E 1 15)) 5 l220])]))) else A.fail) else A.fail))) else A.fail)))) else A.fail) else (bif (p == (9 : Int)) then (A.call 36 [ref 0 0, int .i64 8] [(0, [lst .ro 1 (encB b), int .i64 e])] fun l221 l222 => asC A l222 fun x223 l224 => bif (x223.1.beq 0) then (asC A x223.2 fun v225 l226 => asL A 1 v225 fun l227 => asC A l226 fun v228 l229 => asI A .i64 v228 fun n230 => asN A l229 (asC A l221 fun v231 l232 => asI A .i64 v231 fun n233 => asN A l232 (asN A l224 (A.loop 26 [int .i64 n233, int .i64 0] [[lst .ro 1 l227, int .i64 n230], [int .i64 x.op, int .i64 x.form, int .i64 x.field, int .i64 x.place, int .i64 x.to, int .i64 x.a, int .i64 x.b, int .i64 x.f.id, int .i64 x.f.kind, int .i64 x.f.lo, int .i64 x.f.hi, int .i64 x.f.most, int .i64 x.n, str x.s, lst (.own (.O 1 14)) 1 (map (fun n => int .i64 n) x.t), lst (.own (.O 1 15)) 5 (map fldV x.fields)]] fun j234 l235 l236 => bif (j234.beq 4) then (asN A l235 (asC A l236 fun l237 l238 => asC A l237 fun v239 l240 => asL A 1 v239 fun l241 => asC A l240 fun v242 l243 => asI A .i64 v242 fun n244 => asN A l243 (asC A l238 fun l245 l246 => asC A l245 fun v247 l248 => asI A .i64 v247 fun n249 => asC A l248 fun v250 l251 => asI A .i64 v250 fun n252 => asC A l251 fun v253 l254 => asI A .i64 v253 fun n255 => asC A l254 fun v256 l257 => asI A .i64 v256 fun n258 => asC A l257 fun v259 l260 => asI A .i64 v259 fun n261 => asC A l260 fun v262 l263 => asI A .i64 v262 fun n264 => asC A l263 fun v265 l266 => asI A .i64 v265 fun n267 => asC A l266 fun v268 l269 => asI A .i64 v268 fun n270 => asC A l269 fun v271 l272 => asI A .i64 v271 fun n273 => asC A l272 fun v274 l275 => asI A .i64 v274 fun n276 => asC A l275 fun v277 l278 => asI A .i64 v277 fun n279 => asC A l278 fun v280 l281 => asI A .i64 v280 fun n282 => asC A l281 fun v283 l284 => asI A .i64 v283 fun n285 => asC A l284 fun v286 l287 => asS A v286 fun l288 => asC A l287 fun v289 l290 => asOwn A 1 v289 fun x291 l292 => bif (x291.beq (.O (1 : Nat) (14 : Nat))) then (asC A l290 fun v293 l294 => asOwn A 5 v293 fun x295 l296 => bif (x295.beq (.O (1 : Nat) (15 : Nat))) then (asN A l294 (asN A l246 (kc [] [(0, [lst .ro 1 l241, int .i64 n244]), (1, [int .i64 n249, int .i64 n252, int .i64 n255, int .i64 n258, int .i64 n261, int .i64 n264, int .i64 n267, int .i64 n270, int .i64 n273, int .i64 n276, int .i64 n279, int .i64 n282, int .i64 n285, str l288, lst (.own (.E 1 14)) 1 l292, lst (.own (.E 1 15)) 5 l296])]))) else A.fail) else A.fail))) else A.fail)))) else A.fail) else (kc [] [(0, [lst .ro 1 (encB b), int .i64 e]), (1, [int .i64 x.op, int .i64 x.form, int .i64 x.field, int .i64 x.place, int .i64 x.to, int .i64 x.a, int .i64 x.b, int .i64 x.f.id, int .i64 x.f.kind, int .i64 x.f.lo, int .i64 x.f.hi, int .i64 x.f.most, int .i64 x.n, str x.s, lst (.own (.E 1 14)) 1 (map (fun n => int .i64 n) x.t), lst (.own (.E 1 15)) 5 (map fldV x.fields)])]))))))))))
def s_treadT {α : Type} (A : Alg α) (b : List UInt8) (x : Stp) (m : Int) (i : Int) (e : Int) (next : List AV → List (List AV) → α) (kc : Nat → List AV → List (List AV) → α) : α :=
  bif (decide (i < m)) then (A.both (A.call 36 [ref 0 0, int .i64 1000] [(0, [lst .ro 1 (encB b), int .i64 e])] fun l0 l1 => asC A l1 fun x2 l3 => bif (x2.1.beq 0) then (asC A x2.2 fun v4 l5 => asL A 1 v4 fun l6 => asC A l5 fun v7 l8 => asI A .i64 v7 fun n9 => asN A l8 (asC A l0 fun v10 l11 => asI A .i64 v10 fun n12 => asN A l11 (asN A l3 (A.chk (decide (((map (fun n => int .i64 n) x.t).length + [int .i64 n12].length) * 8 ≤ 140737488355328)) (A.chk true (next [int .i64 m, int .i64 (IntKind.i64.wrap (i + (1 : Int)))] [[lst .ro 1 l6, int .i64 n9], [int .i64 x.op, int .i64 x.form, int .i64 x.field, int .i64 x.place, int .i64 x.to, int .i64 x.a, int .i64 x.b, int .i64 x.f.id, int .i64 x.f.kind, int .i64 x.f.lo, int .i64 x.f.hi, int .i64 x.f.most, int .i64 x.n, str x.s, lst (.own (.O 1 14)) 1 (map (fun n => int .i64 n) x.t ++ [int .i64 n12]), lst (.own (.O 1 15)) 5 (map fldV x.fields)]])))))) else A.fail) (A.call 36 [ref 0 0, int .i64 1000] [(0, [lst .ro 1 (encB b), int .i64 e])] fun l13 l14 => asC A l14 fun x15 l16 => bif (x15.1.beq 0) then (asC A x15.2 fun v17 l18 => asL A 1 v17 fun l19 => asC A l18 fun v20 l21 => asI A .i64 v20 fun n22 => asN A l21 (asC A l13 fun v23 l24 => asI A .i64 v23 fun n25 => asN A l24 (asN A l16 (A.both (A.chk (decide (((map (fun n => int .i64 n) x.t).length + [int .i64 n25].length) * 8 ≤ 140737488355328)) (A.chk true (next [int .i64 m, int .i64 (IntKind.i64.wrap (i + (1 : Int)))] [[lst .ro 1 l19, int .i64 n22], [int .i64 x.op, int .i64 x.form, int .i64 x.field, int .i64 x.place, int .i64 x.to, int .i64 x.a, int .i64 x.b, int .i64 x.f.id, int .i64 x.f.kind, int .i64 x.f.lo, int .i64 x.f.hi, int .i64 x.f.most, int .i64 x.n, str x.s, lst (.own (.O 1 14)) 1 (map (fun n => int .i64 n) x.t ++ [int .i64 n25]), lst (.own (.O 1 15)) 5 (map fldV x.fields)]]))) (A.chk (decide (((map (fun n => int .i64 n) x.t).length + [int .i64 n25].length) * 8 ≤ 140737488355328)) (A.chk true (next [int .i64 m, int .i64 (IntKind.i64.wrap (i + (1 : Int)))] [[lst .ro 1 l19, int .i64 n22], [int .i64 x.op, int .i64 x.form, int .i64 x.field, int .i64 x.place, int .i64 x.to, int .i64 x.a, int .i64 x.b, int .i64 x.f.id, int .i64 x.f.kind, int .i64 x.f.lo, int .i64 x.f.hi, int .i64 x.f.most, int .i64 x.n, str x.s, lst (.own (.O 1 14)) 1 (map (fun n => int .i64 n) x.t ++ [int .i64 n25]), lst (.own (.O 1 15)) 5 (map fldV x.fields)]]))))))) else A.fail)) else (kc 2 [] [[lst .ro 1 (encB b), int .i64 e], [int .i64 x.op, int .i64 x.form, int .i64 x.field, int .i64 x.place, int .i64 x.to, int .i64 x.a, int .i64 x.b, int .i64 x.f.id, int .i64 x.f.kind, int .i64 x.f.lo, int .i64 x.f.hi, int .i64 x.f.most, int .i64 x.n, str x.s, lst (.own (.O 1 14)) 1 (map (fun n => int .i64 n) x.t), lst (.own (.O 1 15)) 5 (map fldV x.fields)]])
def s_treadF {α : Type} (A : Alg α) (b : List UInt8) (x : Stp) (m : Int) (i : Int) (e : Int) (next : List AV → List (List AV) → α) (kc : Nat → List AV → List (List AV) → α) : α :=
  bif (decide (i < m)) then (A.both (A.call 101 [ref 0 0] [(0, [lst .ro 1 (encB b), int .i64 e])] fun l0 l1 => asC A l1 fun x2 l3 => bif (x2.1.beq 0) then (asC A x2.2 fun v4 l5 => asL A 1 v4 fun l6 => asC A l5 fun v7 l8 => asI A .i64 v7 fun n9 => asN A l8 (asC A l0 fun v10 l11 => asA A v10 fun l12 => asC A l12 fun v13 l14 => asI A .i64 v13 fun n15 => asC A l14 fun v16 l17 => asI A .i64 v16 fun n18 => asC A l17 fun v19 l20 => asI A .i64 v19 fun n21 => asC A l20 fun v22 l23 => asI A .i64 v22 fun n24 => asC A l23 fun v25 l26 => asI A .i64 v25 fun n27 => asN A l26 (asN A l11 (asN A l3 (A.chk true (A.chk (decide (((map fldV x.fields).length + [agg [int .i64 n15, int .i64 n18, int .i64 n21, int .i64 n24, int .i64 n27]].length) * 40 ≤ 140737488355328)) (A.chk true (next [int .i64 m, int .i64 (IntKind.i64.wrap (i + (1 : Int)))] [[lst .ro 1 l6, int .i64 n9], [int .i64 x.op, int .i64 x.form, int .i64 x.field, int .i64 x.place, int .i64 x.to, int .i64 x.a, int .i64 x.b, int .i64 x.f.id, int .i64 x.f.kind, int .i64 x.f.lo, int .i64 x.f.hi, int .i64 x.f.most, int .i64 x.n, str x.s, lst (.own (.O 1 14)) 1 (map (fun n => int .i64 n) x.t), lst (.own (.O 1 15)) 5 (map fldV x.fields ++ [agg [int .i64 n15, int .i64 n18, int .i64 n21, int .i64 n24, int .i64 n27]])]])))))))) else A.fail) (A.call 101 [ref 0 0] [(0, [lst .ro 1 (encB b), int .i64 e])] fun l28 l29 => asC A l29 fun x30 l31 => bif (x30.1.beq 0) then (asC A x30.2 fun v32 l33 => asL A 1 v32 fun l34 => asC A l33 fun v35 l36 => asI A .i64 v35 fun n37 => asN A l36 (asC A l28 fun v38 l39 => asA A v38 fun l40 => asC A l40 fun v41 l42 => asI A .i64 v41 fun n43 => asC A l42 fun v44 l45 => asI A .i64 v44 fun n46 => asC A l45 fun v47 l48 => asI A .i64 v47 fun n49 => asC A l48 fun v50 l51 => asI A .i64 v50 fun n52 => asC A l51 fun v53 l54 => asI A .i64 v53 fun n55 => asN A l54 (asN A l39 (asN A l31 (A.both (A.chk true (A.chk (decide (((map fldV x.fields).length + [agg [int .i64 n43, int .i64 n46, int .i64 n49, int .i64 n52, int .i64 n55]].length) * 40 ≤ 140737488355328)) (A.chk true (next [int .i64 m, int .i64 (IntKind.i64.wrap (i + (1 : Int)))] [[lst .ro 1 l34, int .i64 n37], [int .i64 x.op, int .i64 x.form, int .i64 x.field, int .i64 x.place, int .i64 x.to, int .i64 x.a, int .i64 x.b, int .i64 x.f.id, int .i64 x.f.kind, int .i64 x.f.lo, int .i64 x.f.hi, int .i64 x.f.most, int .i64 x.n, str x.s, lst (.own (.O 1 14)) 1 (map (fun n => int .i64 n) x.t), lst (.own (.O 1 15)) 5 (map fldV x.fields ++ [agg [int .i64 n43, int .i64 n46, int .i64 n49, int .i64 n52, int .i64 n55]])]])))) (A.chk true (A.chk (decide (((map fldV x.fields).length + [agg [int .i64 n43, int .i64 n46, int .i64 n49, int .i64 n52, int .i64 n55]].length) * 40 ≤ 140737488355328)) (A.chk true (next [int .i64 m, int .i64 (IntKind.i64.wrap (i + (1 : Int)))] [[lst .ro 1 l34, int .i64 n37], [int .i64 x.op, int .i64 x.form, int .i64 x.field, int .i64 x.place, int .i64 x.to, int .i64 x.a, int .i64 x.b, int .i64 x.f.id, int .i64 x.f.kind, int .i64 x.f.lo, int .i64 x.f.hi, int .i64 x.f.most, int .i64 x.n, str x.s, lst (.own (.O 1 14)) 1 (map (fun n => int .i64 n) x.t), lst (.own (.O 1 15)) 5 (map fldV x.fields ++ [agg [int .i64 n43, int .i64 n46, int .i64 n49, int .i64 n52, int .i64 n55]])]]))))))))) else A.fail)) else (kc 4 [] [[lst .ro 1 (encB b), int .i64 e], [int .i64 x.op, int .i64 x.form, int .i64 x.field, int .i64 x.place, int .i64 x.to, int .i64 x.a, int .i64 x.b, int .i64 x.f.id, int .i64 x.f.kind, int .i64 x.f.lo, int .i64 x.f.hi, int .i64 x.f.most, int .i64 x.n, str x.s, lst (.own (.O 1 14)) 1 (map (fun n => int .i64 n) x.t), lst (.own (.O 1 15)) 5 (map fldV x.fields)]])
def s_tParse {α : Type} (A : Alg α) (b : List UInt8) (kc : List AV → List (Nat × List AV) → α) : α :=
  A.call 35 [lst .ro 1 (encB b)] [] fun l0 l1 => asC A l0 fun v2 l3 => asRef0 A v2 fun o4 => bif (o4.beq 64) then (asC A l1 fun x5 l6 => bif (x5.1.beq 64) then (asC A x5.2 fun v7 l8 => asL A 1 v7 fun l9 => asC A l8 fun v10 l11 => asI A .i64 v10 fun n12 => asN A l11 (asN A l3 (asN A l6 (A.call 36 [ref 0 0, int .i64 40] [(0, [lst .ro 1 l9, int .i64 n12])] fun l13 l14 => asC A l14 fun x15 l16 => bif (x15.1.beq 0) then (asC A x15.2 fun v17 l18 => asL A 1 v17 fun l19 => asC A l18 fun v20 l21 => asI A .i64 v20 fun n22 => asN A l21 (asC A l13 fun v23 l24 => asI A .i64 v23 fun n25 => asN A l24 (asN A l16 (A.loop 4 [lst (.own (.L 5)) 16 [], int .i64 n25, int .i64 0] [[lst .ro 1 l19, int .i64 n22]] fun j26 l27 l28 => bif (j26.beq 1) then (asC A l27 fun v29 l30 => asOwn A 16 v29 fun x31 l32 => bif (x31.beq (.L (5 : Nat))) then (asN A l30 (asC A l28 fun l33 l34 => asC A l33 fun v35 l36 => asL A 1 v35 fun l37 => asC A l36 fun v38 l39 => asI A .i64 v38 fun n40 => asN A l39 (asN A l34 (A.call 38 [ref 0 0] [(0, [lst .ro 1 l37, int .i64 n40])] fun l41 l42 => asC A l42 fun x43 l44 => bif (x43.1.beq 0) then (asC A x43.2 fun v45 l46 => asL A 1 v45 fun l47 => asC A l46 fun v48 l49 => asI A .i64 v48 fun n50 => asN A l49 (asC A l41 fun v51 l52 => asI A .i64 v51 fun n53 => asN A l52 (asN A l44 (bif (n53 != (0 : Int)) then (kc [lst .ro 16 [], int .i64 n53] []) else (A.callx 75 [lst .ro 16 l32, clo 76 []] fun l54 => asC A l54 fun v55 l56 => asB A v55 fun b57 => asN A l56 (bif b57 then (kc [lst .ro 16 [], int .i64 2] []) else (kc [lst .ro 16 l32, int .i64 0] []))))))) else A.fail)))) else A.fail) else A.fail)))) else A.fail)))) else A.fail) else A.fail
def s_tParseL {α : Type} (A : Alg α) (b : List UInt8) (l : List Stp) (n : Int) (i : Int) (e : Int) (next : List AV → List (List AV) → α) (kc : Nat → List AV → List (List AV) → α) : α :=
  bif (decide (i < n)) then (A.call 36 [ref 0 0, int .i64 30] [(0, [lst .ro 1 (encB b), int .i64 e])] fun l0 l1 => asC A l1 fun x2 l3 => bif (x2.1.beq 0) then (asC A x2.2 fun v4 l5 => asL A 1 v4 fun l6 => asC A l5 fun v7 l8 => asI A .i64 v7 fun n9 => asN A l8 (asC A l0 fun v10 l11 => asI A .i64 v10 fun n12 => asN A l11 (asN A l3 (A.chk true (A.chk true (A.chk true (A.callx 59 [int .i64 n12] fun l13 => asC A l13 fun v14 l15 => asL A 1 v14 fun l16 => asN A l15 (A.asm (l16.length ≤ maxL) (A.loop 7 [lst (.own (.L 5)) 16 (map stpV l), int .i64 n, int .i64 i, lst .ro 1 l16, int .i64 (↑l16.length : Int), int .i64 0] [[int .i64 n12, int .i64 0, int .i64 0, int .i64 0, int .i64 0, int .i64 0, int .i64 0, int .i64 0, int .i64 0, int .i64 0, int .i64 0, int .i64 0, int .i64 0, str [], lst (.own (.O 1006 14)) 1 [], lst (.own (.O 1006 15)) 5 []], [lst .ro 1 l6, int .i64 n9]] fun j17 l18 l19 => bif (j17.beq 3) then (asC A l18 fun v20 l21 => asOwn A 16 v20 fun x22 l23 => bif (x22.beq (.L (5 : Nat))) then (asC A l21 fun v24 l25 => asI A .i64 v24 fun n26 => asC A l25 fun v27 l28 => asI A .i64 v27 fun n29 => asN A l28 (asC A l19 fun l30 l31 => asC A l30 fun v32 l33 => asI A .i64 v32 fun n34 => asC A l33 fun v35 l36 => asI A .i64 v35 fun n37 => asC A l36 fun v38 l39 => asI A .i64 v38 fun n40 => asC A l39 fun v41 l42 => asI A .i64 v41 fun n43 => asC A l42 fun v44 l45 => asI A .i64 v44 fun n46 => asC A l45 fun v47 l48 => asI A .i64 v47 fun n49 => asC A l48 fun v50 l51 => asI A .i64 v50 fun n52 => asC A l51 fun v53 l54 => asI A .i64 v53 fun n55 => asC A l54 fun v56 l57 => asI A .i64 v56 fun n58 => asC A l57 fun v59 l60 => asI A .i64 v59 fun n61 => asC A l60 fun v62 l63 => asI A .i64 v62 fun n64 => asC A l63 fun v65 l66 => asI A .i64 v65 fun n67 => asC A l66 fun v68 l69 => asI A .i64 v68 fun n70 => asC A l69 fun v71 l72 => asS A v71 fun l73 => asC A l72 fun v74 l75 => asOwn A 1 v74 fun x76 l77 => bif (x76.beq (.O (1006 : Nat) (14 : Nat))) then (asC A l75 fun v78 l79 => asOwn A 5 v78 fun x80 l81 => bif (x80.beq (.O (1006 : Nat) (15 : Nat))) then (asN A l79 (asC A l31 fun l82 l83 => asC A l82 fun v84 l85 => asL A 1 v84 fun l86 => asC A l85 fun v87 l88 => asI A .i64 v87 fun n89 => asN A l88 (asN A l83 (A.chk true (A.chk true (A.chk (decide ((l23.length + [agg [int .i64 n34, int .i64 n37, int .i64 n40, int .i64 n43, int .i64 n46, int .i64 n49, int .i64 n52, int .i64 n55, int .i64 n58, int .i64 n61, int .i64 n64, int .i64 n67, int .i64 n70, str l73, lst .ro (nat_lit 1) l77, lst .ro (nat_lit 5) l81]].length) * 168 ≤ 140737488355328)) (next [lst (.own (.L 5)) 16 (l23 ++ [agg [int .i64 n34, int .i64 n37, int .i64 n40, int .i64 n43, int .i64 n46, int .i64 n49, int .i64 n52, int .i64 n55, int .i64 n58, int .i64 n61, int .i64 n64, int .i64 n67, int .i64 n70, str l73, lst .ro (nat_lit 1) l77, lst .ro (nat_lit 5) l81]]), int .i64 n26, int .i64 (IntKind.i64.wrap (n29 + (1 : Int)))] [[lst .ro 1 l86, int .i64 n89]]))))))) else A.fail) else A.fail)) else A.fail) else A.fail))))))))) else A.fail) else (kc 1 [lst (.own (.L 5)) 16 (map stpV l)] [[lst .ro 1 (encB b), int .i64 e]])
def s_tParseK {α : Type} (A : Alg α) (b : List UInt8) (l : List Stp) (x : Stp) (u : List Int) (n : Int) (i : Int) (m : Int) (k : Int) (e : Int) (next : List AV → List (List AV) → α) (kc : Nat → List AV → List (List AV) → α) : α :=
  bif (decide (k < m)) then (A.chk (decide ((0 : Int) ≤ k)) (nthE A (map (fun n => int .i64 n) u) k.toNat fun v0 => asI A .i64 v0 fun n1 => A.call 74 [ref 0 0, ref 1 0, int .i64 n1] [(0, [lst .ro 1 (encB b), int .i64 e]), (1, [int .i64 x.op, int .i64 x.form, int .i64 x.field, int .i64 x.place, int .i64 x.to, int .i64 x.a, int .i64 x.b, int .i64 x.f.id, int .i64 x.f.kind, int .i64 x.f.lo, int .i64 x.f.hi, int .i64 x.f.most, int .i64 x.n, str x.s, lst (.own (.E 1 14)) 1 (map (fun n => int .i64 n) x.t), lst (.own (.E 1 15)) 5 (map fldV x.fields)])] fun l2 l3 => asC A l3 fun x4 l5 => bif (x4.1.beq 0) then (asC A x4.2 fun v6 l7 => asL A 1 v6 fun l8 => asC A l7 fun v9 l10 => asI A .i64 v9 fun n11 => asN A l10 (asC A l5 fun x12 l13 => bif (x12.1.beq 1) then (asC A x12.2 fun v14 l15 => asI A .i64 v14 fun n16 => asC A l15 fun v17 l18 => asI A .i64 v17 fun n19 => asC A l18 fun v20 l21 => asI A .i64 v20 fun n22 => asC A l21 fun v23 l24 => asI A .i64 v23 fun n25 => asC A l24 fun v26 l27 => asI A .i64 v26 fun n28 => asC A l27 fun v29 l30 => asI A .i64 v29 fun n31 => asC A l30 fun v32 l33 => asI A .i64 v32 fun n34 => asC A l33 fun v35 l36 => asI A .i64 v35 fun n37 => asC A l36 fun v38 l39 => asI A .i64 v38 fun n40 => asC A l39 fun v41 l42 => asI A .i64 v41 fun n43 => asC A l42 fun v44 l45 => asI A .i64 v44 fun n46 => asC A l45 fun v47 l48 => asI A .i64 v47 fun n49 => asC A l48 fun v50 l51 => asI A .i64 v50 fun n52 => asC A l51 fun v53 l54 => asS A v53 fun l55 => asC A l54 fun v56 l57 => asOwn A 1 v56 fun x58 l59 => asC A l57 fun v60 l61 => asOwn A 5 v60 fun x62 l63 => asN A l61 (asN A l2 (asN A l13 (next [lst (.own (.L 5)) 16 (map stpV l), int .i64 n, int .i64 i, lst .ro 1 (map (fun n => int .i64 n) u), int .i64 m, int .i64 (IntKind.i64.wrap (k + (1 : Int)))] [[int .i64 n16, int .i64 n19, int .i64 n22, int .i64 n25, int .i64 n28, int .i64 n31, int .i64 n34, int .i64 n37, int .i64 n40, int .i64 n43, int .i64 n46, int .i64 n49, int .i64 n52, str l55, lst (.own (.O 1006 14)) 1 l59, lst (.own (.O 1006 15)) 5 l63], [lst .ro 1 l8, int .i64 n11]])))) else A.fail)) else A.fail)) else (kc 3 [lst (.own (.L 5)) 16 (map stpV l), int .i64 n, int .i64 i] [[int .i64 x.op, int .i64 x.form, int .i64 x.field, int .i64 x.place, int .i64 x.to, int .i64 x.a, int .i64 x.b, int .i64 x.f.id, int .i64 x.f.kind, int .i64 x.f.lo, int .i64 x.f.hi, int .i64 x.f.most, int .i64 x.n, str x.s, lst (.own (.O 1006 14)) 1 (map (fun n => int .i64 n) x.t), lst (.own (.O 1006 15)) 5 (map fldV x.fields)], [lst .ro 1 (encB b), int .i64 e]])
def s_Parse1 {α : Type} (A : Alg α) (x : Stp) (kc : List AV → List (Nat × List AV) → α) : α :=
  A.chk true (A.chk true (A.callx 58 [agg [int .i64 x.op, int .i64 x.form, int .i64 x.field, int .i64 x.place, int .i64 x.to, int .i64 x.a, int .i64 x.b, int .i64 x.f.id, int .i64 x.f.kind, int .i64 x.f.lo, int .i64 x.f.hi, int .i64 x.f.most, int .i64 x.n, str x.s, lst .ro 1 (map (fun n => int .i64 n) x.t), lst .ro 5 (map fldV x.fields)]] fun l0 => asC A l0 fun v1 l2 => asB A v1 fun b3 => asN A l2 (kc [bool (!b3)] [])))
def s_ContainsS {α : Type} (A : Alg α) (l : List Stp) (kc : List AV → List (Nat × List AV) → α) : α :=
  A.callx 102 [lst .ro 16 (map stpV l), clo 76 []] fun l0 => asC A l0 fun v1 l2 => asI A .i64 v1 fun n3 => asN A l2 (kc [bool (decide (n3 ≥ (0 : Int)))] [])
def s_IndexS {α : Type} (A : Alg α) (l : List Stp) (kc : List AV → List (Nat × List AV) → α) : α :=
  A.asm ((map stpV l).length ≤ maxL) (A.loop 2 [lst .ro 16 (map stpV l), clo 76 [], int .i64 (↑(map stpV l).length : Int), int .i64 0] [] fun j0 l1 l2 => bif (j0.beq 0) then (asC A l1 fun v3 l4 => asI A .i64 v3 fun n5 => asN A l4 (asN A l2 (kc [int .i64 n5] []))) else (bif (j0.beq 1) then (asN A l1 (asN A l2 (kc [int .i64 (-1)] []))) else A.fail))
def s_IndexSL {α : Type} (A : Alg α) (l : List Stp) (m : Int) (i : Int) (next : List AV → List (List AV) → α) (kc : Nat → List AV → List (List AV) → α) : α :=
  bif (decide (i < m)) then (A.chk (decide ((0 : Int) ≤ i)) (nthE A (map stpV l) i.toNat fun v0 => asA A v0 fun l1 => asC A l1 fun v2 l3 => asI A .i64 v2 fun n4 => asC A l3 fun v5 l6 => asI A .i64 v5 fun n7 => asC A l6 fun v8 l9 => asI A .i64 v8 fun n10 => asC A l9 fun v11 l12 => asI A .i64 v11 fun n13 => asC A l12 fun v14 l15 => asI A .i64 v14 fun n16 => asC A l15 fun v17 l18 => asI A .i64 v17 fun n19 => asC A l18 fun v20 l21 => asI A .i64 v20 fun n22 => asC A l21 fun v23 l24 => asI A .i64 v23 fun n25 => asC A l24 fun v26 l27 => asI A .i64 v26 fun n28 => asC A l27 fun v29 l30 => asI A .i64 v29 fun n31 => asC A l30 fun v32 l33 => asI A .i64 v32 fun n34 => asC A l33 fun v35 l36 => asI A .i64 v35 fun n37 => asC A l36 fun v38 l39 => asI A .i64 v38 fun n40 => asC A l39 fun v41 l42 => asS A v41 fun l43 => asC A l42 fun v44 l45 => asL A 1 v44 fun l46 => asC A l45 fun v47 l48 => asL A 5 v47 fun l49 => asN A l48 (A.chk true (A.callx 76 [agg [int .i64 n4, int .i64 n7, int .i64 n10, int .i64 n13, int .i64 n16, int .i64 n19, int .i64 n22, int .i64 n25, int .i64 n28, int .i64 n31, int .i64 n34, int .i64 n37, int .i64 n40, str l43, lst .ro 1 l46, lst .ro 5 l49]] fun l50 => asC A l50 fun v51 l52 => asB A v51 fun b53 => asN A l52 (bif b53 then (kc 0 [int .i64 i] []) else (next [lst .ro 16 (map stpV l), clo 76 [], int .i64 m, int .i64 (IntKind.i64.wrap (i + (1 : Int)))] [])))))) else (kc 1 [] [])
def s_takeField15 {α : Type} (A : Alg α) (b : List UInt8) (e : Int) (kc : List AV → List (Nat × List AV) → α) : α :=
  A.call 41 [ref 0 0, int .i64 255] [(0, [lst .ro 1 (encB b), int .i64 e])] fun l0 l1 => asC A l1 fun x2 l3 => bif (x2.1.beq 0) then (asC A x2.2 fun v4 l5 => asL A 1 v4 fun l6 => asC A l5 fun v7 l8 => asI A .i64 v7 fun n9 => asN A l8 (asC A l0 fun v10 l11 => asI A .i64 v10 fun n12 => asN A l11 (asN A l3 (A.chk true (A.chk true (A.chk true (A.call 41 [ref 0 0, int .i64 4] [(0, [lst .ro 1 l6, int .i64 n9])] fun l13 l14 => asC A l14 fun x15 l16 => bif (x15.1.beq 0) then (asC A x15.2 fun v17 l18 => asL A 1 v17 fun l19 => asC A l18 fun v20 l21 => asI A .i64 v20 fun n22 => asN A l21 (asC A l13 fun v23 l24 => asI A .i64 v23 fun n25 => asN A l24 (asN A l16 (A.chk true (A.call 103 [ref 0 0] [(0, [lst .ro 1 l19, int .i64 n22])] fun l26 l27 => asC A l27 fun x28 l29 => bif (x28.1.beq 0) then (asC A x28.2 fun v30 l31 => asL A 1 v30 fun l32 => asC A l31 fun v33 l34 => asI A .i64 v33 fun n35 => asN A l34 (asC A l26 fun v36 l37 => asI A .i64 v36 fun n38 => asN A l37 (asN A l29 (A.chk true (A.call 103 [ref 0 0] [(0, [lst .ro 1 l32, int .i64 n35])] fun l39 l40 => asC A l40 fun x41 l42 => bif (x41.1.beq 0) then (asC A x41.2 fun v43 l44 => asL A 1 v43 fun l45 => asC A l44 fun v46 l47 => asI A .i64 v46 fun n48 => asN A l47 (asC A l39 fun v49 l50 => asI A .i64 v49 fun n51 => asN A l50 (asN A l42 (A.chk true (A.call 41 [ref 0 0, int .i64 1000] [(0, [lst .ro 1 l45, int .i64 n48])] fun l52 l53 => asC A l53 fun x54 l55 => bif (x54.1.beq 0) then (asC A x54.2 fun v56 l57 => asL A 1 v56 fun l58 => asC A l57 fun v59 l60 => asI A .i64 v59 fun n61 => asN A l60 (asC A l52 fun v62 l63 => asI A .i64 v62 fun n64 => asN A l63 (asN A l55 (A.chk true (A.chk true (A.chk true (A.chk true (A.chk true (kc [agg [int .i64 n12, int .i64 n25, int .i64 n38, int .i64 n51, int .i64 n64]] [(0, [lst .ro 1 l58, int .i64 n61])]))))))))) else A.fail))))) else A.fail))))) else A.fail))))) else A.fail))))))) else A.fail
def s_take15 {α : Type} (A : Alg α) (b : List UInt8) (e : Int) (kc : List AV → List (Nat × List AV) → α) : α :=
  A.call 41 [ref 0 0, int .i64 30] [(0, [lst .ro 1 (encB b), int .i64 e])] fun l0 l1 => asC A l1 fun x2 l3 => bif (x2.1.beq 0) then (asC A x2.2 fun v4 l5 => asL A 1 v4 fun l6 => asC A l5 fun v7 l8 => asI A .i64 v7 fun n9 => asN A l8 (asC A l0 fun v10 l11 => asI A .i64 v10 fun n12 => asN A l11 (asN A l3 (A.chk true (A.chk true (A.chk true (A.callx 92 [int .i64 n12] fun l13 => asC A l13 fun v14 l15 => asS A v14 fun l16 => asN A l15 (A.loop 4 [str l16, int .i64 0] [[lst .ro 1 l6, int .i64 n9], [int .i64 0, int .i64 0, int .i64 0, int .i64 0, int .i64 0, int .i64 0, int .i64 0, int .i64 0, int .i64 0, int .i64 0, int .i64 0, int .i64 0, int .i64 0, str [], lst .ro 1 [], lst .ro 5 []], [int .i64 n12, int .i64 0, int .i64 0, int .i64 0, int .i64 0, int .i64 0, int .i64 0, int .i64 0, int .i64 0, int .i64 0, int .i64 0, int .i64 0, int .i64 0, str [], lst (.own (.O 1003 14)) 1 [], lst (.own (.O 1003 15)) 5 []]] fun j17 l18 l19 => bif (j17.beq 1) then (asN A l18 (asC A l19 fun l20 l21 => asC A l20 fun v22 l23 => asL A 1 v22 fun l24 => asC A l23 fun v25 l26 => asI A .i64 v25 fun n27 => asN A l26 (asC A l21 fun l28 l29 => asC A l28 fun v30 l31 => asI A .i64 v30 fun n32 => asC A l31 fun v33 l34 => asI A .i64 v33 fun n35 => asC A l34 fun v36 l37 => asI A .i64 v36 fun n38 => asC A l37 fun v39 l40 => asI A .i64 v39 fun n41 => asC A l40 fun v42 l43 => asI A .i64 v42 fun n44 => asC A l43 fun v45 l46 => asI A .i64 v45 fun n47 => asC A l46 fun v48 l49 => asI A .i64 v48 fun n50 => asC A l49 fun v51 l52 => asI A .i64 v51 fun n53 => asC A l52 fun v54 l55 => asI A .i64 v54 fun n56 => asC A l55 fun v57 l58 => asI A .i64 v57 fun n59 => asC A l58 fun v60 l61 => asI A .i64 v60 fun n62 => asC A l61 fun v63 l64 => asI A .i64 v63 fun n65 => asC A l64 fun v66 l67 => asI A .i64 v66 fun n68 => asC A l67 fun v69 l70 => asS A v69 fun l71 => asC A l70 fun v72 l73 => asL A 1 v72 fun l74 => asC A l73 fun v75 l76 => asL A 5 v75 fun l77 => asN A l76 (asC A l29 fun l78 l79 => asC A l78 fun v80 l81 => asI A .i64 v80 fun n82 => asC A l81 fun v83 l84 => asI A .i64 v83 fun n85 => asC A l84 fun v86 l87 => asI A .i64 v86 fun n88 => asC A l87 fun v89 l90 => asI A .i64 v89 fun n91 => asC A l90 fun v92 l93 => asI A .i64 v92 fun n94 => asC A l93 fun v95 l96 => asI A .i64 v95 fun n97 => asC A l96 fun v98 l99 => asI A .i64 v98 fun n100 => asC A l99 fun v101 l102 => asI A .i64 v101 fun n103 => asC A l102 fun v104 l105 => asI A .i64 v104 fun n106 => asC A l105 fun v107 l108 => asI A .i64 v107 fun n109 => asC A l108 fun v110 l111 => asI A .i64 v110 fun n112 => asC A l111 fun v113 l114 => asI A .i64 v113 fun n115 => asC A l114 fun v116 l117 => asI A .i64 v116 fun n118 => asC A l117 fun v119 l120 => asS A v119 fun l121 => asC A l120 fun v122 l123 => asOwn A 1 v122 fun x124 l125 => bif (x124.beq (.O (1003 : Nat) (14 : Nat))) then (asC A l123 fun v126 l127 => asOwn A 5 v126 fun x128 l129 => bif (x128.beq (.O (1003 : Nat) (15 : Nat))) then (asN A l127 (asN A l79 (A.chk true (A.chk true (A.chk true (A.chk true (kc [agg [int .i64 n82, int .i64 n85, int .i64 n88, int .i64 n91, int .i64 n94, int .i64 n97, int .i64 n100, int .i64 n103, int .i64 n106, int .i64 n109, int .i64 n112, int .i64 n115, int .i64 n118, str l121, lst .ro 1 l125, lst .ro 5 l129]] [(0, [lst .ro 1 l24, int .i64 n27])]))))))) else A.fail) else A.fail)))) else A.fail)))))))) else A.fail
def s_ytParse {α : Type} (A : Alg α) (b : List UInt8) (kc : List AV → List (Nat × List AV) → α) : α :=
  A.chk true (A.chk true (A.call 41 [ref 0 0, int .i64 40] [(0, [lst .ro 1 (encB b), int .i64 0])] fun l0 l1 => asC A l1 fun x2 l3 => bif (x2.1.beq 0) then (asC A x2.2 fun v4 l5 => asL A 1 v4 fun l6 => asC A l5 fun v7 l8 => asI A .i64 v7 fun n9 => asN A l8 (asC A l0 fun v10 l11 => asI A .i64 v10 fun n12 => asN A l11 (asN A l3 (A.loop 5 [lst (.own (.L 5)) 16 [], int .i64 n12, int .i64 0] [[lst .ro 1 l6, int .i64 n9]] fun j13 l14 l15 => bif (j13.beq 1) then (asC A l14 fun v16 l17 => asOwn A 16 v16 fun x18 l19 => bif (x18.beq (.L (5 : Nat))) then (asN A l17 (asC A l15 fun l20 l21 => asC A l20 fun v22 l23 => asL A 1 v22 fun l24 => asC A l23 fun v25 l26 => asI A .i64 v25 fun n27 => asN A l26 (asN A l21 (A.call 43 [ref 0 0] [(0, [lst .ro 1 l24, int .i64 n27])] fun l28 l29 => asC A l29 fun x30 l31 => bif (x30.1.beq 0) then (asC A x30.2 fun v32 l33 => asL A 1 v32 fun l34 => asC A l33 fun v35 l36 => asI A .i64 v35 fun n37 => asN A l36 (asC A l28 fun v38 l39 => asI A .i64 v38 fun n40 => asN A l39 (asN A l31 (bif (n40 == (0 : Int)) then (A.callx 30 [lst .ro 16 l19] fun l41 => asC A l41 fun v42 l43 => asI A .i64 v42 fun n44 => asN A l43 (bif (n44 != (0 : Int)) then (kc [lst .ro 16 [], int .i64 n44] []) else (kc [lst .ro 16 l19, int .i64 0] []))) else (bif (n40 != (0 : Int)) then (kc [lst .ro 16 [], int .i64 n40] []) else (kc [lst .ro 16 l19, int .i64 0] [])))))) else A.fail)))) else A.fail) else A.fail)))) else A.fail))
def s_ytParseL {α : Type} (A : Alg α) (b : List UInt8) (l : List Stp) (n : Int) (i : Int) (e : Int) (next : List AV → List (List AV) → α) (kc : Nat → List AV → List (List AV) → α) : α :=
  bif (decide (i < n)) then (A.call 80 [ref 0 0] [(0, [lst .ro 1 (encB b), int .i64 e])] fun l0 l1 => asC A l1 fun x2 l3 => bif (x2.1.beq 0) then (asC A x2.2 fun v4 l5 => asL A 1 v4 fun l6 => asC A l5 fun v7 l8 => asI A .i64 v7 fun n9 => asN A l8 (asC A l0 fun v10 l11 => asA A v10 fun l12 => asC A l12 fun v13 l14 => asI A .i64 v13 fun n15 => asC A l14 fun v16 l17 => asI A .i64 v16 fun n18 => asC A l17 fun v19 l20 => asI A .i64 v19 fun n21 => asC A l20 fun v22 l23 => asI A .i64 v22 fun n24 => asC A l23 fun v25 l26 => asI A .i64 v25 fun n27 => asC A l26 fun v28 l29 => asI A .i64 v28 fun n30 => asC A l29 fun v31 l32 => asI A .i64 v31 fun n33 => asC A l32 fun v34 l35 => asI A .i64 v34 fun n36 => asC A l35 fun v37 l38 => asI A .i64 v37 fun n39 => asC A l38 fun v40 l41 => asI A .i64 v40 fun n42 => asC A l41 fun v43 l44 => asI A .i64 v43 fun n45 => asC A l44 fun v46 l47 => asI A .i64 v46 fun n48 => asC A l47 fun v49 l50 => asI A .i64 v49 fun n51 => asC A l50 fun v52 l53 => asS A v52 fun l54 => asC A l53 fun v55 l56 => asL A 1 v55 fun l57 => asC A l56 fun v58 l59 => asL A 5 v58 fun l60 => asN A l59 (asN A l11 (asN A l3 (A.chk true (A.chk (decide (((map stpV l).length + [agg [int .i64 n15, int .i64 n18, int .i64 n21, int .i64 n24, int .i64 n27, int .i64 n30, int .i64 n33, int .i64 n36, int .i64 n39, int .i64 n42, int .i64 n45, int .i64 n48, int .i64 n51, str l54, lst .ro (nat_lit 1) l57, lst .ro (nat_lit 5) l60]].length) * 168 ≤ 140737488355328)) (next [lst (.own (.L 5)) 16 (map stpV l ++ [agg [int .i64 n15, int .i64 n18, int .i64 n21, int .i64 n24, int .i64 n27, int .i64 n30, int .i64 n33, int .i64 n36, int .i64 n39, int .i64 n42, int .i64 n45, int .i64 n48, int .i64 n51, str l54, lst .ro (nat_lit 1) l57, lst .ro (nat_lit 5) l60]]), int .i64 n, int .i64 (IntKind.i64.wrap (i + (1 : Int)))] [[lst .ro 1 l6, int .i64 n9]]))))))) else A.fail) else (kc 1 [lst (.own (.L 5)) 16 (map stpV l)] [[lst .ro 1 (encB b), int .i64 e]])
def s_SameListT {α : Type} (A : Alg α) (x : List Stp) (y : List Stp) (kc : List AV → List (Nat × List AV) → α) : α :=
  A.asm ((map stpV x).length ≤ maxL) (A.asm ((map stpV y).length ≤ maxL) (bif ((↑(map stpV x).length : Int) != (↑(map stpV y).length : Int)) then (kc [bool false] []) else (A.loop 4 [lst .ro 16 (map stpV x), lst .ro 16 (map stpV y), int .i64 0] [] fun j0 l1 l2 => bif (j0.beq 0) then (asC A l1 fun v3 l4 => asB A v3 fun b5 => asN A l4 (asN A l2 (kc [bool b5] []))) else (bif (j0.beq 1) then (asN A l1 (asN A l2 (kc [bool true] []))) else A.fail))))
def s_SameListTL {α : Type} (A : Alg α) (x : List Stp) (y : List Stp) (i : Int) (next : List AV → List (List AV) → α) (kc : Nat → List AV → List (List AV) → α) : α :=
  A.asm ((map stpV x).length ≤ maxL) (bif (decide (i < (↑(map stpV x).length : Int))) then (A.chk (decide ((0 : Int) ≤ i)) (nthE A (map stpV x) i.toNat fun v0 => asA A v0 fun l1 => asC A l1 fun v2 l3 => asI A .i64 v2 fun n4 => asC A l3 fun v5 l6 => asI A .i64 v5 fun n7 => asC A l6 fun v8 l9 => asI A .i64 v8 fun n10 => asC A l9 fun v11 l12 => asI A .i64 v11 fun n13 => asC A l12 fun v14 l15 => asI A .i64 v14 fun n16 => asC A l15 fun v17 l18 => asI A .i64 v17 fun n19 => asC A l18 fun v20 l21 => asI A .i64 v20 fun n22 => asC A l21 fun v23 l24 => asI A .i64 v23 fun n25 => asC A l24 fun v26 l27 => asI A .i64 v26 fun n28 => asC A l27 fun v29 l30 => asI A .i64 v29 fun n31 => asC A l30 fun v32 l33 => asI A .i64 v32 fun n34 => asC A l33 fun v35 l36 => asI A .i64 v35 fun n37 => asC A l36 fun v38 l39 => asI A .i64 v38 fun n40 => asC A l39 fun v41 l42 => asS A v41 fun l43 => asC A l42 fun v44 l45 => asL A 1 v44 fun l46 => asC A l45 fun v47 l48 => asL A 5 v47 fun l49 => asN A l48 (A.chk true (A.chk (decide ((0 : Int) ≤ i)) (nthE A (map stpV y) i.toNat fun v50 => asA A v50 fun l51 => asC A l51 fun v52 l53 => asI A .i64 v52 fun n54 => asC A l53 fun v55 l56 => asI A .i64 v55 fun n57 => asC A l56 fun v58 l59 => asI A .i64 v58 fun n60 => asC A l59 fun v61 l62 => asI A .i64 v61 fun n63 => asC A l62 fun v64 l65 => asI A .i64 v64 fun n66 => asC A l65 fun v67 l68 => asI A .i64 v67 fun n69 => asC A l68 fun v70 l71 => asI A .i64 v70 fun n72 => asC A l71 fun v73 l74 => asI A .i64 v73 fun n75 => asC A l74 fun v76 l77 => asI A .i64 v76 fun n78 => asC A l77 fun v79 l80 => asI A .i64 v79 fun n81 => asC A l80 fun v82 l83 => asI A .i64 v82 fun n84 => asC A l83 fun v85 l86 => asI A .i64 v85 fun n87 => asC A l86 fun v88 l89 => asI A .i64 v88 fun n90 => asC A l89 fun v91 l92 => asS A v91 fun l93 => asC A l92 fun v94 l95 => asL A 1 v94 fun l96 => asC A l95 fun v97 l98 => asL A 5 v97 fun l99 => asN A l98 (A.chk true (A.callx 82 [agg [int .i64 n4, int .i64 n7, int .i64 n10, int .i64 n13, int .i64 n16, int .i64 n19, int .i64 n22, int .i64 n25, int .i64 n28, int .i64 n31, int .i64 n34, int .i64 n37, int .i64 n40, str l43, lst .ro 1 l46, lst .ro 5 l49], agg [int .i64 n54, int .i64 n57, int .i64 n60, int .i64 n63, int .i64 n66, int .i64 n69, int .i64 n72, int .i64 n75, int .i64 n78, int .i64 n81, int .i64 n84, int .i64 n87, int .i64 n90, str l93, lst .ro 1 l96, lst .ro 5 l99]] fun l100 => asC A l100 fun v101 l102 => asB A v101 fun b103 => asN A l102 (bif (!b103) then (kc 0 [bool false] []) else (next [lst .ro 16 (map stpV x), lst .ro 16 (map stpV y), int .i64 (IntKind.i64.wrap (i + (1 : Int)))] []))))))))) else (kc 1 [] []))
theorem t_writeField (b : List AV) (x : Fld) (e : Int) {r : CR} (h : s_writeField (OA (tbl E0) (ltbl E0 88 0)) b x e (fun r o => some (r, o)) = some r) : tbl E0 88 [.ref 0 0, fldV x] (penA b e) = some r :=
  tbl_of (body := bodyOf Tryz.f88) Tryz.func88 (by kernel_rfl) (by kernel_rfl) (by kernel_rfl) (Eq.trans (by kernel_rfl) h)
theorem t_twrite (b : List AV) (x : Stp) (p e : Int) {r : CR} (h : s_twrite (OA (tbl E0) (ltbl E0 60 0)) b x p e (fun r o => some (r, o)) = some r) : tbl E0 60 [.ref 0 0, stpV x, .int .i64 p] (penA b e) = some r :=
  tbl_of (body := bodyOf Tryz.f60) Tryz.func60 (by kernel_rfl) (by kernel_rfl) (by kernel_rfl) (Eq.trans (by kernel_rfl) h)
theorem t_twriteT (l : List Int) (b : List AV) (m i e : Int) {r : LR} (h : s_twriteT (OA (tbl E0) (ltbl E0 60 0)) l b m i e (fun vs os => ltbl E0 60 0 23 vs os) (fun j vs os => some (j, vs, os)) = some r) : ltbl E0 60 0 23 [intsV l, .int .i64 m, .int .i64 i] [[.lst (.own (.O 0 0)) 1 b, .int .i64 e]] = some r :=
  ltbl_of (body := bodyOf Tryz.f60) Tryz.func60 (by kernel_rfl) (by kernel_rfl) (Eq.trans (by kernel_rfl) h)
theorem t_twriteF (l : List Fld) (b : List AV) (m i e : Int) {r : LR} (h : s_twriteF (OA (tbl E0) (ltbl E0 60 0)) l b m i e (fun vs os => ltbl E0 60 0 30 vs os) (fun j vs os => some (j, vs, os)) = some r) : ltbl E0 60 0 30 [fldsV l, .int .i64 m, .int .i64 i] [[.lst (.own (.O 0 0)) 1 b, .int .i64 e]] = some r :=
  ltbl_of (body := bodyOf Tryz.f60) Tryz.func60 (by kernel_rfl) (by kernel_rfl) (Eq.trans (by kernel_rfl) h)
theorem t_tPrint (l : List Stp) {r : CR} (h : s_tPrint (OA (tbl E0) (ltbl E0 24 0)) l (fun r o => some (r, o)) = some r) : tbl E0 24 [stpsV l] [] = some r :=
  tbl_of (body := bodyOf Tryz.f24) Tryz.func24 (by kernel_rfl) (by kernel_rfl) (by kernel_rfl) (Eq.trans (by kernel_rfl) h)
theorem t_tPrintL (l : List Stp) (b : List AV) (m i e : Int) {r : LR} (h : s_tPrintL (OA (tbl E0) (ltbl E0 24 0)) l b m i e (fun vs os => ltbl E0 24 0 6 vs os) (fun j vs os => some (j, vs, os)) = some r) : ltbl E0 24 0 6 [stpsV l, .int .i64 m, .int .i64 i] [[.lst (.own (.O 1012 0)) 1 b, .int .i64 e]] = some r :=
  ltbl_of (body := bodyOf Tryz.f24) Tryz.func24 (by kernel_rfl) (by kernel_rfl) (Eq.trans (by kernel_rfl) h)
theorem t_tPrintK (l : List Stp) (x : Stp) (u : List Int) (b : List AV) (m i n k e : Int) {r : LR} (h : s_tPrintK (OA (tbl E0) (ltbl E0 24 0)) l x u b m i n k e (fun vs os => ltbl E0 24 0 12 vs os) (fun j vs os => some (j, vs, os)) = some r) : ltbl E0 24 0 12 [stpsV l, .int .i64 m, .int .i64 i, intsV u, .int .i64 n, .int .i64 k] [stpC x, [.lst (.own (.O 1012 0)) 1 b, .int .i64 e]] = some r :=
  ltbl_of (body := bodyOf Tryz.f24) Tryz.func24 (by kernel_rfl) (by kernel_rfl) (Eq.trans (by kernel_rfl) h)
theorem t_count15 (n : Int) {r : CR} (h : s_count15 (OA (tbl E0) (ltbl E0 67 0)) n (fun r o => some (r, o)) = some r) : tbl E0 67 [.int .i64 n] [] = some r :=
  tbl_of (body := bodyOf Tryz.f67) Tryz.func67 (by kernel_rfl) (by kernel_rfl) (by kernel_rfl) (Eq.trans (by kernel_rfl) h)
theorem t_typed (x : Fld) {r : CR} (h : s_typed (OA (tbl E0) (ltbl E0 99 0)) x (fun r o => some (r, o)) = some r) : tbl E0 99 [fldV x] [] = some r :=
  tbl_of (body := bodyOf Tryz.f99) Tryz.func99 (by kernel_rfl) (by kernel_rfl) (by kernel_rfl) (Eq.trans (by kernel_rfl) h)
theorem t_sBytes (x : Stp) {r : CR} (h : s_sBytes (OA (tbl E0) (ltbl E0 68 0)) x (fun r o => some (r, o)) = some r) : tbl E0 68 [stpV x] [] = some r :=
  tbl_of (body := bodyOf Tryz.f68) Tryz.func68 (by kernel_rfl) (by kernel_rfl) (by kernel_rfl) (Eq.trans (by kernel_rfl) h)
theorem t_sBytesL (x : Stp) (b : List AV) (s : List UInt8) (i : Int) {r : LR} (h : s_sBytesL (OA (tbl E0) (ltbl E0 68 0)) x b s i (fun vs os => ltbl E0 68 0 4 vs os) (fun j vs os => some (j, vs, os)) = some r) : ltbl E0 68 0 4 [.lst (.own (.L 3)) 1 b, .str s, .int .i64 i] [stpC x] = some r :=
  ltbl_of (body := bodyOf Tryz.f68) Tryz.func68 (by kernel_rfl) (by kernel_rfl) (Eq.trans (by kernel_rfl) h)
theorem t_sBytesT (x : Stp) (b : List AV) (s : List UInt8) (i k : Int) {r : LR} (h : s_sBytesT (OA (tbl E0) (ltbl E0 68 0)) x b s i k (fun vs os => ltbl E0 68 0 26 vs os) (fun j vs os => some (j, vs, os)) = some r) : ltbl E0 68 0 26 [.lst (.own (.L 3)) 1 b, .str s, .int .i64 i, .int .i64 k] [stpC x] = some r :=
  ltbl_of (body := bodyOf Tryz.f68) Tryz.func68 (by kernel_rfl) (by kernel_rfl) (Eq.trans (by kernel_rfl) h)
theorem t_sBytesF (x : Stp) (b : List AV) (s : List UInt8) (i k : Int) {r : LR} (h : s_sBytesF (OA (tbl E0) (ltbl E0 68 0)) x b s i k (fun vs os => ltbl E0 68 0 32 vs os) (fun j vs os => some (j, vs, os)) = some r) : ltbl E0 68 0 32 [.lst (.own (.L 3)) 1 b, .str s, .int .i64 i, .int .i64 k] [stpC x] = some r :=
  ltbl_of (body := bodyOf Tryz.f68) Tryz.func68 (by kernel_rfl) (by kernel_rfl) (Eq.trans (by kernel_rfl) h)
theorem t_ytPrint (l : List Stp) {r : CR} (h : s_ytPrint (OA (tbl E0) (ltbl E0 34 0)) l (fun r o => some (r, o)) = some r) : tbl E0 34 [stpsV l] [] = some r :=
  tbl_of (body := bodyOf Tryz.f34) Tryz.func34 (by kernel_rfl) (by kernel_rfl) (by kernel_rfl) (Eq.trans (by kernel_rfl) h)
theorem t_ytPrintL (l : List Stp) (b : List AV) (i : Int) {r : LR} (h : s_ytPrintL (OA (tbl E0) (ltbl E0 34 0)) l b i (fun vs os => ltbl E0 34 0 3 vs os) (fun j vs os => some (j, vs, os)) = some r) : ltbl E0 34 0 3 [stpsV l, .lst (.own (.L 3)) 1 b, .int .i64 i] [] = some r :=
  ltbl_of (body := bodyOf Tryz.f34) Tryz.func34 (by kernel_rfl) (by kernel_rfl) (Eq.trans (by kernel_rfl) h)
theorem t_Rights15 (l : List Stp) {r : CR} (h : s_Rights15 (OA (tbl E0) (ltbl E0 30 0)) l (fun r o => some (r, o)) = some r) : tbl E0 30 [stpsV l] [] = some r :=
  tbl_of (body := bodyOf Tryz.f30) Tryz.func30 (by kernel_rfl) (by kernel_rfl) (by kernel_rfl) (Eq.trans (by kernel_rfl) h)
theorem t_Rights15L (l : List Stp) (i : Int) {r : LR} (h : s_Rights15L (OA (tbl E0) (ltbl E0 30 0)) l i (fun vs os => ltbl E0 30 0 4 vs os) (fun j vs os => some (j, vs, os)) = some r) : ltbl E0 30 0 4 [stpsV l, .int .i64 i] [] = some r :=
  ltbl_of (body := bodyOf Tryz.f30) Tryz.func30 (by kernel_rfl) (by kernel_rfl) (Eq.trans (by kernel_rfl) h)
theorem t_readField (b : List UInt8) (e : Int) {r : CR} (h : s_readField (OA (tbl E0) (ltbl E0 101 0)) b e (fun r o => some (r, o)) = some r) : tbl E0 101 [.ref 0 0] (eyeV b e) = some r :=
  tbl_of (body := bodyOf Tryz.f101) Tryz.func101 (by kernel_rfl) (by kernel_rfl) (by kernel_rfl) (Eq.trans (by kernel_rfl) h)
theorem t_tread (b : List UInt8) (x : Stp) (p e : Int) {r : CR} (h : s_tread (OA (tbl E0) (ltbl E0 74 0)) b x p e (fun r o => some (r, o)) = some r) : tbl E0 74 [.ref 0 0, .ref 1 0, .int .i64 p] [(0, [.lst .ro 1 (encB b), .int .i64 e]), (1, stpO x (.E 1 14) (.E 1 15))] = some r :=
  tbl_of (body := bodyOf Tryz.f74) Tryz.func74 (by kernel_rfl) (by kernel_rfl) (by kernel_rfl) (Eq.trans (by kernel_rfl) h)
theorem t_treadT (b : List UInt8) (x : Stp) (m i e : Int) {r : LR} (h : s_treadT (OA (tbl E0) (ltbl E0 74 0)) b x m i e (fun vs os => ltbl E0 74 0 21 vs os) (fun j vs os => some (j, vs, os)) = some r) : ltbl E0 74 0 21 [.int .i64 m, .int .i64 i] [[.lst .ro 1 (encB b), .int .i64 e], stpO x (.O 1 14) (.O 1 15)] = some r :=
  ltbl_of (body := bodyOf Tryz.f74) Tryz.func74 (by kernel_rfl) (by kernel_rfl) (Eq.trans (by kernel_rfl) h)
theorem t_treadF (b : List UInt8) (x : Stp) (m i e : Int) {r : LR} (h : s_treadF (OA (tbl E0) (ltbl E0 74 0)) b x m i e (fun vs os => ltbl E0 74 0 26 vs os) (fun j vs os => some (j, vs, os)) = some r) : ltbl E0 74 0 26 [.int .i64 m, .int .i64 i] [[.lst .ro 1 (encB b), .int .i64 e], stpO x (.O 1 14) (.O 1 15)] = some r :=
  ltbl_of (body := bodyOf Tryz.f74) Tryz.func74 (by kernel_rfl) (by kernel_rfl) (Eq.trans (by kernel_rfl) h)
theorem t_tParse (b : List UInt8) {r : CR} (h : s_tParse (OA (tbl E0) (ltbl E0 40 0)) b (fun r o => some (r, o)) = some r) : tbl E0 40 [.lst .ro 1 (encB b)] [] = some r :=
  tbl_of (body := bodyOf Tryz.f40) Tryz.func40 (by kernel_rfl) (by kernel_rfl) (by kernel_rfl) (Eq.trans (by kernel_rfl) h)
theorem t_tParseL (b : List UInt8) (l : List Stp) (n i e : Int) {r : LR} (h : s_tParseL (OA (tbl E0) (ltbl E0 40 0)) b l n i e (fun vs os => ltbl E0 40 0 4 vs os) (fun j vs os => some (j, vs, os)) = some r) : ltbl E0 40 0 4 [.lst (.own (.L 5)) 16 (l.map stpV), .int .i64 n, .int .i64 i] [[.lst .ro 1 (encB b), .int .i64 e]] = some r :=
  ltbl_of (body := bodyOf Tryz.f40) Tryz.func40 (by kernel_rfl) (by kernel_rfl) (Eq.trans (by kernel_rfl) h)
theorem t_tParseK (b : List UInt8) (l : List Stp) (x : Stp) (u : List Int) (n i m k e : Int) {r : LR} (h : s_tParseK (OA (tbl E0) (ltbl E0 40 0)) b l x u n i m k e (fun vs os => ltbl E0 40 0 7 vs os) (fun j vs os => some (j, vs, os)) = some r) : ltbl E0 40 0 7 [.lst (.own (.L 5)) 16 (l.map stpV), .int .i64 n, .int .i64 i, intsV u, .int .i64 m, .int .i64 k] [stpO x (.O 1006 14) (.O 1006 15), [.lst .ro 1 (encB b), .int .i64 e]] = some r :=
  ltbl_of (body := bodyOf Tryz.f40) Tryz.func40 (by kernel_rfl) (by kernel_rfl) (Eq.trans (by kernel_rfl) h)
theorem t_Parse1 (x : Stp) {r : CR} (h : s_Parse1 (OA (tbl E0) (ltbl E0 76 0)) x (fun r o => some (r, o)) = some r) : tbl E0 76 [stpV x] [] = some r :=
  tbl_of (body := bodyOf Tryz.f76) Tryz.func76 (by kernel_rfl) (by kernel_rfl) (by kernel_rfl) (Eq.trans (by kernel_rfl) h)
theorem t_ContainsS (l : List Stp) {r : CR} (h : s_ContainsS (OA (tbl E0) (ltbl E0 75 0)) l (fun r o => some (r, o)) = some r) : tbl E0 75 [stpsV l, .clo 76 []] [] = some r :=
  tbl_of (body := bodyOf Tryz.f75) Tryz.func75 (by kernel_rfl) (by kernel_rfl) (by kernel_rfl) (Eq.trans (by kernel_rfl) h)
theorem t_IndexS (l : List Stp) {r : CR} (h : s_IndexS (OA (tbl E0) (ltbl E0 102 0)) l (fun r o => some (r, o)) = some r) : tbl E0 102 [stpsV l, .clo 76 []] [] = some r :=
  tbl_of (body := bodyOf Tryz.f102) Tryz.func102 (by kernel_rfl) (by kernel_rfl) (by kernel_rfl) (Eq.trans (by kernel_rfl) h)
theorem t_IndexSL (l : List Stp) (m i : Int) {r : LR} (h : s_IndexSL (OA (tbl E0) (ltbl E0 102 0)) l m i (fun vs os => ltbl E0 102 0 2 vs os) (fun j vs os => some (j, vs, os)) = some r) : ltbl E0 102 0 2 [stpsV l, .clo 76 [], .int .i64 m, .int .i64 i] [] = some r :=
  ltbl_of (body := bodyOf Tryz.f102) Tryz.func102 (by kernel_rfl) (by kernel_rfl) (Eq.trans (by kernel_rfl) h)
theorem t_takeField15 (b : List UInt8) (e : Int) {r : CR} (h : s_takeField15 (OA (tbl E0) (ltbl E0 104 0)) b e (fun r o => some (r, o)) = some r) : tbl E0 104 [.ref 0 0] (eyeV b e) = some r :=
  tbl_of (body := bodyOf Tryz.f104) Tryz.func104 (by kernel_rfl) (by kernel_rfl) (by kernel_rfl) (Eq.trans (by kernel_rfl) h)
theorem t_take15 (b : List UInt8) (e : Int) {r : CR} (h : s_take15 (OA (tbl E0) (ltbl E0 80 0)) b e (fun r o => some (r, o)) = some r) : tbl E0 80 [.ref 0 0] (eyeV b e) = some r :=
  tbl_of (body := bodyOf Tryz.f80) Tryz.func80 (by kernel_rfl) (by kernel_rfl) (by kernel_rfl) (Eq.trans (by kernel_rfl) h)
theorem t_ytParse (b : List UInt8) {r : CR} (h : s_ytParse (OA (tbl E0) (ltbl E0 45 0)) b (fun r o => some (r, o)) = some r) : tbl E0 45 [.lst .ro 1 (encB b)] [] = some r :=
  tbl_of (body := bodyOf Tryz.f45) Tryz.func45 (by kernel_rfl) (by kernel_rfl) (by kernel_rfl) (Eq.trans (by kernel_rfl) h)
theorem t_ytParseL (b : List UInt8) (l : List Stp) (n i e : Int) {r : LR} (h : s_ytParseL (OA (tbl E0) (ltbl E0 45 0)) b l n i e (fun vs os => ltbl E0 45 0 5 vs os) (fun j vs os => some (j, vs, os)) = some r) : ltbl E0 45 0 5 [.lst (.own (.L 5)) 16 (l.map stpV), .int .i64 n, .int .i64 i] [[.lst .ro 1 (encB b), .int .i64 e]] = some r :=
  ltbl_of (body := bodyOf Tryz.f45) Tryz.func45 (by kernel_rfl) (by kernel_rfl) (Eq.trans (by kernel_rfl) h)
theorem t_SameListT (x y : List Stp) {r : CR} (h : s_SameListT (OA (tbl E0) (ltbl E0 47 0)) x y (fun r o => some (r, o)) = some r) : tbl E0 47 [stpsV x, stpsV y] [] = some r :=
  tbl_of (body := bodyOf Tryz.f47) Tryz.func47 (by kernel_rfl) (by kernel_rfl) (by kernel_rfl) (Eq.trans (by kernel_rfl) h)
theorem t_SameListTL (x y : List Stp) (i : Int) {r : LR} (h : s_SameListTL (OA (tbl E0) (ltbl E0 47 0)) x y i (fun vs os => ltbl E0 47 0 4 vs os) (fun j vs os => some (j, vs, os)) = some r) : ltbl E0 47 0 4 [stpsV x, stpsV y, .int .i64 i] [] = some r :=
  ltbl_of (body := bodyOf Tryz.f47) Tryz.func47 (by kernel_rfl) (by kernel_rfl) (Eq.trans (by kernel_rfl) h)
end Go.Proofs.YtmpfeofeokmooaaGreat.V
namespace Go.Proofs.YtmpfeofeokmooaaGreat.V
open Go
open AV (int lst agg str bool ref clo)
open List (map)
def s_take15L {α : Type} (A : Alg α) (b : List UInt8) (z : Stp) (x : Stp) (s : List UInt8) (i : Int) (e : Int) (next : List AV → List (List AV) → α) (kc : Nat → List AV → List (List AV) → α) : α :=
  A.asm (s.length ≤ maxL) (bif (decide (i < (↑s.length : Int))) then (A.chk (decide ((0 : Int) ≤ i)) (nthE A s i.toNat fun x0 => bif ((↑x0.toNat : Int) == (102 : Int)) then (A.call 41 [ref 0 0, int .i64 200] [(0, [lst .ro 1 (encB b), int .i64 e])] fun l1 l2 => asC A l2 fun x3 l4 => bif (x3.1.beq 0) then (asC A x3.2 fun v5 l6 => asL A 1 v5 fun l7 => asC A l6 fun v8 l9 => asI A .i64 v8 fun n10 => asN A l9 (asC A l1 fun v11 l12 => asI A .i64 v11 fun n13 => asN A l12 (asN A l4 (A.chk true (next [str s, int .i64 (IntKind.i64.wrap (i + (1 : Int)))] [[lst .ro 1 l7, int .i64 n10], [int .i64 z.op, int .i64 z.form, int .i64 z.field, int .i64 z.place, int .i64 z.to, int .i64 z.a, int .i64 z.b, int .i64 z.f.id, int .i64 z.f.kind, int .i64 z.f.lo, int .i64 z.f.hi, int .i64 z.f.most, int .i64 z.n, str z.s, lst .ro 1 (map (fun n => int .i64 n) z.t), lst .ro 5 (map fldV z.fields)], [int .i64 x.op, int .i64 n13, int .i64 x.field, int .i64 x.place, int .i64 x.to, int .i64 x.a, int .i64 x.b, int .i64 x.f.id, int .i64 x.f.kind, int .i64 x.f.lo, int .i64 x.f.hi, int .i64 x.f.most, int .i64 x.n, str x.s, lst (.own (.O 1003 14)) 1 (map (fun n => int .i64 n) x.t), lst (.own (.O 1003 15)) 5 (map fldV x.fields)]]))))) else A.fail) else (bif ((↑x0.toNat : Int) == (100 : Int)) then (A.call 41 [ref 0 0, int .i64 255] [(0, [lst .ro 1 (encB b), int .i64 e])] fun l14 l15 => asC A l15 fun x16 l17 => bif (x16.1.beq 0) then (asC A x16.2 fun v18 l19 => asL A 1 v18 fun l20 => asC A l19 fun v21 l22 => asI A .i64 v21 fun n23 => asN A l22 (asC A l14 fun v24 l25 => asI A .i64 v24 fun n26 => asN A l25 (asN A l17 (A.chk true (next [str s, int .i64 (IntKind.i64.wrap (i + (1 : Int)))] [[lst .ro 1 l20, int .i64 n23], [int .i64 z.op, int .i64 z.form, int .i64 z.field, int .i64 z.place, int .i64 z.to, int .i64 z.a, int .i64 z.b, int .i64 z.f.id, int .i64 z.f.kind, int .i64 z.f.lo, int .i64 z.f.hi, int .i64 z.f.most, int .i64 z.n, str z.s, lst .ro 1 (map (fun n => int .i64 n) z.t), lst .ro 5 (map fldV z.fields)], [int .i64 x.op, int .i64 x.form, int .i64 n26, int .i64 x.place, int .i64 x.to, int .i64 x.a, int .i64 x.b, int .i64 x.f.id, int .i64 x.f.kind, int .i64 x.f.lo, int .i64 x.f.hi, int .i64 x.f.most, int .i64 x.n, str x.s, lst (.own (.O 1003 14)) 1 (map (fun n => int .i64 n) x.t), lst (.own (.O 1003 15)) 5 (map fldV x.fields)]]))))) else A.fail) else (bif ((↑x0.toNat : Int) == (112 : Int)) then (A.call 41 [ref 0 0, int .i64 8] [(0, [lst .ro 1 (encB b), int .i64 e])] fun l27 l28 => asC A l28 fun x29 l30 => bif (x29.1.beq 0) then (asC A x29.2 fun v31 l32 => asL A 1 v31 fun l33 => asC A l32 fun v34 l35 => asI A .i64 v34 fun n36 => asN A l35 (asC A l27 fun v37 l38 => asI A .i64 v37 fun n39 => asN A l38 (asN A l30 (A.chk true (next [str s, int .i64 (IntKind.i64.wrap (i + (1 : Int)))] [[lst .ro 1 l33, int .i64 n36], [int .i64 z.op, int .i64 z.form, int .i64 z.field, int .i64 z.place, int .i64 z.to, int .i64 z.a, int .i64 z.b, int .i64 z.f.id, int .i64 z.f.kind, int .i64 z.f.lo, int .i64 z.f.hi, int .i64 z.f.most, int .i64 z.n, str z.s, lst .ro 1 (map (fun n => int .i64 n) z.t), lst .ro 5 (map fldV z.fields)], [int .i64 x.op, int .i64 x.form, int .i64 x.field, int .i64 n39, int .i64 x.to, int .i64 x.a, int .i64 x.b, int .i64 x.f.id, int .i64 x.f.kind, int .i64 x.f.lo, int .i64 x.f.hi, int .i64 x.f.most, int .i64 x.n, str x.s, lst (.own (.O 1003 14)) 1 (map (fun n => int .i64 n) x.t), lst (.own (.O 1003 15)) 5 (map fldV x.fields)]]))))) else A.fail) else (bif ((↑x0.toNat : Int) == (116 : Int)) then (A.call 41 [ref 0 0, int .i64 255] [(0, [lst .ro 1 (encB b), int .i64 e])] fun l40 l41 => asC A l41 fun x42 l43 => bif (x42.1.beq 0) then (asC A x42.2 fun v44 l45 => asL A 1 v44 fun l46 => asC A l45 fun v47 l48 => asI A .i64 v47 fun n49 => asN A l48 (asC A l40 fun v50 l51 => asI A .i64 v50 fun n52 => asN A l51 (asN A l43 (A.chk true (next [str s, int .i64 (IntKind.i64.wrap (i + (1 : Int)))] [[lst .ro 1 l46, int .i64 n49], [int .i64 z.op, int .i64 z.form, int .i64 z.field, int .i64 z.place, int .i64 z.to, int .i64 z.a, int .i64 z.b, int .i64 z.f.id, int .i64 z.f.kind, int .i64 z.f.lo, int .i64 z.f.hi, int .i64 z.f.most, int .i64 z.n, str z.s, lst .ro 1 (map (fun n => int .i64 n) z.t), lst .ro 5 (map fldV z.fields)], [int .i64 x.op, int .i64 x.form, int .i64 x.field, int .i64 x.place, int .i64 n52, int .i64 x.a, int .i64 x.b, int .i64 x.f.id, int .i64 x.f.kind, int .i64 x.f.lo, int .i64 x.f.hi, int .i64 x.f.most, int .i64 x.n, str x.s, lst (.own (.O 1003 14)) 1 (map (fun n => int .i64 n) x.t), lst (.own (.O 1003 15)) 5 (map fldV x.fields)]]))))) else A.fail) else (bif ((↑x0.toNat : Int) == (97 : Int)) then (A.call 41 [ref 0 0, int .i64 1048576] [(0, [lst .ro 1 (encB b), int .i64 e])] fun l53 l54 => asC A l54 fun x55 l56 => bif (x55.1.beq 0) then (asC A x55.2 fun v57 l58 => asL A 1 v57 fun l59 => asC A l58 fun v60 l61 => asI A .i64 v60 fun n62 => asN A l61 (asC A l53 fun v63 l64 => asI A .i64 v63 fun n65 => asN A l64 (asN A l56 (A.chk true (next [str s, int .i64 (IntKind.i64.wrap (i + (1 : Int)))] [[lst .ro 1 l59, int .i64 n62], [int .i64 z.op, int .i64 z.form, int .i64 z.field, int .i64 z.place, int .i64 z.to, int .i64 z.a, int .i64 z.b, int .i64 z.f.id, int .i64 z.f.kind, int .i64 z.f.lo, int .i64 z.f.hi, int .i64 z.f.most, int .i64 z.n, str z.s, lst .ro 1 (map (fun n => int .i64 n) z.t), lst .ro 5 (map fldV z.fields)], [int .i64 x.op, int .i64 x.form, int .i64 x.field, int .i64 x.place, int .i64 x.to, int .i64 n65, int .i64 x.b, int .i64 x.f.id, int .i64 x.f.kind, int .i64 x.f.lo, int .i64 x.f.hi, int .i64 x.f.most, int .i64 x.n, str x.s, lst (.own (.O 1003 14)) 1 (map (fun n => int .i64 n) x.t), lst (.own (.O 1003 15)) 5 (map fldV x.fields)]]))))) else A.fail) else (bif ((↑x0.toNat : Int) == (98 : Int)) then (A.call 103 [ref 0 0] [(0, [lst .ro 1 (encB b), int .i64 e])] fun l66 l67 => asC A l67 fun x68 l69 => bif (x68.1.beq 0) then (asC A x68.2 fun v70 l71 => asL A 1 v70 fun l72 => asC A l71 fun v73 l74 => asI A .i64 v73 fun n75 => asN A l74 (asC A l66 fun v76 l77 => asI A .i64 v76 fun n78 => asN A l77 (asN A l69 (A.chk true (A.call 103 [ref 0 0] [(0, [lst .ro 1 l72, int .i64 n75])] fun l79 l80 => asC A l80 fun x81 l82 => bif (x81.1.beq 0) then (asC A x81.2 fun v83 l84 => asL A 1 v83 fun l85 => asC A l84 fun v86 l87 => asI A .i64 v86 fun n88 => asN A l87 (asC A l79 fun v89 l90 => asI A .i64 v89 fun n91 => asN A l90 (asN A l82 (A.chk true (next [str s, int .i64 (IntKind.i64.wrap (i + (1 : Int)))] [[lst .ro 1 l85, int .i64 n88], [int .i64 z.op, int .i64 z.form, int .i64 z.field, int .i64 z.place, int .i64 z.to, int .i64 z.a, int .i64 z.b, int .i64 z.f.id, int .i64 z.f.kind, int .i64 z.f.lo, int .i64 z.f.hi, int .i64 z.f.most, int .i64 z.n, str z.s, lst .ro 1 (map (fun n => int .i64 n) z.t), lst .ro 5 (map fldV z.fields)], [int .i64 x.op, int .i64 x.form, int .i64 x.field, int .i64 x.place, int .i64 x.to, int .i64 n78, int .i64 n91, int .i64 x.f.id, int .i64 x.f.kind, int .i64 x.f.lo, int .i64 x.f.hi, int .i64 x.f.most, int .i64 x.n, str x.s, lst (.own (.O 1003 14)) 1 (map (fun n => int .i64 n) x.t), lst (.own (.O 1003 15)) 5 (map fldV x.fields)]]))))) else A.fail))))) else A.fail) else (bif ((↑x0.toNat : Int) == (70 : Int)) then (A.call 104 [ref 0 0] [(0, [lst .ro 1 (encB b), int .i64 e])] fun l92 l93 => asC A l93 fun x94 l95 => bif (x94.1.beq 0) then (asC A x94.2 fun v96 l97 => asL A 1 v96 fun l98 => asC A l97 fun v99 l100 => asI A .i64 v99 fun n101 => asN A l100 (asC A l92 fun v102 l103 => asA A v102 fun l104 => asC A l104 fun v105 l106 => asI A .i64 v105 fun n107 => asC A l106 fun v108 l109 => asI A .i64 v108 fun n110 => asC A l109 fun v111 l112 => asI A .i64 v111 fun n113 => asC A l112 fun v114 l115 => asI A .i64 v114 fun n116 => asC A l115 fun v117 l118 => asI A .i64 v117 fun n119 => asN A l118 (asN A l103 (asN A l95 (A.chk true (A.chk true (next [str s, int .i64 (IntKind.i64.wrap (i + (1 : Int)))] [[lst .ro 1 l98, int .i64 n101], [int .i64 z.op, int .i64 z.form, int .i64 z.field, int .i64 z.place, int .i64 z.to, int .i64 z.a, int .i64 z.b, int .i64 z.f.id, int .i64 z.f.kind, int .i64 z.f.lo, int .i64 z.f.hi, int .i64 z.f.most, int .i64 z.n, str z.s, lst .ro 1 (map (fun n => int .i64 n) z.t), lst .ro 5 (map fldV z.fields)], [int .i64 x.op, int .i64 x.form, int .i64 x.field, int .i64 x.place, int .i64 x.to, int .i64 x.a, int .i64 x.b, int .i64 n107, int .i64 n110, int .i64 n113, int .i64 n116, int .i64 n119, int .i64 x.n, str x.s, lst (.own (.O 1003 14)) 1 (map (fun n => int .i64 n) x.t), lst (.own (.O 1003 15)) 5 (map fldV x.fields)]]))))))) else A.fail) else (bif ((↑x0.toNat : Int) == (86 : Int)) then (A.call 103 [ref 0 0] [(0, [lst .ro 1 (encB b), int .i64 e])] fun l120 l121 => asC A l121 fun x122 l123 => bif (x122.1.beq 0) then (asC A x122.2 fun v124 l125 => asL A 1 v124 fun l126 => asC A l125 fun v127 l128 => asI A .i64 v127 fun n129 => asN A l128 (asC A l120 fun v130 l131 => asI A .i64 v130 fun n132 => asN A l131 (asN A l123 (A.chk true (A.call 42 [ref 0 0, int .i64 32] [(0, [lst .ro 1 l126, int .i64 n129])] fun l133 l134 => asC A l134 fun x135 l136 => bif (x135.1.beq 0) then (asC A x135.2 fun v137 l138 => asL A 1 v137 fun l139 => asC A l138 fun v140 l141 => asI A .i64 v140 fun n142 => asN A l141 (asC A l133 fun v143 l144 => asS A v143 fun l145 => asN A l144 (asN A l136 (A.chk true (next [str s, int .i64 (IntKind.i64.wrap (i + (1 : Int)))] [[lst .ro 1 l139, int .i64 n142], [int .i64 z.op, int .i64 z.form, int .i64 z.field, int .i64 z.place, int .i64 z.to, int .i64 z.a, int .i64 z.b, int .i64 z.f.id, int .i64 z.f.kind, int .i64 z.f.lo, int .i64 z.f.hi, int .i64 z.f.most, int .i64 z.n, str z.s, lst .ro 1 (map (fun n => int .i64 n) z.t), lst .ro 5 (map fldV z.fields)], [int .i64 x.op, int .i64 x.form, int .i64 x.field, int .i64 x.place, int .i64 x.to, int .i64 x.a, int .i64 x.b, int .i64 x.f.id, int .i64 x.f.kind, int .i64 x.f.lo, int .i64 x.f.hi, int .i64 x.f.most, int .i64 n132, str l145, lst (.own (.O 1003 14)) 1 (map (fun n => int .i64 n) x.t), lst (.own (.O 1003 15)) 5 (map fldV x.fields)]]))))) else A.fail))))) else A.fail) else (bif ((↑x0.toNat : Int) == (84 : Int)) then (A.call 41 [ref 0 0, int .i64 64] [(0, [lst .ro 1 (encB b), int .i64 e])] fun l146 l147 => asC A l147 fun x148 l149 => bif (x148.1.beq 0) then (asC A x148.2 fun v150 l151 => asL A 1 v150 fun l152 => asC A l151 fun v153 l154 => asI A .i64 v153 fun n155 => asN A l154 (asC A l146 fun v156 l157 => asI A .i64 v156 fun n158 => asN A l157 (asN A l149 (A.loop 28 [str s, int .i64 i, int .i64 n158, int .i64 0] [[lst .ro 1 l152, int .i64 n155], [int .i64 z.op, int .i64 z.form, int .i64 z.field, int .i64 z.place, int .i64 z.to, int .i64 z.a, int .i64 z.b, int .i64 z.f.id, int .i64 z.f.kind, int .i64 z.f.lo, int .i64 z.f.hi, int .i64 z.f.most, int .i64 z.n, str z.s, lst .ro 1 (map (fun n => int .i64 n) z.t), lst .ro 5 (map fldV z.fields)], [int .i64 x.op, int .i64 x.form, int .i64 x.field, int .i64 x.place, int .i64 x.to, int .i64 x.a, int .i64 x.b, int .i64 x.f.id, int .i64 x.f.kind, int .i64 x.f.lo, int .i64 x.f.hi, int .i64 x.f.most, int .i64 x.n, str x.s, lst (.own (.O 1003 14)) 1 (map (fun n => int .i64 n) x.t), lst (.own (.O 1003 15)) 5 (map fldV x.fields)]] fun j159 l160 l161 => bif (j159.beq 4) then (asC A l160 fun v162 l163 => asS A v162 fun l164 => asC A l163 fun v165 l166 => asI A .i64 v165 fun n167 => asN A l166 (asC A l161 fun l168 l169 => asC A l168 fun v170 l171 => asL A 1 v170 fun l172 => asC A l171 fun v173 l174 => asI A .i64 v173 fun n175 => asN A l174 (asC A l169 fun l176 l177 => asC A l176 fun v178 l179 => asI A .i64 v178 fun n180 => asC A l179 fun v181 l182 => asI A .i64 v181 fun n183 => asC A l182 fun v184 l185 => asI A .i64 v184 fun n186 => asC A l185 fun v187 l188 => asI A .i64 v187 fun n189 => asC A l188 fun v190 l191 => asI A .i64 v190 fun n192 => asC A l191 fun v193 l194 => asI A .i64 v193 fun n195 => asC A l194 fun v196 l197 => asI A .i64 v196 fun n198 => asC A l197 fun v199 l200 => asI A .i64 v199 fun n201 => asC A l200 fun v202 l203 => asI A .i64 v202 fun n204 => asC A l203 fun v205 l206 => asI A .i64 v205 fun n207 => asC A l206 fun v208 l209 => asI A .i64 v208 fun n210 => asC A l209 fun v211 l212 => asI A .i64 v211 fun n213 => asC A l212 fun v214 l215 => asI A .i64 v214 fun n216 => asC A l215 fun v217 l218 => asS A v217 fun l219 => asC A l218 fun v220 l221 => asL A 1 v220 fun l222 => asC A l221 fun v223 l224 => asL A 5 v223 fun l225 => asN A l224 (asC A l177 fun l226 l227 => asC A l226 fun v228 l229 => asI A .i64 v228 fun n230 => asC A l229 fun v231 l232 => asI A .i64 v231 fun n233 => asC A l232 fun v234 l235 => asI A .i64 v234 fun n236 => asC A l235 fun v237 l238 => asI A .i64 v237 fun n239 => asC A l238 fun v240 l241 => asI A .i64 v240 fun n242 => asC A l241 fun v243 l244 => asI A .i64 v243 fun n245 => asC A l244 fun v246 l247 => asI A .i64 v246 fun n248 => asC A l247 fun v249 l250 => asI A .i64 v249 fun n251 => asC A l250 fun v252 l253 => asI A .i64 v252 fun n254 => asC A l253 fun v255 l256 => asI A .i64 v255 fun n257 => asC A l256 fun v258 l259 => asI A .i64 v258 fun n260 => asC A l259 fun v261 l262 => asI A .i64 v261 fun n263 => asC A l262 fun v264 l265 => asI A .i64 v264 fun n266 => asC A l265 fun v267 l268 => asS A v267 fun l269 => asC A l268 fun v270 l271 => asOwn A 1 v270 fun x272 l273 => bif (x272.beq (.O (1003 : Nat) (14 : Nat))) then (asC A l271 fun v274 l275 => asOwn A 5 v274 fun x276 l277 => bif (x276.beq (.O (1003 : Nat) (15 : Nat))) then (asN A l275 (asN A l227 (next [str l164, int .i64 (IntKind.i64.wrap (n167 + (1 : Int)))] [[lst .ro 1 l172, int .i64 n175], [int .i64 n180, int .i64 n183, int .i64 n186, int .i64 n189, int .i64 n192, int .i64 n195, int .i64 n198, int .i64 n201, int .i64 n204, int .i64 n207, int .i64 n210, int .i64 n213, int .i64 n216, str l219, lst .ro 1 l222, lst .ro 5 l225], [int .i64 n230, int .i64 n233, int .i64 n236, int .i64 n239, int .i64 n242, int .i64 n245, int .i64 n248, int .i64 n251, int .i64 n254, int .i64 n257, int .i64 n260, int .i64 n263, int .i64 n266, str l269, lst (.own (.O 1003 14)) 1 l273, lst (.own (.O 1003 15)) 5 l277]]))) else A.fail) else A.fail)))) else A.fail)))) else A.fail) else (bif ((↑x0.toNat : Int) == (76 : Int)) then (A.call 41 [ref 0 0, int .i64 8] [(0, [lst .ro 1 (encB b), int .i64 e])] fun l278 l279 => asC A l279 fun x280 l281 => bif (x280.1.beq 0) then (asC A x280.2 fun v282 l283 => asL A 1 v282 fun l284 => asC A l283 fun v285 l286 => asI A .i64 v285 fun n287 => asN A l286 (asC A l278 fun v288 l289 => asI A .i64 v288 fun n290 => asN A l289 (asN A l281 (A.loop 34 [str s, int .i64 i, int .i64 n290, int .i64 0] [[lst .ro 1 l284, int .i64 n287], [int .i64 z.op, int .i64 z.form, int .i64 z.field, int .i64 z.place, int .i64 z.to, int .i64 z.a, int .i64 z.b, int .i64 z.f.id, int .i64 z.f.kind, int .i64 z.f.lo, int .i64 z.f.hi, int .i64 z.f.most, int .i64 z.n, str z.s, lst .ro 1 (map (fun n => int .i64 n) z.t), lst .ro 5 (map fldV z.fields)], [int .i64 x.op, int .i64 x.form, int .i64 x.field, int .i64 x.place, int .i64 x.to, int .i64 x.a, int .i64 x.b, int .i64 x.f.id, int .i64 x.f.kind, int .i64 x.f.lo, int .i64 x.f.hi, int .i64 x.f.most, int .i64 x.n, str x.s, lst (.own (.O 1003 14)) 1 (map (fun n => int .i64 n) x.t), lst (.own (.O 1003 15)) 5 (map fldV x.fields)]] fun j291 l292 l293 => bif (j291.beq 6) then (asC A l292 fun v294 l295 => asS A v294 fun l296 => asC A l295 fun v297 l298 => asI A .i64 v297 fun n299 => asN A l298 (asC A l293 fun l300 l301 => asC A l300 fun v302 l303 => asL A 1 v302 fun l304 => asC A l303 fun v305 l306 => asI A .i64 v305 fun n307 => asN A l306 (asC A l301 fun l308 l309 => asC A l308 fun v310 l311 => asI A .i64 v310 fun n312 => asC A l311 fun v313 l314 => asI A .i64 v313 fun n315 => asC A l314 fun v316 l317 => asI A .i64 v316 fun n318 => asC A l317 fun v319 l320 => asI A .i64 v319 fun n321 => asC A l320 fun v322 l323 => asI A .i64 v322 fun n324 => asC A l323 fun v325 l326 => asI A .i64 v325 fun n327 => asC A l326 fun v328 l329 => asI A .i64 v328 fun n330 => asC A l329 fun v331 l332 => asI A .i64 v331 fun n333 => asC A l332 fun v334 l335 => asI A .i64 v334 fun n336 => asC A l335 fun v337 l338 => asI A .i64 v337 fun n339 => asC A l338 fun v340 l341 => asI A .i64 v340 fun n342 => asC A l341 fun v343 l344 => asI A .i64 v343 fun n345 => asC A l344 fun v346 l347 => asI A .i64 v346 fun n348 => asC A l347 fun v349 l350 => asS A v349 fun l351 => asC A l350 fun v352 l353 => asL A 1 v352 fun l354 => asC A l353 fun v355 l356 => asL A 5 v355 fun l357 => asN A l356 (asC A l309 fun l358 l359 => asC A l358 fun v360 l361 => asI A .i64 v360 fun n362 => asC A l361 fun v363 l364 => asI A .i64 v363 fun n365 => asC A l364 fun v366 l367 => asI A .i64 v366 fun n368 => asC A l367 fun v369 l370 => asI A .i64 v369 fun n371 => asC A l370 fun v372 l373 => asI A .i64 v372 fun n374 => asC A l373 fun v375 l376 => asI A .i64 v375 fun n377 => asC A l376 fun v378 l379 => asI A .i64 v378 fun n380 => asC A l379 fun v381 l382 => asI A .i64 v381 fun n383 => asC A l382 fun v384 l385 => asI A .i64 v384 fun n386 => asC A l385 fun v387 l388 => asI A .i64 v387 fun n389 => asC A l388 fun v390 l391 => asI A .i64 v390 fun n392 => asC A l391 fun v393 l394 => asI A .i64 v393 fun n395 => asC A l394 fun v396 l397 => asI A .i64 v396 fun n398 => asC A l397 fun v399 l400 => asS A v399 fun l401 => asC A l400 fun v402 l403 => asOwn A 1 v402 fun x404 l405 => bif (x404.beq (.O (1003 : Nat) (14 : Nat))) then (asC A l403 fun v406 l407 => asOwn A 5 v406 fun x408 l409 => bif (x408.beq (.O (1003 : Nat) (15 : Nat))) then (asN A l407 (asN A l359 (next [str l296, int .i64 (IntKind.i64.wrap (n299 + (1 : Int)))] [[lst .ro 1 l304, int .i64 n307], [int .i64 n312, int .i64 n315, int .i64 n318, int .i64 n321, int .i64 n324, int .i64 n327, int .i64 n330, int .i64 n333, int .i64 n336, int .i64 n339, int .i64 n342, int .i64 n345, int .i64 n348, str l351, lst .ro 1 l354, lst .ro 5 l357], [int .i64 n362, int .i64 n365, int .i64 n368, int .i64 n371, int .i64 n374, int .i64 n377, int .i64 n380, int .i64 n383, int .i64 n386, int .i64 n389, int .i64 n392, int .i64 n395, int .i64 n398, str l401, lst (.own (.O 1003 14)) 1 l405, lst (.own (.O 1003 15)) 5 l409]]))) else A.fail) else A.fail)))) else A.fail)))) else A.fail) else (next [str s, int .i64 (IntKind.i64.wrap (i + (1 : Int)))] [[lst .ro 1 (encB b), int .i64 e], [int .i64 z.op, int .i64 z.form, int .i64 z.field, int .i64 z.place, int .i64 z.to, int .i64 z.a, int .i64 z.b, int .i64 z.f.id, int .i64 z.f.kind, int .i64 z.f.lo, int .i64 z.f.hi, int .i64 z.f.most, int .i64 z.n, str z.s, lst .ro 1 (map (fun n => int .i64 n) z.t), lst .ro 5 (map fldV z.fields)], [int .i64 x.op, int .i64 x.form, int .i64 x.field, int .i64 x.place, int .i64 x.to, int .i64 x.a, int .i64 x.b, int .i64 x.f.id, int .i64 x.f.kind, int .i64 x.f.lo, int .i64 x.f.hi, int .i64 x.f.most, int .i64 x.n, str x.s, lst (.own (.O 1003 14)) 1 (map (fun n => int .i64 n) x.t), lst (.own (.O 1003 15)) 5 (map fldV x.fields)]])))))))))))) else (kc 1 [] [[lst .ro 1 (encB b), int .i64 e], [int .i64 z.op, int .i64 z.form, int .i64 z.field, int .i64 z.place, int .i64 z.to, int .i64 z.a, int .i64 z.b, int .i64 z.f.id, int .i64 z.f.kind, int .i64 z.f.lo, int .i64 z.f.hi, int .i64 z.f.most, int .i64 z.n, str z.s, lst .ro 1 (map (fun n => int .i64 n) z.t), lst .ro 5 (map fldV z.fields)], [int .i64 x.op, int .i64 x.form, int .i64 x.field, int .i64 x.place, int .i64 x.to, int .i64 x.a, int .i64 x.b, int .i64 x.f.id, int .i64 x.f.kind, int .i64 x.f.lo, int .i64 x.f.hi, int .i64 x.f.most, int .i64 x.n, str x.s, lst (.own (.O 1003 14)) 1 (map (fun n => int .i64 n) x.t), lst (.own (.O 1003 15)) 5 (map fldV x.fields)]]))
def s_take15T {α : Type} (A : Alg α) (b : List UInt8) (z : Stp) (x : Stp) (s : List UInt8) (i : Int) (m : Int) (k : Int) (e : Int) (next : List AV → List (List AV) → α) (kc : Nat → List AV → List (List AV) → α) : α :=
  bif (decide (k < m)) then (A.both (A.call 41 [ref 0 0, int .i64 1000] [(0, [lst .ro 1 (encB b), int .i64 e])] fun l0 l1 => asC A l1 fun x2 l3 => bif (x2.1.beq 0) then (asC A x2.2 fun v4 l5 => asL A 1 v4 fun l6 => asC A l5 fun v7 l8 => asI A .i64 v7 fun n9 => asN A l8 (asC A l0 fun v10 l11 => asI A .i64 v10 fun n12 => asN A l11 (asN A l3 (A.chk (decide (((map (fun n => int .i64 n) x.t).length + [int .i64 n12].length) * 8 ≤ 140737488355328)) (A.chk true (next [str s, int .i64 i, int .i64 m, int .i64 (IntKind.i64.wrap (k + (1 : Int)))] [[lst .ro 1 l6, int .i64 n9], [int .i64 z.op, int .i64 z.form, int .i64 z.field, int .i64 z.place, int .i64 z.to, int .i64 z.a, int .i64 z.b, int .i64 z.f.id, int .i64 z.f.kind, int .i64 z.f.lo, int .i64 z.f.hi, int .i64 z.f.most, int .i64 z.n, str z.s, lst .ro 1 (map (fun n => int .i64 n) z.t), lst .ro 5 (map fldV z.fields)], [int .i64 x.op, int .i64 x.form, int .i64 x.field, int .i64 x.place, int .i64 x.to, int .i64 x.a, int .i64 x.b, int .i64 x.f.id, int .i64 x.f.kind, int .i64 x.f.lo, int .i64 x.f.hi, int .i64 x.f.most, int .i64 x.n, str x.s, lst (.own (.O 1003 14)) 1 (map (fun n => int .i64 n) x.t ++ [int .i64 n12]), lst (.own (.O 1003 15)) 5 (map fldV x.fields)]])))))) else A.fail) (A.call 41 [ref 0 0, int .i64 1000] [(0, [lst .ro 1 (encB b), int .i64 e])] fun l13 l14 => asC A l14 fun x15 l16 => bif (x15.1.beq 0) then (asC A x15.2 fun v17 l18 => asL A 1 v17 fun l19 => asC A l18 fun v20 l21 => asI A .i64 v20 fun n22 => asN A l21 (asC A l13 fun v23 l24 => asI A .i64 v23 fun n25 => asN A l24 (asN A l16 (A.both (A.chk (decide (((map (fun n => int .i64 n) x.t).length + [int .i64 n25].length) * 8 ≤ 140737488355328)) (A.chk true (next [str s, int .i64 i, int .i64 m, int .i64 (IntKind.i64.wrap (k + (1 : Int)))] [[lst .ro 1 l19, int .i64 n22], [int .i64 z.op, int .i64 z.form, int .i64 z.field, int .i64 z.place, int .i64 z.to, int .i64 z.a, int .i64 z.b, int .i64 z.f.id, int .i64 z.f.kind, int .i64 z.f.lo, int .i64 z.f.hi, int .i64 z.f.most, int .i64 z.n, str z.s, lst .ro 1 (map (fun n => int .i64 n) z.t), lst .ro 5 (map fldV z.fields)], [int .i64 x.op, int .i64 x.form, int .i64 x.field, int .i64 x.place, int .i64 x.to, int .i64 x.a, int .i64 x.b, int .i64 x.f.id, int .i64 x.f.kind, int .i64 x.f.lo, int .i64 x.f.hi, int .i64 x.f.most, int .i64 x.n, str x.s, lst (.own (.O 1003 14)) 1 (map (fun n => int .i64 n) x.t ++ [int .i64 n25]), lst (.own (.O 1003 15)) 5 (map fldV x.fields)]]))) (A.chk (decide (((map (fun n => int .i64 n) x.t).length + [int .i64 n25].length) * 8 ≤ 140737488355328)) (A.chk true (next [str s, int .i64 i, int .i64 m, int .i64 (IntKind.i64.wrap (k + (1 : Int)))] [[lst .ro 1 l19, int .i64 n22], [int .i64 z.op, int .i64 z.form, int .i64 z.field, int .i64 z.place, int .i64 z.to, int .i64 z.a, int .i64 z.b, int .i64 z.f.id, int .i64 z.f.kind, int .i64 z.f.lo, int .i64 z.f.hi, int .i64 z.f.most, int .i64 z.n, str z.s, lst .ro 1 (map (fun n => int .i64 n) z.t), lst .ro 5 (map fldV z.fields)], [int .i64 x.op, int .i64 x.form, int .i64 x.field, int .i64 x.place, int .i64 x.to, int .i64 x.a, int .i64 x.b, int .i64 x.f.id, int .i64 x.f.kind, int .i64 x.f.lo, int .i64 x.f.hi, int .i64 x.f.most, int .i64 x.n, str x.s, lst (.own (.O 1003 14)) 1 (map (fun n => int .i64 n) x.t ++ [int .i64 n25]), lst (.own (.O 1003 15)) 5 (map fldV x.fields)]]))))))) else A.fail)) else (kc 4 [str s, int .i64 i] [[lst .ro 1 (encB b), int .i64 e], [int .i64 z.op, int .i64 z.form, int .i64 z.field, int .i64 z.place, int .i64 z.to, int .i64 z.a, int .i64 z.b, int .i64 z.f.id, int .i64 z.f.kind, int .i64 z.f.lo, int .i64 z.f.hi, int .i64 z.f.most, int .i64 z.n, str z.s, lst .ro 1 (map (fun n => int .i64 n) z.t), lst .ro 5 (map fldV z.fields)], [int .i64 x.op, int .i64 x.form, int .i64 x.field, int .i64 x.place, int .i64 x.to, int .i64 x.a, int .i64 x.b, int .i64 x.f.id, int .i64 x.f.kind, int .i64 x.f.lo, int .i64 x.f.hi, int .i64 x.f.most, int .i64 x.n, str x.s, lst (.own (.O 1003 14)) 1 (map (fun n => int .i64 n) x.t), lst (.own (.O 1003 15)) 5 (map fldV x.fields)]])
def s_take15F {α : Type} (A : Alg α) (b : List UInt8) (z : Stp) (x : Stp) (s : List UInt8) (i : Int) (m : Int) (k : Int) (e : Int) (next : List AV → List (List AV) → α) (kc : Nat → List AV → List (List AV) → α) : α :=
  bif (decide (k < m)) then (A.both (A.call 104 [ref 0 0] [(0, [lst .ro 1 (encB b), int .i64 e])] fun l0 l1 => asC A l1 fun x2 l3 => bif (x2.1.beq 0) then (asC A x2.2 fun v4 l5 => asL A 1 v4 fun l6 => asC A l5 fun v7 l8 => asI A .i64 v7 fun n9 => asN A l8 (asC A l0 fun v10 l11 => asA A v10 fun l12 => asC A l12 fun v13 l14 => asI A .i64 v13 fun n15 => asC A l14 fun v16 l17 => asI A .i64 v16 fun n18 => asC A l17 fun v19 l20 => asI A .i64 v19 fun n21 => asC A l20 fun v22 l23 => asI A .i64 v22 fun n24 => asC A l23 fun v25 l26 => asI A .i64 v25 fun n27 => asN A l26 (asN A l11 (asN A l3 (A.chk true (A.chk (decide (((map fldV x.fields).length + [agg [int .i64 n15, int .i64 n18, int .i64 n21, int .i64 n24, int .i64 n27]].length) * 40 ≤ 140737488355328)) (A.chk true (next [str s, int .i64 i, int .i64 m, int .i64 (IntKind.i64.wrap (k + (1 : Int)))] [[lst .ro 1 l6, int .i64 n9], [int .i64 z.op, int .i64 z.form, int .i64 z.field, int .i64 z.place, int .i64 z.to, int .i64 z.a, int .i64 z.b, int .i64 z.f.id, int .i64 z.f.kind, int .i64 z.f.lo, int .i64 z.f.hi, int .i64 z.f.most, int .i64 z.n, str z.s, lst .ro 1 (map (fun n => int .i64 n) z.t), lst .ro 5 (map fldV z.fields)], [int .i64 x.op, int .i64 x.form, int .i64 x.field, int .i64 x.place, int .i64 x.to, int .i64 x.a, int .i64 x.b, int .i64 x.f.id, int .i64 x.f.kind, int .i64 x.f.lo, int .i64 x.f.hi, int .i64 x.f.most, int .i64 x.n, str x.s, lst (.own (.O 1003 14)) 1 (map (fun n => int .i64 n) x.t), lst (.own (.O 1003 15)) 5 (map fldV x.fields ++ [agg [int .i64 n15, int .i64 n18, int .i64 n21, int .i64 n24, int .i64 n27]])]])))))))) else A.fail) (A.call 104 [ref 0 0] [(0, [lst .ro 1 (encB b), int .i64 e])] fun l28 l29 => asC A l29 fun x30 l31 => bif (x30.1.beq 0) then (asC A x30.2 fun v32 l33 => asL A 1 v32 fun l34 => asC A l33 fun v35 l36 => asI A .i64 v35 fun n37 => asN A l36 (asC A l28 fun v38 l39 => asA A v38 fun l40 => asC A l40 fun v41 l42 => asI A .i64 v41 fun n43 => asC A l42 fun v44 l45 => asI A .i64 v44 fun n46 => asC A l45 fun v47 l48 => asI A .i64 v47 fun n49 => asC A l48 fun v50 l51 => asI A .i64 v50 fun n52 => asC A l51 fun v53 l54 => asI A .i64 v53 fun n55 => asN A l54 (asN A l39 (asN A l31 (A.both (A.chk true (A.chk (decide (((map fldV x.fields).length + [agg [int .i64 n43, int .i64 n46, int .i64 n49, int .i64 n52, int .i64 n55]].length) * 40 ≤ 140737488355328)) (A.chk true (next [str s, int .i64 i, int .i64 m, int .i64 (IntKind.i64.wrap (k + (1 : Int)))] [[lst .ro 1 l34, int .i64 n37], [int .i64 z.op, int .i64 z.form, int .i64 z.field, int .i64 z.place, int .i64 z.to, int .i64 z.a, int .i64 z.b, int .i64 z.f.id, int .i64 z.f.kind, int .i64 z.f.lo, int .i64 z.f.hi, int .i64 z.f.most, int .i64 z.n, str z.s, lst .ro 1 (map (fun n => int .i64 n) z.t), lst .ro 5 (map fldV z.fields)], [int .i64 x.op, int .i64 x.form, int .i64 x.field, int .i64 x.place, int .i64 x.to, int .i64 x.a, int .i64 x.b, int .i64 x.f.id, int .i64 x.f.kind, int .i64 x.f.lo, int .i64 x.f.hi, int .i64 x.f.most, int .i64 x.n, str x.s, lst (.own (.O 1003 14)) 1 (map (fun n => int .i64 n) x.t), lst (.own (.O 1003 15)) 5 (map fldV x.fields ++ [agg [int .i64 n43, int .i64 n46, int .i64 n49, int .i64 n52, int .i64 n55]])]])))) (A.chk true (A.chk (decide (((map fldV x.fields).length + [agg [int .i64 n43, int .i64 n46, int .i64 n49, int .i64 n52, int .i64 n55]].length) * 40 ≤ 140737488355328)) (A.chk true (next [str s, int .i64 i, int .i64 m, int .i64 (IntKind.i64.wrap (k + (1 : Int)))] [[lst .ro 1 l34, int .i64 n37], [int .i64 z.op, int .i64 z.form, int .i64 z.field, int .i64 z.place, int .i64 z.to, int .i64 z.a, int .i64 z.b, int .i64 z.f.id, int .i64 z.f.kind, int .i64 z.f.lo, int .i64 z.f.hi, int .i64 z.f.most, int .i64 z.n, str z.s, lst .ro 1 (map (fun n => int .i64 n) z.t), lst .ro 5 (map fldV z.fields)], [int .i64 x.op, int .i64 x.form, int .i64 x.field, int .i64 x.place, int .i64 x.to, int .i64 x.a, int .i64 x.b, int .i64 x.f.id, int .i64 x.f.kind, int .i64 x.f.lo, int .i64 x.f.hi, int .i64 x.f.most, int .i64 x.n, str x.s, lst (.own (.O 1003 14)) 1 (map (fun n => int .i64 n) x.t), lst (.own (.O 1003 15)) 5 (map fldV x.fields ++ [agg [int .i64 n43, int .i64 n46, int .i64 n49, int .i64 n52, int .i64 n55]])]]))))))))) else A.fail)) else (kc 6 [str s, int .i64 i] [[lst .ro 1 (encB b), int .i64 e], [int .i64 z.op, int .i64 z.form, int .i64 z.field, int .i64 z.place, int .i64 z.to, int .i64 z.a, int .i64 z.b, int .i64 z.f.id, int .i64 z.f.kind, int .i64 z.f.lo, int .i64 z.f.hi, int .i64 z.f.most, int .i64 z.n, str z.s, lst .ro 1 (map (fun n => int .i64 n) z.t), lst .ro 5 (map fldV z.fields)], [int .i64 x.op, int .i64 x.form, int .i64 x.field, int .i64 x.place, int .i64 x.to, int .i64 x.a, int .i64 x.b, int .i64 x.f.id, int .i64 x.f.kind, int .i64 x.f.lo, int .i64 x.f.hi, int .i64 x.f.most, int .i64 x.n, str x.s, lst (.own (.O 1003 14)) 1 (map (fun n => int .i64 n) x.t), lst (.own (.O 1003 15)) 5 (map fldV x.fields)]])
theorem t_take15L (b : List UInt8) (z x : Stp) (s : List UInt8) (i e : Int) {r : LR} (h : s_take15L (OA (tbl E0) (ltbl E0 80 0)) b z x s i e (fun vs os => ltbl E0 80 0 4 vs os) (fun j vs os => some (j, vs, os)) = some r) : ltbl E0 80 0 4 [.str s, .int .i64 i] [[.lst .ro 1 (encB b), .int .i64 e], stpC z, stpO x (.O 1003 14) (.O 1003 15)] = some r :=
  ltbl_of (body := bodyOf Tryz.f80) Tryz.func80 (by kernel_rfl) (by kernel_rfl) (Eq.trans (by kernel_rfl) h)
theorem t_take15T (b : List UInt8) (z x : Stp) (s : List UInt8) (i m k e : Int) {r : LR} (h : s_take15T (OA (tbl E0) (ltbl E0 80 0)) b z x s i m k e (fun vs os => ltbl E0 80 0 28 vs os) (fun j vs os => some (j, vs, os)) = some r) : ltbl E0 80 0 28 [.str s, .int .i64 i, .int .i64 m, .int .i64 k] [[.lst .ro 1 (encB b), .int .i64 e], stpC z, stpO x (.O 1003 14) (.O 1003 15)] = some r :=
  ltbl_of (body := bodyOf Tryz.f80) Tryz.func80 (by kernel_rfl) (by kernel_rfl) (Eq.trans (by kernel_rfl) h)
theorem t_take15F (b : List UInt8) (z x : Stp) (s : List UInt8) (i m k e : Int) {r : LR} (h : s_take15F (OA (tbl E0) (ltbl E0 80 0)) b z x s i m k e (fun vs os => ltbl E0 80 0 34 vs os) (fun j vs os => some (j, vs, os)) = some r) : ltbl E0 80 0 34 [.str s, .int .i64 i, .int .i64 m, .int .i64 k] [[.lst .ro 1 (encB b), .int .i64 e], stpC z, stpO x (.O 1003 14) (.O 1003 15)] = some r :=
  ltbl_of (body := bodyOf Tryz.f80) Tryz.func80 (by kernel_rfl) (by kernel_rfl) (Eq.trans (by kernel_rfl) h)
end Go.Proofs.YtmpfeofeokmooaaGreat.V
namespace Go.Proofs.YtmpfeofeokmooaaGreat.V
open Go
open AV (int lst agg str bool ref clo)
open List (map)
def s_swrite {α : Type} (A : Alg α) (b : List AV) (x : Fld) (e : Int) (kc : List AV → List (Nat × List AV) → α) : α :=
  A.chk true (A.call 26 [ref 0 0, int .i64 x.id] [(0, [lst (.own (.E 0 0)) 1 b, int .i64 e])] fun l0 l1 => asC A l1 fun x2 l3 => bif (x2.1.beq 0) then (asC A x2.2 fun v4 l5 => asOwn A 1 v4 fun x6 l7 => asC A l5 fun v8 l9 => asI A .i64 v8 fun n10 => asN A l9 (asN A l0 (asN A l3 (A.call 26 [ref 0 0, int .i64 x.kind] [(0, [lst (.own (.E 0 0)) 1 l7, int .i64 n10])] fun l11 l12 => asC A l12 fun x13 l14 => bif (x13.1.beq 0) then (asC A x13.2 fun v15 l16 => asOwn A 1 v15 fun x17 l18 => asC A l16 fun v19 l20 => asI A .i64 v19 fun n21 => asN A l20 (asN A l11 (asN A l14 (bif (x.kind == (1 : Int)) then (A.call 84 [ref 0 0, int .i64 x.lo] [(0, [lst (.own (.E 0 0)) 1 l18, int .i64 n21])] fun l22 l23 => asC A l23 fun x24 l25 => bif (x24.1.beq 0) then (asC A x24.2 fun v26 l27 => asOwn A 1 v26 fun x28 l29 => asC A l27 fun v30 l31 => asI A .i64 v30 fun n32 => asN A l31 (asN A l22 (asN A l25 (A.call 84 [ref 0 0, int .i64 x.hi] [(0, [lst (.own (.E 0 0)) 1 l29, int .i64 n32])] fun l33 l34 => asC A l34 fun x35 l36 => bif (x35.1.beq 0) then (asC A x35.2 fun v37 l38 => asOwn A 1 v37 fun x39 l40 => asC A l38 fun v41 l42 => asI A .i64 v41 fun n43 => asN A l42 (asN A l33 (asN A l36 (kc [] [(0, [lst (.own (.E 0 0)) 1 l40, int .i64 n43])])))) else A.fail)))) else A.fail) else (bif (x.kind == (3 : Int)) then (A.call 26 [ref 0 0, int .i64 x.most] [(0, [lst (.own (.E 0 0)) 1 l18, int .i64 n21])] fun l44 l45 => asC A l45 fun x46 l47 => bif (x46.1.beq 0) then (asC A x46.2 fun v48 l49 => asOwn A 1 v48 fun x50 l51 => asC A l49 fun v52 l53 => asI A .i64 v52 fun n54 => asN A l53 (asN A l44 (asN A l47 (kc [] [(0, [lst (.own (.E 0 0)) 1 l51, int .i64 n54])])))) else A.fail) else (bif (x.kind == (4 : Int)) then (A.call 26 [ref 0 0, int .i64 x.most] [(0, [lst (.own (.E 0 0)) 1 l18, int .i64 n21])] fun l55 l56 => asC A l56 fun x57 l58 => bif (x57.1.beq 0) then (asC A x57.2 fun v59 l60 => asOwn A 1 v59 fun x61 l62 => asC A l60 fun v63 l64 => asI A .i64 v63 fun n65 => asN A l64 (asN A l55 (asN A l58 (kc [] [(0, [lst (.own (.E 0 0)) 1 l62, int .i64 n65])])))) else A.fail) else (kc [] [(0, [lst (.own (.E 0 0)) 1 l18, int .i64 n21])]))))))) else A.fail)))) else A.fail)
def s_sread {α : Type} (A : Alg α) (b : List UInt8) (e : Int) (kc : List AV → List (Nat × List AV) → α) : α :=
  A.call 36 [ref 0 0, int .i64 255] [(0, [lst .ro 1 (encB b), int .i64 e])] fun l0 l1 => asC A l1 fun x2 l3 => bif (x2.1.beq 0) then (asC A x2.2 fun v4 l5 => asL A 1 v4 fun l6 => asC A l5 fun v7 l8 => asI A .i64 v7 fun n9 => asN A l8 (asC A l0 fun v10 l11 => asI A .i64 v10 fun n12 => asN A l11 (asN A l3 (A.call 36 [ref 0 0, int .i64 4] [(0, [lst .ro 1 l6, int .i64 n9])] fun l13 l14 => asC A l14 fun x15 l16 => bif (x15.1.beq 0) then (asC A x15.2 fun v17 l18 => asL A 1 v17 fun l19 => asC A l18 fun v20 l21 => asI A .i64 v20 fun n22 => asN A l21 (asC A l13 fun v23 l24 => asI A .i64 v23 fun n25 => asN A l24 (asN A l16 (A.chk true (A.chk true (A.chk true (A.chk true (bif (n25 == (1 : Int)) then (A.call 100 [ref 0 0] [(0, [lst .ro 1 l19, int .i64 n22])] fun l26 l27 => asC A l27 fun x28 l29 => bif (x28.1.beq 0) then (asC A x28.2 fun v30 l31 => asL A 1 v30 fun l32 => asC A l31 fun v33 l34 => asI A .i64 v33 fun n35 => asN A l34 (asC A l26 fun v36 l37 => asI A .i64 v36 fun n38 => asN A l37 (asN A l29 (A.chk true (A.call 100 [ref 0 0] [(0, [lst .ro 1 l32, int .i64 n35])] fun l39 l40 => asC A l40 fun x41 l42 => bif (x41.1.beq 0) then (asC A x41.2 fun v43 l44 => asL A 1 v43 fun l45 => asC A l44 fun v46 l47 => asI A .i64 v46 fun n48 => asN A l47 (asC A l39 fun v49 l50 => asI A .i64 v49 fun n51 => asN A l50 (asN A l42 (A.chk true (A.chk true (A.chk true (A.chk true (A.chk true (kc [agg [int .i64 n12, int .i64 n25, int .i64 n38, int .i64 n51, int .i64 0]] [(0, [lst .ro 1 l45, int .i64 n48])]))))))))) else A.fail))))) else A.fail) else (bif (n25 == (3 : Int)) then (A.call 36 [ref 0 0, int .i64 1000] [(0, [lst .ro 1 l19, int .i64 n22])] fun l52 l53 => asC A l53 fun x54 l55 => bif (x54.1.beq 0) then (asC A x54.2 fun v56 l57 => asL A 1 v56 fun l58 => asC A l57 fun v59 l60 => asI A .i64 v59 fun n61 => asN A l60 (asC A l52 fun v62 l63 => asI A .i64 v62 fun n64 => asN A l63 (asN A l55 (A.chk true (A.chk true (A.chk true (A.chk true (A.chk true (kc [agg [int .i64 n12, int .i64 n25, int .i64 0, int .i64 0, int .i64 n64]] [(0, [lst .ro 1 l58, int .i64 n61])]))))))))) else A.fail) else (bif (n25 == (4 : Int)) then (A.call 36 [ref 0 0, int .i64 1000] [(0, [lst .ro 1 l19, int .i64 n22])] fun l65 l66 => asC A l66 fun x67 l68 => bif (x67.1.beq 0) then (asC A x67.2 fun v69 l70 => asL A 1 v69 fun l71 => asC A l70 fun v72 l73 => asI A .i64 v72 fun n74 => asN A l73 (asC A l65 fun v75 l76 => asI A .i64 v75 fun n77 => asN A l76 (asN A l68 (A.chk true (A.chk true (A.chk true (A.chk true (A.chk true (kc [agg [int .i64 n12, int .i64 n25, int .i64 0, int .i64 0, int .i64 n77]] [(0, [lst .ro 1 l71, int .i64 n74])]))))))))) else A.fail) else (A.chk true (A.chk true (A.chk true (A.chk true (kc [agg [int .i64 n12, int .i64 n25, int .i64 0, int .i64 0, int .i64 0]] [(0, [lst .ro 1 l19, int .i64 n22])]))))))))))))))) else A.fail)))) else A.fail
def s_FieldBytes {α : Type} (A : Alg α) (x : Fld) (kc : List AV → List (Nat × List AV) → α) : α :=
  A.chk true (A.call 31 [int .u64 (IntKind.u64.wrap x.id)] [] fun l0 l1 => asC A l0 fun v2 l3 => asOwn A 1 v2 fun x4 l5 => asN A l3 (asN A l1 (A.call 31 [int .u64 (IntKind.u64.wrap x.kind)] [] fun l6 l7 => asC A l6 fun v8 l9 => asOwn A 1 v8 fun x10 l11 => asN A l9 (asN A l7 (A.chk (decide ((l5.length + l11.length) * 1 ≤ 140737488355328)) (bif (x.kind == (1 : Int)) then (A.call 98 [int .i64 x.lo] [] fun l12 l13 => asC A l12 fun v14 l15 => asOwn A 1 v14 fun x16 l17 => asN A l15 (asN A l13 (A.chk (decide (((l5 ++ l11).length + l17.length) * 1 ≤ 140737488355328)) (A.call 98 [int .i64 x.hi] [] fun l18 l19 => asC A l18 fun v20 l21 => asOwn A 1 v20 fun x22 l23 => asN A l21 (asN A l19 (A.chk (decide (((l5 ++ l11 ++ l17).length + l23.length) * 1 ≤ 140737488355328)) (kc [lst .ro 1 (l5 ++ l11 ++ l17 ++ l23)] []))))))) else (bif (x.kind == (3 : Int)) then (A.call 31 [int .u64 (IntKind.u64.wrap x.most)] [] fun l24 l25 => asC A l24 fun v26 l27 => asOwn A 1 v26 fun x28 l29 => asN A l27 (asN A l25 (A.chk (decide (((l5 ++ l11).length + l29.length) * 1 ≤ 140737488355328)) (kc [lst .ro 1 (l5 ++ l11 ++ l29)] [])))) else (bif (x.kind == (4 : Int)) then (A.call 31 [int .u64 (IntKind.u64.wrap x.most)] [] fun l30 l31 => asC A l30 fun v32 l33 => asOwn A 1 v32 fun x34 l35 => asN A l33 (asN A l31 (A.chk (decide (((l5 ++ l11).length + l35.length) * 1 ≤ 140737488355328)) (kc [lst .ro 1 (l5 ++ l11 ++ l35)] [])))) else (kc [lst .ro 1 (l5 ++ l11)] [])))))))))
def s_TakeField {α : Type} (A : Alg α) (b : List UInt8) (e : Int) (kc : List AV → List (Nat × List AV) → α) : α :=
  A.call 41 [ref 0 0, int .i64 255] [(0, [lst .ro 1 (encB b), int .i64 e])] fun l0 l1 => asC A l1 fun x2 l3 => bif (x2.1.beq 0) then (asC A x2.2 fun v4 l5 => asL A 1 v4 fun l6 => asC A l5 fun v7 l8 => asI A .i64 v7 fun n9 => asN A l8 (asC A l0 fun v10 l11 => asI A .i64 v10 fun n12 => asN A l11 (asN A l3 (A.chk true (A.chk true (A.chk true (A.call 41 [ref 0 0, int .i64 4] [(0, [lst .ro 1 l6, int .i64 n9])] fun l13 l14 => asC A l14 fun x15 l16 => bif (x15.1.beq 0) then (asC A x15.2 fun v17 l18 => asL A 1 v17 fun l19 => asC A l18 fun v20 l21 => asI A .i64 v20 fun n22 => asN A l21 (asC A l13 fun v23 l24 => asI A .i64 v23 fun n25 => asN A l24 (asN A l16 (A.chk true (bif (n25 == (1 : Int)) then (A.call 103 [ref 0 0] [(0, [lst .ro 1 l19, int .i64 n22])] fun l26 l27 => asC A l27 fun x28 l29 => bif (x28.1.beq 0) then (asC A x28.2 fun v30 l31 => asL A 1 v30 fun l32 => asC A l31 fun v33 l34 => asI A .i64 v33 fun n35 => asN A l34 (asC A l26 fun v36 l37 => asI A .i64 v36 fun n38 => asN A l37 (asN A l29 (A.chk true (A.call 103 [ref 0 0] [(0, [lst .ro 1 l32, int .i64 n35])] fun l39 l40 => asC A l40 fun x41 l42 => bif (x41.1.beq 0) then (asC A x41.2 fun v43 l44 => asL A 1 v43 fun l45 => asC A l44 fun v46 l47 => asI A .i64 v46 fun n48 => asN A l47 (asC A l39 fun v49 l50 => asI A .i64 v49 fun n51 => asN A l50 (asN A l42 (A.chk true (A.chk true (A.chk true (A.chk true (A.chk true (kc [agg [int .i64 n12, int .i64 n25, int .i64 n38, int .i64 n51, int .i64 0]] [(0, [lst .ro 1 l45, int .i64 n48])]))))))))) else A.fail))))) else A.fail) else (bif (n25 == (3 : Int)) then (A.call 41 [ref 0 0, int .i64 1000] [(0, [lst .ro 1 l19, int .i64 n22])] fun l52 l53 => asC A l53 fun x54 l55 => bif (x54.1.beq 0) then (asC A x54.2 fun v56 l57 => asL A 1 v56 fun l58 => asC A l57 fun v59 l60 => asI A .i64 v59 fun n61 => asN A l60 (asC A l52 fun v62 l63 => asI A .i64 v62 fun n64 => asN A l63 (asN A l55 (A.chk true (A.chk true (A.chk true (A.chk true (A.chk true (kc [agg [int .i64 n12, int .i64 n25, int .i64 0, int .i64 0, int .i64 n64]] [(0, [lst .ro 1 l58, int .i64 n61])]))))))))) else A.fail) else (bif (n25 == (4 : Int)) then (A.call 41 [ref 0 0, int .i64 1000] [(0, [lst .ro 1 l19, int .i64 n22])] fun l65 l66 => asC A l66 fun x67 l68 => bif (x67.1.beq 0) then (asC A x67.2 fun v69 l70 => asL A 1 v69 fun l71 => asC A l70 fun v72 l73 => asI A .i64 v72 fun n74 => asN A l73 (asC A l65 fun v75 l76 => asI A .i64 v75 fun n77 => asN A l76 (asN A l68 (A.chk true (A.chk true (A.chk true (A.chk true (A.chk true (kc [agg [int .i64 n12, int .i64 n25, int .i64 0, int .i64 0, int .i64 n77]] [(0, [lst .ro 1 l71, int .i64 n74])]))))))))) else A.fail) else (A.chk true (A.chk true (A.chk true (A.chk true (kc [agg [int .i64 n12, int .i64 n25, int .i64 0, int .i64 0, int .i64 0]] [(0, [lst .ro 1 l19, int .i64 n22])])))))))))))) else A.fail))))))) else A.fail
def s_sPrint {α : Type} (A : Alg α) (s : Sch) (kc : List AV → List (Nat × List AV) → α) : α :=
  A.chk true (A.chk true (A.callx 56 [agg [int .i64 s.ver, lst .ro 2 (map frmV s.forms)]] fun l0 => asC A l0 fun v1 l2 => asB A v1 fun b3 => asN A l2 (bif (!b3) then (kc [lst .ro 1 [], int .i64 2] []) else (A.call 25 [] [] fun l4 l5 => asC A l4 fun v6 l7 => asRef0 A v6 fun o8 => bif (o8.beq 64) then (asC A l5 fun x9 l10 => bif (x9.1.beq 64) then (asC A x9.2 fun v11 l12 => asOwn A 1 v11 fun x13 l14 => asC A l12 fun v15 l16 => asI A .i64 v15 fun n17 => asN A l16 (asN A l7 (asN A l10 (A.call 26 [ref 0 0, int .i64 s.ver] [(0, [lst (.own (.E 0 0)) 1 l14, int .i64 n17])] fun l18 l19 => asC A l19 fun x20 l21 => bif (x20.1.beq 0) then (asC A x20.2 fun v22 l23 => asOwn A 1 v22 fun x24 l25 => asC A l23 fun v26 l27 => asI A .i64 v26 fun n28 => asN A l27 (asN A l18 (asN A l21 (A.asm ((map frmV s.forms).length ≤ maxL) (A.call 26 [ref 0 0, int .i64 (↑(map frmV s.forms).length : Int)] [(0, [lst (.own (.E 0 0)) 1 l25, int .i64 n28])] fun l29 l30 => asC A l30 fun x31 l32 => bif (x31.1.beq 0) then (asC A x31.2 fun v33 l34 => asOwn A 1 v33 fun x35 l36 => asC A l34 fun v37 l38 => asI A .i64 v37 fun n39 => asN A l38 (asN A l29 (asN A l32 (A.asm ((map frmV s.forms).length ≤ maxL) (A.loop 7 [lst .ro 2 (map frmV s.forms), int .i64 (↑(map frmV s.forms).length : Int), int .i64 0] [[lst (.own (.O 1012 0)) 1 l36, int .i64 n39]] fun j40 l41 l42 => bif (j40.beq 1) then (asN A l41 (asC A l42 fun l43 l44 => asC A l43 fun v45 l46 => asOwn A 1 v45 fun x47 l48 => bif (x47.beq (.O (1012 : Nat) (0 : Nat))) then (asC A l46 fun v49 l50 => asI A .i64 v49 fun n51 => asN A l50 (asN A l44 (A.call 28 [ref 0 0] [(0, [lst (.own (.E 0 0)) 1 l48, int .i64 n51])] fun l52 l53 => asC A l53 fun x54 l55 => bif (x54.1.beq 0) then (asC A x54.2 fun v56 l57 => asOwn A 1 v56 fun x58 l59 => asC A l57 fun v60 l61 => asI A .i64 v60 fun n62 => asN A l61 (asC A l52 fun v63 l64 => asL A 1 v63 fun l65 => asC A l64 fun v66 l67 => asI A .i64 v66 fun n68 => asN A l67 (asN A l55 (kc [lst .ro 1 l65, int .i64 n68] [])))) else A.fail))) else A.fail)) else A.fail))))) else A.fail))))) else A.fail)))) else A.fail) else A.fail))))
def s_sPrintL {α : Type} (A : Alg α) (l : List Frm) (b : List AV) (m : Int) (i : Int) (e : Int) (next : List AV → List (List AV) → α) (kc : Nat → List AV → List (List AV) → α) : α :=
  bif (decide (i < m)) then (A.chk (decide ((0 : Int) ≤ i)) (nthE A (map frmV l) i.toNat fun v0 => asA A v0 fun l1 => asC A l1 fun v2 l3 => asI A .i64 v2 fun n4 => asC A l3 fun v5 l6 => asL A 5 v5 fun l7 => asN A l6 (A.chk true (A.chk true (A.chk true (A.call 26 [ref 0 0, int .i64 n4] [(0, [lst (.own (.E 0 0)) 1 b, int .i64 e])] fun l8 l9 => asC A l9 fun x10 l11 => bif (x10.1.beq 0) then (asC A x10.2 fun v12 l13 => asOwn A 1 v12 fun x14 l15 => asC A l13 fun v16 l17 => asI A .i64 v16 fun n18 => asN A l17 (asN A l8 (asN A l11 (A.asm (l7.length ≤ maxL) (A.call 26 [ref 0 0, int .i64 (↑l7.length : Int)] [(0, [lst (.own (.E 0 0)) 1 l15, int .i64 n18])] fun l19 l20 => asC A l20 fun x21 l22 => bif (x21.1.beq 0) then (asC A x21.2 fun v23 l24 => asOwn A 1 v23 fun x25 l26 => asC A l24 fun v27 l28 => asI A .i64 v27 fun n29 => asN A l28 (asN A l19 (asN A l22 (A.asm (l7.length ≤ maxL) (A.loop 12 [lst .ro 2 (map frmV l), int .i64 m, int .i64 i, lst .ro 5 l7, int .i64 (↑l7.length : Int), int .i64 0] [[lst (.own (.O 1012 0)) 1 l26, int .i64 n29]] fun j30 l31 l32 => bif (j30.beq 3) then (asC A l31 fun v33 l34 => asL A 2 v33 fun l35 => asC A l34 fun v36 l37 => asI A .i64 v36 fun n38 => asC A l37 fun v39 l40 => asI A .i64 v39 fun n41 => asN A l40 (asC A l32 fun l42 l43 => asC A l42 fun v44 l45 => asOwn A 1 v44 fun x46 l47 => bif (x46.beq (.O (1012 : Nat) (0 : Nat))) then (asC A l45 fun v48 l49 => asI A .i64 v48 fun n50 => asN A l49 (asN A l43 (next [lst .ro 2 l35, int .i64 n38, int .i64 (IntKind.i64.wrap (n41 + (1 : Int)))] [[lst (.own (.O 1012 0)) 1 l47, int .i64 n50]]))) else A.fail)) else A.fail))))) else A.fail))))) else A.fail)))))) else (kc 1 [] [[lst (.own (.O 1012 0)) 1 b, int .i64 e]])
def s_sPrintK {α : Type} (A : Alg α) (l : List Frm) (fs : List Fld) (b : List AV) (m : Int) (i : Int) (n : Int) (k : Int) (e : Int) (next : List AV → List (List AV) → α) (kc : Nat → List AV → List (List AV) → α) : α :=
  bif (decide (k < n)) then (A.chk (decide ((0 : Int) ≤ k)) (nthE A (map fldV fs) k.toNat fun v0 => asA A v0 fun l1 => asC A l1 fun v2 l3 => asI A .i64 v2 fun n4 => asC A l3 fun v5 l6 => asI A .i64 v5 fun n7 => asC A l6 fun v8 l9 => asI A .i64 v8 fun n10 => asC A l9 fun v11 l12 => asI A .i64 v11 fun n13 => asC A l12 fun v14 l15 => asI A .i64 v14 fun n16 => asN A l15 (A.chk true (A.chk true (A.chk true (A.chk true (A.call 57 [ref 0 0, agg [int .i64 n4, int .i64 n7, int .i64 n10, int .i64 n13, int .i64 n16]] [(0, [lst (.own (.E 0 0)) 1 b, int .i64 e])] fun l17 l18 => asC A l18 fun x19 l20 => bif (x19.1.beq 0) then (asC A x19.2 fun v21 l22 => asOwn A 1 v21 fun x23 l24 => asC A l22 fun v25 l26 => asI A .i64 v25 fun n27 => asN A l26 (asN A l17 (asN A l20 (next [lst .ro 2 (map frmV l), int .i64 m, int .i64 i, lst .ro 5 (map fldV fs), int .i64 n, int .i64 (IntKind.i64.wrap (k + (1 : Int)))] [[lst (.own (.O 1012 0)) 1 l24, int .i64 n27]])))) else A.fail))))))) else (kc 3 [lst .ro 2 (map frmV l), int .i64 m, int .i64 i] [[lst (.own (.O 1012 0)) 1 b, int .i64 e]])
def s_yPrint {α : Type} (A : Alg α) (s : Sch) (kc : List AV → List (Nat × List AV) → α) : α :=
  A.chk true (A.asm ((map frmV s.forms).length ≤ maxL) (A.call 31 [int .u64 (IntKind.u64.wrap s.ver)] [] fun l0 l1 => asC A l0 fun v2 l3 => asOwn A 1 v2 fun x4 l5 => asN A l3 (asN A l1 (A.call 31 [int .u64 (IntKind.u64.wrap (↑(map frmV s.forms).length : Int))] [] fun l6 l7 => asC A l6 fun v8 l9 => asOwn A 1 v8 fun x10 l11 => asN A l9 (asN A l7 (A.chk (decide ((l5.length + l11.length) * 1 ≤ 140737488355328)) (A.loop 3 [lst (.own (.L 3)) 1 (l5 ++ l11), int .i64 0] [[int .i64 s.ver, lst .ro 2 (map frmV s.forms)]] fun j12 l13 l14 => bif (j12.beq 1) then (asC A l13 fun v15 l16 => asOwn A 1 v15 fun x17 l18 => bif (x17.beq (.L (3 : Nat))) then (asN A l16 (asN A l14 (kc [lst .ro 1 l18] []))) else A.fail) else A.fail)))))))
def s_yPrintL {α : Type} (A : Alg α) (s : Sch) (b : List AV) (i : Int) (next : List AV → List (List AV) → α) (kc : Nat → List AV → List (List AV) → α) : α :=
  A.asm ((map frmV s.forms).length ≤ maxL) (bif (decide (i < (↑(map frmV s.forms).length : Int))) then (A.chk (decide ((0 : Int) ≤ i)) (nthE A (map frmV s.forms) i.toNat fun v0 => asA A v0 fun l1 => asC A l1 fun v2 l3 => asI A .i64 v2 fun n4 => asC A l3 fun v5 l6 => asL A 5 v5 fun l7 => asN A l6 (A.chk true (A.chk true (A.chk true (A.asm (l7.length ≤ maxL) (A.call 31 [int .u64 (IntKind.u64.wrap n4)] [] fun l8 l9 => asC A l8 fun v10 l11 => asOwn A 1 v10 fun x12 l13 => asN A l11 (asN A l9 (A.chk (decide ((b.length + l13.length) * 1 ≤ 140737488355328)) (A.call 31 [int .u64 (IntKind.u64.wrap (↑l7.length : Int))] [] fun l14 l15 => asC A l14 fun v16 l17 => asOwn A 1 v16 fun x18 l19 => asN A l17 (asN A l15 (A.chk (decide (((b ++ l13).length + l19.length) * 1 ≤ 140737488355328)) (A.loop 8 [lst (.own (.L 3)) 1 (b ++ l13 ++ l19), int .i64 i, int .i64 0] [[int .i64 s.ver, lst .ro 2 (map frmV s.forms)], [int .i64 n4, lst .ro 5 l7]] fun j20 l21 l22 => bif (j20.beq 3) then (asC A l21 fun v23 l24 => asOwn A 1 v23 fun x25 l26 => bif (x25.beq (.L (3 : Nat))) then (asC A l24 fun v27 l28 => asI A .i64 v27 fun n29 => asN A l28 (asC A l22 fun l30 l31 => asC A l30 fun v32 l33 => asI A .i64 v32 fun n34 => asC A l33 fun v35 l36 => asL A 2 v35 fun l37 => asN A l36 (asN A l31 (next [lst (.own (.L 3)) 1 l26, int .i64 (IntKind.i64.wrap (n29 + (1 : Int)))] [[int .i64 n34, lst .ro 2 l37]])))) else A.fail) else A.fail))))))))))))) else (kc 1 [lst (.own (.L 3)) 1 b] []))
def s_yPrintK {α : Type} (A : Alg α) (s : Sch) (f : Frm) (b : List AV) (i : Int) (k : Int) (next : List AV → List (List AV) → α) (kc : Nat → List AV → List (List AV) → α) : α :=
  A.asm ((map fldV f.fields).length ≤ maxL) (bif (decide (k < (↑(map fldV f.fields).length : Int))) then (A.chk (decide ((0 : Int) ≤ k)) (nthE A (map fldV f.fields) k.toNat fun v0 => asA A v0 fun l1 => asC A l1 fun v2 l3 => asI A .i64 v2 fun n4 => asC A l3 fun v5 l6 => asI A .i64 v5 fun n7 => asC A l6 fun v8 l9 => asI A .i64 v8 fun n10 => asC A l9 fun v11 l12 => asI A .i64 v11 fun n13 => asC A l12 fun v14 l15 => asI A .i64 v14 fun n16 => asN A l15 (A.chk true (A.callx 66 [agg [int .i64 n4, int .i64 n7, int .i64 n10, int .i64 n13, int .i64 n16]] fun l17 => asC A l17 fun v18 l19 => asL A 1 v18 fun l20 => asN A l19 (A.chk (decide ((b.length + l20.length) * 1 ≤ 140737488355328)) (next [lst (.own (.L 3)) 1 (b ++ l20), int .i64 i, int .i64 (IntKind.i64.wrap (k + (1 : Int)))] [[int .i64 s.ver, lst .ro 2 (map frmV s.forms)], [int .i64 f.id, lst .ro 5 (map fldV f.fields)]])))))) else (kc 3 [lst (.own (.L 3)) 1 b, int .i64 i] [[int .i64 s.ver, lst .ro 2 (map frmV s.forms)]]))
def s_sParse {α : Type} (A : Alg α) (b : List UInt8) (kc : List AV → List (Nat × List AV) → α) : α :=
  A.call 35 [lst .ro 1 (encB b)] [] fun l0 l1 => asC A l0 fun v2 l3 => asRef0 A v2 fun o4 => bif (o4.beq 64) then (asC A l1 fun x5 l6 => bif (x5.1.beq 64) then (asC A x5.2 fun v7 l8 => asL A 1 v7 fun l9 => asC A l8 fun v10 l11 => asI A .i64 v10 fun n12 => asN A l11 (asN A l3 (asN A l6 (A.call 36 [ref 0 0, int .i64 65535] [(0, [lst .ro 1 l9, int .i64 n12])] fun l13 l14 => asC A l14 fun x15 l16 => bif (x15.1.beq 0) then (asC A x15.2 fun v17 l18 => asL A 1 v17 fun l19 => asC A l18 fun v20 l21 => asI A .i64 v20 fun n22 => asN A l21 (asC A l13 fun v23 l24 => asI A .i64 v23 fun n25 => asN A l24 (asN A l16 (A.chk true (A.chk true (A.chk true (A.call 36 [ref 0 0, int .i64 8] [(0, [lst .ro 1 l19, int .i64 n22])] fun l26 l27 => asC A l27 fun x28 l29 => bif (x28.1.beq 0) then (asC A x28.2 fun v30 l31 => asL A 1 v30 fun l32 => asC A l31 fun v33 l34 => asI A .i64 v33 fun n35 => asN A l34 (asC A l26 fun v36 l37 => asI A .i64 v36 fun n38 => asN A l37 (asN A l29 (A.loop 4 [int .i64 n38, int .i64 0] [[int .i64 0, lst .ro 2 []], [int .i64 n25, lst (.own (.O 1005 1)) 2 []], [lst .ro 1 l32, int .i64 n35]] fun j39 l40 l41 => bif (j39.beq 1) then (asN A l40 (asC A l41 fun l42 l43 => asC A l42 fun v44 l45 => asI A .i64 v44 fun n46 => asC A l45 fun v47 l48 => asL A 2 v47 fun l49 => asN A l48 (asC A l43 fun l50 l51 => asC A l50 fun v52 l53 => asI A .i64 v52 fun n54 => asC A l53 fun v55 l56 => asOwn A 2 v55 fun x57 l58 => bif (x57.beq (.O (1005 : Nat) (1 : Nat))) then (asN A l56 (asC A l51 fun l59 l60 => asC A l59 fun v61 l62 => asL A 1 v61 fun l63 => asC A l62 fun v64 l65 => asI A .i64 v64 fun n66 => asN A l65 (asN A l60 (A.call 38 [ref 0 0] [(0, [lst .ro 1 l63, int .i64 n66])] fun l67 l68 => asC A l68 fun x69 l70 => bif (x69.1.beq 0) then (asC A x69.2 fun v71 l72 => asL A 1 v71 fun l73 => asC A l72 fun v74 l75 => asI A .i64 v74 fun n76 => asN A l75 (asC A l67 fun v77 l78 => asI A .i64 v77 fun n79 => asN A l78 (asN A l70 (bif (n79 != (0 : Int)) then (A.chk true (A.chk true (A.chk true (kc [agg [int .i64 0, lst .ro 2 []], int .i64 n79] [])))) else (A.chk true (A.callx 56 [agg [int .i64 n54, lst .ro 2 l58]] fun l80 => asC A l80 fun v81 l82 => asB A v81 fun b83 => asN A l82 (bif (!b83) then (A.chk true (A.chk true (A.chk true (kc [agg [int .i64 0, lst .ro 2 []], int .i64 2] [])))) else (A.chk true (A.chk true (A.chk true (A.chk true (kc [agg [int .i64 n54, lst .ro 2 l58], int .i64 0] [])))))))))))) else A.fail)))) else A.fail))) else A.fail)))) else A.fail))))))) else A.fail)))) else A.fail) else A.fail
def s_sParseL {α : Type} (A : Alg α) (b : List UInt8) (l : List Frm) (v : Int) (n : Int) (i : Int) (e : Int) (next : List AV → List (List AV) → α) (kc : Nat → List AV → List (List AV) → α) : α :=
  bif (decide (i < n)) then (A.call 36 [ref 0 0, int .i64 200] [(0, [lst .ro 1 (encB b), int .i64 e])] fun l0 l1 => asC A l1 fun x2 l3 => bif (x2.1.beq 0) then (asC A x2.2 fun v4 l5 => asL A 1 v4 fun l6 => asC A l5 fun v7 l8 => asI A .i64 v7 fun n9 => asN A l8 (asC A l0 fun v10 l11 => asI A .i64 v10 fun n12 => asN A l11 (asN A l3 (A.chk true (A.chk true (A.chk true (A.call 36 [ref 0 0, int .i64 8] [(0, [lst .ro 1 l6, int .i64 n9])] fun l13 l14 => asC A l14 fun x15 l16 => bif (x15.1.beq 0) then (asC A x15.2 fun v17 l18 => asL A 1 v17 fun l19 => asC A l18 fun v20 l21 => asI A .i64 v20 fun n22 => asN A l21 (asC A l13 fun v23 l24 => asI A .i64 v23 fun n25 => asN A l24 (asN A l16 (A.loop 7 [int .i64 n, int .i64 i, int .i64 n25, int .i64 0] [[int .i64 0, lst .ro 2 []], [int .i64 v, lst (.own (.O 1005 1)) 2 (map frmV l)], [int .i64 n12, lst (.own (.O 1006 1)) 5 []], [lst .ro 1 l19, int .i64 n22]] fun j26 l27 l28 => bif (j26.beq 3) then (asC A l27 fun v29 l30 => asI A .i64 v29 fun n31 => asC A l30 fun v32 l33 => asI A .i64 v32 fun n34 => asN A l33 (asC A l28 fun l35 l36 => asC A l35 fun v37 l38 => asI A .i64 v37 fun n39 => asC A l38 fun v40 l41 => asL A 2 v40 fun l42 => asN A l41 (asC A l36 fun l43 l44 => asC A l43 fun v45 l46 => asI A .i64 v45 fun n47 => asC A l46 fun v48 l49 => asOwn A 2 v48 fun x50 l51 => bif (x50.beq (.O (1005 : Nat) (1 : Nat))) then (asN A l49 (asC A l44 fun l52 l53 => asC A l52 fun v54 l55 => asI A .i64 v54 fun n56 => asC A l55 fun v57 l58 => asOwn A 5 v57 fun x59 l60 => bif (x59.beq (.O (1006 : Nat) (1 : Nat))) then (asN A l58 (asC A l53 fun l61 l62 => asC A l61 fun v63 l64 => asL A 1 v63 fun l65 => asC A l64 fun v66 l67 => asI A .i64 v66 fun n68 => asN A l67 (asN A l62 (A.chk true (A.chk true (A.chk (decide ((l51.length + [agg [int .i64 n56, lst .ro (nat_lit 5) l60]].length) * 32 ≤ 140737488355328)) (A.chk true (next [int .i64 n31, int .i64 (IntKind.i64.wrap (n34 + (1 : Int)))] [[int .i64 n39, lst .ro 2 l42], [int .i64 n47, lst (.own (.O 1005 1)) 2 (l51 ++ [agg [int .i64 n56, lst .ro (nat_lit 5) l60]])], [lst .ro 1 l65, int .i64 n68]])))))))) else A.fail)) else A.fail))) else A.fail)))) else A.fail))))))) else A.fail) else (kc 1 [] [[int .i64 0, lst .ro 2 []], [int .i64 v, lst (.own (.O 1005 1)) 2 (map frmV l)], [lst .ro 1 (encB b), int .i64 e]])
def s_sParseK {α : Type} (A : Alg α) (b : List UInt8) (l : List Frm) (fs : List Fld) (v : Int) (w : Int) (n : Int) (i : Int) (m : Int) (k : Int) (e : Int) (next : List AV → List (List AV) → α) (kc : Nat → List AV → List (List AV) → α) : α :=
  bif (decide (k < m)) then (A.both (A.call 73 [ref 0 0] [(0, [lst .ro 1 (encB b), int .i64 e])] fun l0 l1 => asC A l1 fun x2 l3 => bif (x2.1.beq 0) then (asC A x2.2 fun v4 l5 => asL A 1 v4 fun l6 => asC A l5 fun v7 l8 => asI A .i64 v7 fun n9 => asN A l8 (asC A l0 fun v10 l11 => asA A v10 fun l12 => asC A l12 fun v13 l14 => asI A .i64 v13 fun n15 => asC A l14 fun v16 l17 => asI A .i64 v16 fun n18 => asC A l17 fun v19 l20 => asI A .i64 v19 fun n21 => asC A l20 fun v22 l23 => asI A .i64 v22 fun n24 => asC A l23 fun v25 l26 => asI A .i64 v25 fun n27 => asN A l26 (asN A l11 (asN A l3 (A.chk true (A.chk (decide (((map fldV fs).length + [agg [int .i64 n15, int .i64 n18, int .i64 n21, int .i64 n24, int .i64 n27]].length) * 40 ≤ 140737488355328)) (A.chk true (next [int .i64 n, int .i64 i, int .i64 m, int .i64 (IntKind.i64.wrap (k + (1 : Int)))] [[int .i64 0, lst .ro 2 []], [int .i64 v, lst (.own (.O 1005 1)) 2 (map frmV l)], [int .i64 w, lst (.own (.O 1006 1)) 5 (map fldV fs ++ [agg [int .i64 n15, int .i64 n18, int .i64 n21, int .i64 n24, int .i64 n27]])], [lst .ro 1 l6, int .i64 n9]])))))))) else A.fail) (A.call 73 [ref 0 0] [(0, [lst .ro 1 (encB b), int .i64 e])] fun l28 l29 => asC A l29 fun x30 l31 => bif (x30.1.beq 0) then (asC A x30.2 fun v32 l33 => asL A 1 v32 fun l34 => asC A l33 fun v35 l36 => asI A .i64 v35 fun n37 => asN A l36 (asC A l28 fun v38 l39 => asA A v38 fun l40 => asC A l40 fun v41 l42 => asI A .i64 v41 fun n43 => asC A l42 fun v44 l45 => asI A .i64 v44 fun n46 => asC A l45 fun v47 l48 => asI A .i64 v47 fun n49 => asC A l48 fun v50 l51 => asI A .i64 v50 fun n52 => asC A l51 fun v53 l54 => asI A .i64 v53 fun n55 => asN A l54 (asN A l39 (asN A l31 (A.both (A.chk true (A.chk (decide (((map fldV fs).length + [agg [int .i64 n43, int .i64 n46, int .i64 n49, int .i64 n52, int .i64 n55]].length) * 40 ≤ 140737488355328)) (A.chk true (next [int .i64 n, int .i64 i, int .i64 m, int .i64 (IntKind.i64.wrap (k + (1 : Int)))] [[int .i64 0, lst .ro 2 []], [int .i64 v, lst (.own (.O 1005 1)) 2 (map frmV l)], [int .i64 w, lst (.own (.O 1006 1)) 5 (map fldV fs ++ [agg [int .i64 n43, int .i64 n46, int .i64 n49, int .i64 n52, int .i64 n55]])], [lst .ro 1 l34, int .i64 n37]])))) (A.chk true (A.chk (decide (((map fldV fs).length + [agg [int .i64 n43, int .i64 n46, int .i64 n49, int .i64 n52, int .i64 n55]].length) * 40 ≤ 140737488355328)) (A.chk true (next [int .i64 n, int .i64 i, int .i64 m, int .i64 (IntKind.i64.wrap (k + (1 : Int)))] [[int .i64 0, lst .ro 2 []], [int .i64 v, lst (.own (.O 1005 1)) 2 (map frmV l)], [int .i64 w, lst (.own (.O 1006 1)) 5 (map fldV fs ++ [agg [int .i64 n43, int .i64 n46, int .i64 n49, int .i64 n52, int .i64 n55]])], [lst .ro 1 l34, int .i64 n37]]))))))))) else A.fail)) else (kc 3 [int .i64 n, int .i64 i] [[int .i64 0, lst .ro 2 []], [int .i64 v, lst (.own (.O 1005 1)) 2 (map frmV l)], [int .i64 w, lst (.own (.O 1006 1)) 5 (map fldV fs)], [lst .ro 1 (encB b), int .i64 e]])
def s_yParse {α : Type} (A : Alg α) (b : List UInt8) (kc : List AV → List (Nat × List AV) → α) : α :=
  A.chk true (A.chk true (A.call 41 [ref 0 0, int .i64 65535] [(0, [lst .ro 1 (encB b), int .i64 0])] fun l0 l1 => asC A l1 fun x2 l3 => bif (x2.1.beq 0) then (asC A x2.2 fun v4 l5 => asL A 1 v4 fun l6 => asC A l5 fun v7 l8 => asI A .i64 v7 fun n9 => asN A l8 (asC A l0 fun v10 l11 => asI A .i64 v10 fun n12 => asN A l11 (asN A l3 (A.chk true (A.chk true (A.chk true (A.call 41 [ref 0 0, int .i64 8] [(0, [lst .ro 1 l6, int .i64 n9])] fun l13 l14 => asC A l14 fun x15 l16 => bif (x15.1.beq 0) then (asC A x15.2 fun v17 l18 => asL A 1 v17 fun l19 => asC A l18 fun v20 l21 => asI A .i64 v20 fun n22 => asN A l21 (asC A l13 fun v23 l24 => asI A .i64 v23 fun n25 => asN A l24 (asN A l16 (A.loop 5 [int .i64 n25, int .i64 0] [[int .i64 0, lst .ro 2 []], [int .i64 n12, lst (.own (.O 1005 1)) 2 []], [lst .ro 1 l19, int .i64 n22]] fun j26 l27 l28 => bif (j26.beq 1) then (asN A l27 (asC A l28 fun l29 l30 => asC A l29 fun v31 l32 => asI A .i64 v31 fun n33 => asC A l32 fun v34 l35 => asL A 2 v34 fun l36 => asN A l35 (asC A l30 fun l37 l38 => asC A l37 fun v39 l40 => asI A .i64 v39 fun n41 => asC A l40 fun v42 l43 => asOwn A 2 v42 fun x44 l45 => bif (x44.beq (.O (1005 : Nat) (1 : Nat))) then (asN A l43 (asC A l38 fun l46 l47 => asC A l46 fun v48 l49 => asL A 1 v48 fun l50 => asC A l49 fun v51 l52 => asI A .i64 v51 fun n53 => asN A l52 (asN A l47 (A.call 43 [ref 0 0] [(0, [lst .ro 1 l50, int .i64 n53])] fun l54 l55 => asC A l55 fun x56 l57 => bif (x56.1.beq 0) then (asC A x56.2 fun v58 l59 => asL A 1 v58 fun l60 => asC A l59 fun v61 l62 => asI A .i64 v61 fun n63 => asN A l62 (asC A l54 fun v64 l65 => asI A .i64 v64 fun n66 => asN A l65 (asN A l57 (bif (n66 != (0 : Int)) then (A.chk true (A.chk true (A.chk true (kc [agg [int .i64 0, lst .ro 2 []], int .i64 n66] [])))) else (A.chk true (A.callx 29 [agg [int .i64 n41, lst .ro 2 l45]] fun l67 => asC A l67 fun v68 l69 => asB A v68 fun b70 => asN A l69 (bif (!b70) then (A.chk true (A.chk true (A.chk true (kc [agg [int .i64 0, lst .ro 2 []], int .i64 2] [])))) else (A.chk true (A.chk true (A.chk true (A.chk true (kc [agg [int .i64 n41, lst .ro 2 l45], int .i64 0] [])))))))))))) else A.fail)))) else A.fail))) else A.fail)))) else A.fail))))))) else A.fail))
def s_yParseL {α : Type} (A : Alg α) (b : List UInt8) (l : List Frm) (v : Int) (n : Int) (i : Int) (e : Int) (next : List AV → List (List AV) → α) (kc : Nat → List AV → List (List AV) → α) : α :=
  bif (decide (i < n)) then (A.call 41 [ref 0 0, int .i64 200] [(0, [lst .ro 1 (encB b), int .i64 e])] fun l0 l1 => asC A l1 fun x2 l3 => bif (x2.1.beq 0) then (asC A x2.2 fun v4 l5 => asL A 1 v4 fun l6 => asC A l5 fun v7 l8 => asI A .i64 v7 fun n9 => asN A l8 (asC A l0 fun v10 l11 => asI A .i64 v10 fun n12 => asN A l11 (asN A l3 (A.chk true (A.chk true (A.chk true (A.call 41 [ref 0 0, int .i64 8] [(0, [lst .ro 1 l6, int .i64 n9])] fun l13 l14 => asC A l14 fun x15 l16 => bif (x15.1.beq 0) then (asC A x15.2 fun v17 l18 => asL A 1 v17 fun l19 => asC A l18 fun v20 l21 => asI A .i64 v20 fun n22 => asN A l21 (asC A l13 fun v23 l24 => asI A .i64 v23 fun n25 => asN A l24 (asN A l16 (A.loop 10 [int .i64 n, int .i64 i, int .i64 n25, int .i64 0] [[int .i64 0, lst .ro 2 []], [int .i64 v, lst (.own (.O 1005 1)) 2 (map frmV l)], [int .i64 n12, lst (.own (.O 1008 1)) 5 []], [lst .ro 1 l19, int .i64 n22]] fun j26 l27 l28 => bif (j26.beq 3) then (asC A l27 fun v29 l30 => asI A .i64 v29 fun n31 => asC A l30 fun v32 l33 => asI A .i64 v32 fun n34 => asN A l33 (asC A l28 fun l35 l36 => asC A l35 fun v37 l38 => asI A .i64 v37 fun n39 => asC A l38 fun v40 l41 => asL A 2 v40 fun l42 => asN A l41 (asC A l36 fun l43 l44 => asC A l43 fun v45 l46 => asI A .i64 v45 fun n47 => asC A l46 fun v48 l49 => asOwn A 2 v48 fun x50 l51 => bif (x50.beq (.O (1005 : Nat) (1 : Nat))) then (asN A l49 (asC A l44 fun l52 l53 => asC A l52 fun v54 l55 => asI A .i64 v54 fun n56 => asC A l55 fun v57 l58 => asOwn A 5 v57 fun x59 l60 => bif (x59.beq (.O (1008 : Nat) (1 : Nat))) then (asN A l58 (asC A l53 fun l61 l62 => asC A l61 fun v63 l64 => asL A 1 v63 fun l65 => asC A l64 fun v66 l67 => asI A .i64 v66 fun n68 => asN A l67 (asN A l62 (A.chk true (A.chk true (A.chk (decide ((l51.length + [agg [int .i64 n56, lst .ro (nat_lit 5) l60]].length) * 32 ≤ 140737488355328)) (A.chk true (next [int .i64 n31, int .i64 (IntKind.i64.wrap (n34 + (1 : Int)))] [[int .i64 n39, lst .ro 2 l42], [int .i64 n47, lst (.own (.O 1005 1)) 2 (l51 ++ [agg [int .i64 n56, lst .ro (nat_lit 5) l60]])], [lst .ro 1 l65, int .i64 n68]])))))))) else A.fail)) else A.fail))) else A.fail)))) else A.fail))))))) else A.fail) else (kc 1 [] [[int .i64 0, lst .ro 2 []], [int .i64 v, lst (.own (.O 1005 1)) 2 (map frmV l)], [lst .ro 1 (encB b), int .i64 e]])
def s_yParseK {α : Type} (A : Alg α) (b : List UInt8) (l : List Frm) (fs : List Fld) (v : Int) (w : Int) (n : Int) (i : Int) (m : Int) (k : Int) (e : Int) (next : List AV → List (List AV) → α) (kc : Nat → List AV → List (List AV) → α) : α :=
  bif (decide (k < m)) then (A.both (A.call 79 [ref 0 0] [(0, [lst .ro 1 (encB b), int .i64 e])] fun l0 l1 => asC A l1 fun x2 l3 => bif (x2.1.beq 0) then (asC A x2.2 fun v4 l5 => asL A 1 v4 fun l6 => asC A l5 fun v7 l8 => asI A .i64 v7 fun n9 => asN A l8 (asC A l0 fun v10 l11 => asA A v10 fun l12 => asC A l12 fun v13 l14 => asI A .i64 v13 fun n15 => asC A l14 fun v16 l17 => asI A .i64 v16 fun n18 => asC A l17 fun v19 l20 => asI A .i64 v19 fun n21 => asC A l20 fun v22 l23 => asI A .i64 v22 fun n24 => asC A l23 fun v25 l26 => asI A .i64 v25 fun n27 => asN A l26 (asN A l11 (asN A l3 (A.chk true (A.chk (decide (((map fldV fs).length + [agg [int .i64 n15, int .i64 n18, int .i64 n21, int .i64 n24, int .i64 n27]].length) * 40 ≤ 140737488355328)) (A.chk true (next [int .i64 n, int .i64 i, int .i64 m, int .i64 (IntKind.i64.wrap (k + (1 : Int)))] [[int .i64 0, lst .ro 2 []], [int .i64 v, lst (.own (.O 1005 1)) 2 (map frmV l)], [int .i64 w, lst (.own (.O 1008 1)) 5 (map fldV fs ++ [agg [int .i64 n15, int .i64 n18, int .i64 n21, int .i64 n24, int .i64 n27]])], [lst .ro 1 l6, int .i64 n9]])))))))) else A.fail) (A.call 79 [ref 0 0] [(0, [lst .ro 1 (encB b), int .i64 e])] fun l28 l29 => asC A l29 fun x30 l31 => bif (x30.1.beq 0) then (asC A x30.2 fun v32 l33 => asL A 1 v32 fun l34 => asC A l33 fun v35 l36 => asI A .i64 v35 fun n37 => asN A l36 (asC A l28 fun v38 l39 => asA A v38 fun l40 => asC A l40 fun v41 l42 => asI A .i64 v41 fun n43 => asC A l42 fun v44 l45 => asI A .i64 v44 fun n46 => asC A l45 fun v47 l48 => asI A .i64 v47 fun n49 => asC A l48 fun v50 l51 => asI A .i64 v50 fun n52 => asC A l51 fun v53 l54 => asI A .i64 v53 fun n55 => asN A l54 (asN A l39 (asN A l31 (A.both (A.chk true (A.chk (decide (((map fldV fs).length + [agg [int .i64 n43, int .i64 n46, int .i64 n49, int .i64 n52, int .i64 n55]].length) * 40 ≤ 140737488355328)) (A.chk true (next [int .i64 n, int .i64 i, int .i64 m, int .i64 (IntKind.i64.wrap (k + (1 : Int)))] [[int .i64 0, lst .ro 2 []], [int .i64 v, lst (.own (.O 1005 1)) 2 (map frmV l)], [int .i64 w, lst (.own (.O 1008 1)) 5 (map fldV fs ++ [agg [int .i64 n43, int .i64 n46, int .i64 n49, int .i64 n52, int .i64 n55]])], [lst .ro 1 l34, int .i64 n37]])))) (A.chk true (A.chk (decide (((map fldV fs).length + [agg [int .i64 n43, int .i64 n46, int .i64 n49, int .i64 n52, int .i64 n55]].length) * 40 ≤ 140737488355328)) (A.chk true (next [int .i64 n, int .i64 i, int .i64 m, int .i64 (IntKind.i64.wrap (k + (1 : Int)))] [[int .i64 0, lst .ro 2 []], [int .i64 v, lst (.own (.O 1005 1)) 2 (map frmV l)], [int .i64 w, lst (.own (.O 1008 1)) 5 (map fldV fs ++ [agg [int .i64 n43, int .i64 n46, int .i64 n49, int .i64 n52, int .i64 n55]])], [lst .ro 1 l34, int .i64 n37]]))))))))) else A.fail)) else (kc 3 [int .i64 n, int .i64 i] [[int .i64 0, lst .ro 2 []], [int .i64 v, lst (.own (.O 1005 1)) 2 (map frmV l)], [int .i64 w, lst (.own (.O 1008 1)) 5 (map fldV fs)], [lst .ro 1 (encB b), int .i64 e]])
theorem t_swrite (b : List AV) (x : Fld) (e : Int) {r : CR} (h : s_swrite (OA (tbl E0) (ltbl E0 57 0)) b x e (fun r o => some (r, o)) = some r) : tbl E0 57 [.ref 0 0, fldV x] (penA b e) = some r :=
  tbl_of (body := bodyOf Tryz.f57) Tryz.func57 (by kernel_rfl) (by kernel_rfl) (by kernel_rfl) (Eq.trans (by kernel_rfl) h)
theorem t_sread (b : List UInt8) (e : Int) {r : CR} (h : s_sread (OA (tbl E0) (ltbl E0 73 0)) b e (fun r o => some (r, o)) = some r) : tbl E0 73 [.ref 0 0] (eyeV b e) = some r :=
  tbl_of (body := bodyOf Tryz.f73) Tryz.func73 (by kernel_rfl) (by kernel_rfl) (by kernel_rfl) (Eq.trans (by kernel_rfl) h)
theorem t_FieldBytes (x : Fld) {r : CR} (h : s_FieldBytes (OA (tbl E0) (ltbl E0 66 0)) x (fun r o => some (r, o)) = some r) : tbl E0 66 [fldV x] [] = some r :=
  tbl_of (body := bodyOf Tryz.f66) Tryz.func66 (by kernel_rfl) (by kernel_rfl) (by kernel_rfl) (Eq.trans (by kernel_rfl) h)
theorem t_TakeField (b : List UInt8) (e : Int) {r : CR} (h : s_TakeField (OA (tbl E0) (ltbl E0 79 0)) b e (fun r o => some (r, o)) = some r) : tbl E0 79 [.ref 0 0] (eyeV b e) = some r :=
  tbl_of (body := bodyOf Tryz.f79) Tryz.func79 (by kernel_rfl) (by kernel_rfl) (by kernel_rfl) (Eq.trans (by kernel_rfl) h)
theorem t_sPrint (s : Sch) {r : CR} (h : s_sPrint (OA (tbl E0) (ltbl E0 23 0)) s (fun r o => some (r, o)) = some r) : tbl E0 23 [schV s] [] = some r :=
  tbl_of (body := bodyOf Tryz.f23) Tryz.func23 (by kernel_rfl) (by kernel_rfl) (by kernel_rfl) (Eq.trans (by kernel_rfl) h)
theorem t_sPrintL (l : List Frm) (b : List AV) (m i e : Int) {r : LR} (h : s_sPrintL (OA (tbl E0) (ltbl E0 23 0)) l b m i e (fun vs os => ltbl E0 23 0 7 vs os) (fun j vs os => some (j, vs, os)) = some r) : ltbl E0 23 0 7 [frmsV l, .int .i64 m, .int .i64 i] [[.lst (.own (.O 1012 0)) 1 b, .int .i64 e]] = some r :=
  ltbl_of (body := bodyOf Tryz.f23) Tryz.func23 (by kernel_rfl) (by kernel_rfl) (Eq.trans (by kernel_rfl) h)
theorem t_sPrintK (l : List Frm) (fs : List Fld) (b : List AV) (m i n k e : Int) {r : LR} (h : s_sPrintK (OA (tbl E0) (ltbl E0 23 0)) l fs b m i n k e (fun vs os => ltbl E0 23 0 12 vs os) (fun j vs os => some (j, vs, os)) = some r) : ltbl E0 23 0 12 [frmsV l, .int .i64 m, .int .i64 i, fldsV fs, .int .i64 n, .int .i64 k] [[.lst (.own (.O 1012 0)) 1 b, .int .i64 e]] = some r :=
  ltbl_of (body := bodyOf Tryz.f23) Tryz.func23 (by kernel_rfl) (by kernel_rfl) (Eq.trans (by kernel_rfl) h)
theorem t_yPrint (s : Sch) {r : CR} (h : s_yPrint (OA (tbl E0) (ltbl E0 33 0)) s (fun r o => some (r, o)) = some r) : tbl E0 33 [schV s] [] = some r :=
  tbl_of (body := bodyOf Tryz.f33) Tryz.func33 (by kernel_rfl) (by kernel_rfl) (by kernel_rfl) (Eq.trans (by kernel_rfl) h)
theorem t_yPrintL (s : Sch) (b : List AV) (i : Int) {r : LR} (h : s_yPrintL (OA (tbl E0) (ltbl E0 33 0)) s b i (fun vs os => ltbl E0 33 0 3 vs os) (fun j vs os => some (j, vs, os)) = some r) : ltbl E0 33 0 3 [.lst (.own (.L 3)) 1 b, .int .i64 i] [[.int .i64 s.ver, frmsV s.forms]] = some r :=
  ltbl_of (body := bodyOf Tryz.f33) Tryz.func33 (by kernel_rfl) (by kernel_rfl) (Eq.trans (by kernel_rfl) h)
theorem t_yPrintK (s : Sch) (f : Frm) (b : List AV) (i k : Int) {r : LR} (h : s_yPrintK (OA (tbl E0) (ltbl E0 33 0)) s f b i k (fun vs os => ltbl E0 33 0 8 vs os) (fun j vs os => some (j, vs, os)) = some r) : ltbl E0 33 0 8 [.lst (.own (.L 3)) 1 b, .int .i64 i, .int .i64 k] [[.int .i64 s.ver, frmsV s.forms], [.int .i64 f.id, fldsV f.fields]] = some r :=
  ltbl_of (body := bodyOf Tryz.f33) Tryz.func33 (by kernel_rfl) (by kernel_rfl) (Eq.trans (by kernel_rfl) h)
theorem t_sParse (b : List UInt8) {r : CR} (h : s_sParse (OA (tbl E0) (ltbl E0 39 0)) b (fun r o => some (r, o)) = some r) : tbl E0 39 [.lst .ro 1 (encB b)] [] = some r :=
  tbl_of (body := bodyOf Tryz.f39) Tryz.func39 (by kernel_rfl) (by kernel_rfl) (by kernel_rfl) (Eq.trans (by kernel_rfl) h)
theorem t_sParseL (b : List UInt8) (l : List Frm) (v n i e : Int) {r : LR} (h : s_sParseL (OA (tbl E0) (ltbl E0 39 0)) b l v n i e (fun vs os => ltbl E0 39 0 4 vs os) (fun j vs os => some (j, vs, os)) = some r) : ltbl E0 39 0 4 [.int .i64 n, .int .i64 i] [[.int .i64 0, frmsV []], [.int .i64 v, .lst (.own (.O 1005 1)) 2 (l.map frmV)], [.lst .ro 1 (encB b), .int .i64 e]] = some r :=
  ltbl_of (body := bodyOf Tryz.f39) Tryz.func39 (by kernel_rfl) (by kernel_rfl) (Eq.trans (by kernel_rfl) h)
theorem t_sParseK (b : List UInt8) (l : List Frm) (fs : List Fld) (v w n i m k e : Int) {r : LR} (h : s_sParseK (OA (tbl E0) (ltbl E0 39 0)) b l fs v w n i m k e (fun vs os => ltbl E0 39 0 7 vs os) (fun j vs os => some (j, vs, os)) = some r) : ltbl E0 39 0 7 [.int .i64 n, .int .i64 i, .int .i64 m, .int .i64 k] [[.int .i64 0, frmsV []], [.int .i64 v, .lst (.own (.O 1005 1)) 2 (l.map frmV)], [.int .i64 w, .lst (.own (.O 1006 1)) 5 (fs.map fldV)], [.lst .ro 1 (encB b), .int .i64 e]] = some r :=
  ltbl_of (body := bodyOf Tryz.f39) Tryz.func39 (by kernel_rfl) (by kernel_rfl) (Eq.trans (by kernel_rfl) h)
theorem t_yParse (b : List UInt8) {r : CR} (h : s_yParse (OA (tbl E0) (ltbl E0 44 0)) b (fun r o => some (r, o)) = some r) : tbl E0 44 [.lst .ro 1 (encB b)] [] = some r :=
  tbl_of (body := bodyOf Tryz.f44) Tryz.func44 (by kernel_rfl) (by kernel_rfl) (by kernel_rfl) (Eq.trans (by kernel_rfl) h)
theorem t_yParseL (b : List UInt8) (l : List Frm) (v n i e : Int) {r : LR} (h : s_yParseL (OA (tbl E0) (ltbl E0 44 0)) b l v n i e (fun vs os => ltbl E0 44 0 5 vs os) (fun j vs os => some (j, vs, os)) = some r) : ltbl E0 44 0 5 [.int .i64 n, .int .i64 i] [[.int .i64 0, frmsV []], [.int .i64 v, .lst (.own (.O 1005 1)) 2 (l.map frmV)], [.lst .ro 1 (encB b), .int .i64 e]] = some r :=
  ltbl_of (body := bodyOf Tryz.f44) Tryz.func44 (by kernel_rfl) (by kernel_rfl) (Eq.trans (by kernel_rfl) h)
theorem t_yParseK (b : List UInt8) (l : List Frm) (fs : List Fld) (v w n i m k e : Int) {r : LR} (h : s_yParseK (OA (tbl E0) (ltbl E0 44 0)) b l fs v w n i m k e (fun vs os => ltbl E0 44 0 10 vs os) (fun j vs os => some (j, vs, os)) = some r) : ltbl E0 44 0 10 [.int .i64 n, .int .i64 i, .int .i64 m, .int .i64 k] [[.int .i64 0, frmsV []], [.int .i64 v, .lst (.own (.O 1005 1)) 2 (l.map frmV)], [.int .i64 w, .lst (.own (.O 1008 1)) 5 (fs.map fldV)], [.lst .ro 1 (encB b), .int .i64 e]] = some r :=
  ltbl_of (body := bodyOf Tryz.f44) Tryz.func44 (by kernel_rfl) (by kernel_rfl) (Eq.trans (by kernel_rfl) h)
end Go.Proofs.YtmpfeofeokmooaaGreat.V
namespace Go.Proofs.YtmpfeofeokmooaaGreat.V
open Go
structure Lnk where
  fr : Int
  to : Sch
  on : List Stp
  back : List Stp
  deriving DecidableEq
abbrev lnkC (x : Lnk) : List AV := [.int .i64 x.fr, .int .i64 x.to.ver, frmsV x.to.forms, stpsV x.on, stpsV x.back]
abbrev lnkV (x : Lnk) : AV := AV.agg (lnkC x)
abbrev lnksV (l : List Lnk) : AV := AV.lst .ro 5 (l.map lnkV)
abbrev bytesV (b : List UInt8) : AV := AV.lst .ro 1 (encB b)
def rightsS (l : List Stp) : Bool := decide (l.length ≤ 40) && l.all tRightS
def lnkS (x : Lnk) : Bool := decide (1 ≤ x.fr) && (decide (x.fr ≤ 65535) && (schS x.to && (x.to.ver != x.fr && (rightsS x.on && rightsS x.back))))
def Lnk.ok (x : Lnk) : Prop := i64 x.fr ∧ x.to.ok ∧ (∀ s ∈ x.on, s.ok) ∧ ∀ s ∈ x.back, s.ok
def txtB (s : List UInt8) : List UInt8 := cnt s.length ++ s
def lnkB (x : Lnk) : List UInt8 := cnt x.fr.toNat ++ (txtB (schB x.to) ++ (txtB (lstB x.on) ++ txtB (lstB x.back)))
end Go.Proofs.YtmpfeofeokmooaaGreat.V
namespace Go.Proofs.YtmpfeofeokmooaaGreat.V
open Go
structure Man where
  ver : Int
  sch : Sch
  links : List Lnk
  img : Int
  deriving DecidableEq
abbrev manC (x : Man) : List AV := [.int .i64 x.ver, .int .i64 x.sch.ver, frmsV x.sch.forms, lnksV x.links, .int .i64 x.img]
abbrev manV (x : Man) : AV := AV.agg (manC x)
def man0 : Man := ⟨0, ⟨0, []⟩, [], 0⟩
def manS (x : Man) : Bool := x.links.all lnkS && (decide (1 ≤ x.ver) && (decide (x.ver ≤ 65535) && (schS x.sch && (decide (x.links.length ≤ 8) && (decide (0 ≤ x.img) && decide (x.img ≤ 131072))))))
def Man.ok (x : Man) : Prop := i64 x.ver ∧ x.sch.ok ∧ (∀ l ∈ x.links, l.ok) ∧ i64 x.img
def lnksB (l : List Lnk) : List UInt8 := (l.map fun x => txtB (lnkB x)).flatten
def manB (x : Man) : List UInt8 := word4 1230197842 ++ (cnt x.ver.toNat ++ (txtB (schB x.sch) ++ (cnt x.links.length ++ (lnksB x.links ++ cnt x.img.toNat))))
end Go.Proofs.YtmpfeofeokmooaaGreat.V
namespace Go.Proofs.YtmpfeofeokmooaaGreat.V
open Go
open AV (int lst agg str bool ref clo)
open List (map)
def s_lGreat {α : Type} (A : Alg α) (x : Lnk) (kc : List AV → List (Nat × List AV) → α) : α :=
  A.chk true (A.loop 2 [int .i64 0] [[int .i64 x.fr, int .i64 x.to.ver, lst .ro 2 (map frmV x.to.forms), lst .ro 16 (map stpV x.on), lst .ro 16 (map stpV x.back)]] fun j0 l1 l2 => bif (j0.beq 0) then (asC A l1 fun v3 l4 => asB A v3 fun b5 => asN A l4 (asN A l2 (kc [bool b5] []))) else (bif (j0.beq 1) then (asN A l1 (asC A l2 fun l6 l7 => asC A l6 fun v8 l9 => asI A .i64 v8 fun n10 => asC A l9 fun v11 l12 => asI A .i64 v11 fun n13 => asC A l12 fun v14 l15 => asL A 2 v14 fun l16 => asC A l15 fun v17 l18 => asL A 16 v17 fun l19 => asC A l18 fun v20 l21 => asL A 16 v20 fun l22 => asN A l21 (asN A l7 (A.join (fun x23 => A.asm (l16.length ≤ maxL) (bif (decide ((↑l16.length : Int) > (40 : Int))) then (x23 true) else (A.callx 21 [lst .ro 16 l19] fun l24 => asC A l24 fun v25 l26 => asB A v25 fun b27 => asN A l26 (bif b27 then (x23 true) else (A.callx 21 [lst .ro 16 l22] fun l28 => asC A l28 fun v29 l30 => asB A v29 fun b31 => asN A l30 (x23 b31)))))) fun b32 => kc [bool b32] [])))) else A.fail))
def s_lGreatL {α : Type} (A : Alg α) (x : Lnk) (i : Int) (next : List AV → List (List AV) → α) (kc : Nat → List AV → List (List AV) → α) : α :=
  A.join (fun x0 => A.asm ((map frmV x.to.forms).length ≤ maxL) (bif (decide (i < (↑(map frmV x.to.forms).length : Int))) then (x0 (decide (i < (41 : Int)))) else (x0 false))) fun b1 => bif b1 then (A.chk (decide ((0 : Int) ≤ i)) (nthE A (map frmV x.to.forms) i.toNat fun v2 => asA A v2 fun l3 => asC A l3 fun v4 l5 => asI A .i64 v4 fun n6 => asC A l5 fun v7 l8 => asL A 5 v7 fun l9 => asN A l8 (A.asm (l9.length ≤ maxL) (bif (decide ((↑l9.length : Int) > (40 : Int))) then (kc 0 [bool true] []) else (next [int .i64 (IntKind.i64.wrap (i + (1 : Int)))] [[int .i64 x.fr, int .i64 x.to.ver, lst .ro 2 (map frmV x.to.forms), lst .ro 16 (map stpV x.on), lst .ro 16 (map stpV x.back)]]))))) else (kc 1 [] [[int .i64 x.fr, int .i64 x.to.ver, lst .ro 2 (map frmV x.to.forms), lst .ro 16 (map stpV x.on), lst .ro 16 (map stpV x.back)]])
def s_lRight {α : Type} (A : Alg α) (x : Lnk) (kc : List AV → List (Nat × List AV) → α) : α :=
  A.chk true (A.join (fun x0 => bif (decide (x.fr < (1 : Int))) then (x0 true) else (bif (decide (x.fr > (65535 : Int))) then (x0 true) else (x0 (x.fr == x.to.ver)))) fun b1 => bif b1 then (kc [bool false] []) else (A.chk true (A.callx 7 [agg [int .i64 x.fr, int .i64 x.to.ver, lst .ro 2 (map frmV x.to.forms), lst .ro 16 (map stpV x.on), lst .ro 16 (map stpV x.back)]] fun l2 => asC A l2 fun v3 l4 => asL A 1 v3 fun l5 => asC A l4 fun v6 l7 => asI A .i64 v6 fun n8 => asN A l7 (kc [bool (n8 == (0 : Int))] []))))
def s_ylRight {α : Type} (A : Alg α) (x : Lnk) (kc : List AV → List (Nat × List AV) → α) : α :=
  A.chk true (A.join (fun x0 => bif (decide (x.fr ≥ (1 : Int))) then (bif (decide (x.fr ≤ (65535 : Int))) then (A.chk true (A.callx 29 [agg [int .i64 x.to.ver, lst .ro 2 (map frmV x.to.forms)]] fun l1 => asC A l1 fun v2 l3 => asB A v2 fun b4 => asN A l3 (bif b4 then (bif (x.to.ver != x.fr) then (A.callx 30 [lst .ro 16 (map stpV x.on)] fun l5 => asC A l5 fun v6 l7 => asI A .i64 v6 fun n8 => asN A l7 (bif (n8 == (0 : Int)) then (A.callx 30 [lst .ro 16 (map stpV x.back)] fun l9 => asC A l9 fun v10 l11 => asI A .i64 v10 fun n12 => asN A l11 (x0 (n12 == (0 : Int)))) else (x0 false))) else (x0 false)) else (x0 false)))) else (x0 false)) else (x0 false)) fun b13 => kc [bool b13] [])
def s_ylSame {α : Type} (A : Alg α) (x : Lnk) (y : Lnk) (kc : List AV → List (Nat × List AV) → α) : α :=
  A.chk true (A.chk true (A.join (fun x0 => bif (x.fr == y.fr) then (A.chk true (A.chk true (A.callx 46 [agg [int .i64 x.to.ver, lst .ro 2 (map frmV x.to.forms)], agg [int .i64 y.to.ver, lst .ro 2 (map frmV y.to.forms)]] fun l1 => asC A l1 fun v2 l3 => asB A v2 fun b4 => asN A l3 (bif b4 then (A.callx 47 [lst .ro 16 (map stpV x.on), lst .ro 16 (map stpV y.on)] fun l5 => asC A l5 fun v6 l7 => asB A v6 fun b8 => asN A l7 (bif b8 then (A.callx 47 [lst .ro 16 (map stpV x.back), lst .ro 16 (map stpV y.back)] fun l9 => asC A l9 fun v10 l11 => asB A v10 fun b12 => asN A l11 (x0 b12)) else (x0 false))) else (x0 false))))) else (x0 false)) fun b13 => kc [bool b13] []))
def s_lPrint {α : Type} (A : Alg α) (x : Lnk) (kc : List AV → List (Nat × List AV) → α) : α :=
  A.chk true (A.chk true (A.callx 23 [agg [int .i64 x.to.ver, lst .ro 2 (map frmV x.to.forms)]] fun l0 => asC A l0 fun v1 l2 => asL A 1 v1 fun l3 => asC A l2 fun v4 l5 => asI A .i64 v4 fun n6 => asN A l5 (A.callx 24 [lst .ro 16 (map stpV x.on)] fun l7 => asC A l7 fun v8 l9 => asL A 1 v8 fun l10 => asC A l9 fun v11 l12 => asI A .i64 v11 fun n13 => asN A l12 (A.callx 24 [lst .ro 16 (map stpV x.back)] fun l14 => asC A l14 fun v15 l16 => asL A 1 v15 fun l17 => asC A l16 fun v18 l19 => asI A .i64 v18 fun n20 => asN A l19 (A.join (fun x21 => bif (n6 != (0 : Int)) then (x21 true) else (bif (n13 != (0 : Int)) then (x21 true) else (bif (n20 != (0 : Int)) then (x21 true) else (bif (decide (x.fr < (1 : Int))) then (x21 true) else (bif (decide (x.fr > (65535 : Int))) then (x21 true) else (x21 (x.fr == x.to.ver))))))) fun b22 => bif b22 then (kc [lst .ro 1 [], int .i64 2] []) else (A.call 25 [] [] fun l23 l24 => asC A l23 fun v25 l26 => asRef0 A v25 fun o27 => bif (o27.beq 64) then (asC A l24 fun x28 l29 => bif (x28.1.beq 64) then (asC A x28.2 fun v30 l31 => asOwn A 1 v30 fun x32 l33 => asC A l31 fun v34 l35 => asI A .i64 v34 fun n36 => asN A l35 (asN A l26 (asN A l29 (A.call 26 [ref 0 0, int .i64 x.fr] [(0, [lst (.own (.E 0 0)) 1 l33, int .i64 n36])] fun l37 l38 => asC A l38 fun x39 l40 => bif (x39.1.beq 0) then (asC A x39.2 fun v41 l42 => asOwn A 1 v41 fun x43 l44 => asC A l42 fun v45 l46 => asI A .i64 v45 fun n47 => asN A l46 (asN A l37 (asN A l40 (A.asm ([lst .ro (nat_lit 1) l3, lst .ro (nat_lit 1) l10, lst .ro (nat_lit 1) l17].length ≤ maxL) (A.loop 10 [lst .ro 1 [lst .ro 1 l3, lst .ro 1 l10, lst .ro 1 l17], int .i64 (↑[lst .ro (nat_lit 1) l3, lst .ro (nat_lit 1) l10, lst .ro (nat_lit 1) l17].length : Int), int .i64 0] [[lst (.own (.O 1061 0)) 1 l44, int .i64 n47]] fun j48 l49 l50 => bif (j48.beq 1) then (asN A l49 (asC A l50 fun l51 l52 => asC A l51 fun v53 l54 => asOwn A 1 v53 fun x55 l56 => bif (x55.beq (.O (1061 : Nat) (0 : Nat))) then (asC A l54 fun v57 l58 => asI A .i64 v57 fun n59 => asN A l58 (asN A l52 (A.call 28 [ref 0 0] [(0, [lst (.own (.E 0 0)) 1 l56, int .i64 n59])] fun l60 l61 => asC A l61 fun x62 l63 => bif (x62.1.beq 0) then (asC A x62.2 fun v64 l65 => asOwn A 1 v64 fun x66 l67 => asC A l65 fun v68 l69 => asI A .i64 v68 fun n70 => asN A l69 (asC A l60 fun v71 l72 => asL A 1 v71 fun l73 => asC A l72 fun v74 l75 => asI A .i64 v74 fun n76 => asN A l75 (asN A l63 (kc [lst .ro 1 l73, int .i64 n76] [])))) else A.fail))) else A.fail)) else A.fail))))) else A.fail)))) else A.fail) else A.fail))))))
def s_lPrintL {α : Type} (A : Alg α) (l : List (List UInt8)) (b : List AV) (m : Int) (i : Int) (e : Int) (next : List AV → List (List AV) → α) (kc : Nat → List AV → List (List AV) → α) : α :=
  bif (decide (i < m)) then (A.chk (decide ((0 : Int) ≤ i)) (nthE A (map bytesV l) i.toNat fun v0 => asL A 1 v0 fun l1 => orFail A (bytesOf l1) fun l2 => A.call 27 [ref 0 0, str l2] [(0, [lst (.own (.E 0 0)) 1 b, int .i64 e])] fun l3 l4 => asC A l4 fun x5 l6 => bif (x5.1.beq 0) then (asC A x5.2 fun v7 l8 => asOwn A 1 v7 fun x9 l10 => asC A l8 fun v11 l12 => asI A .i64 v11 fun n13 => asN A l12 (asN A l3 (asN A l6 (next [lst .ro 1 (map bytesV l), int .i64 m, int .i64 (IntKind.i64.wrap (i + (1 : Int)))] [[lst (.own (.O 1061 0)) 1 l10, int .i64 n13]])))) else A.fail)) else (kc 1 [] [[lst (.own (.O 1061 0)) 1 b, int .i64 e]])
theorem t_lGreat (x : Lnk) {r : CR} (h : s_lGreat (OA (tbl E0) (ltbl E0 5 0)) x (fun r o => some (r, o)) = some r) : tbl E0 5 [lnkV x] [] = some r :=
  tbl_of (body := bodyOf Tryz.f5) Tryz.func5 (by kernel_rfl) (by kernel_rfl) (by kernel_rfl) (Eq.trans (by kernel_rfl) h)
theorem t_lGreatL (x : Lnk) (i : Int) {r : LR} (h : s_lGreatL (OA (tbl E0) (ltbl E0 5 0)) x i (fun vs os => ltbl E0 5 0 2 vs os) (fun j vs os => some (j, vs, os)) = some r) : ltbl E0 5 0 2 [.int .i64 i] [lnkC x] = some r :=
  ltbl_of (body := bodyOf Tryz.f5) Tryz.func5 (by kernel_rfl) (by kernel_rfl) (Eq.trans (by kernel_rfl) h)
theorem t_lRight (x : Lnk) {r : CR} (h : s_lRight (OA (tbl E0) (ltbl E0 22 0)) x (fun r o => some (r, o)) = some r) : tbl E0 22 [lnkV x] [] = some r :=
  tbl_of (body := bodyOf Tryz.f22) Tryz.func22 (by kernel_rfl) (by kernel_rfl) (by kernel_rfl) (Eq.trans (by kernel_rfl) h)
theorem t_ylRight (x : Lnk) {r : CR} (h : s_ylRight (OA (tbl E0) (ltbl E0 8 0)) x (fun r o => some (r, o)) = some r) : tbl E0 8 [lnkV x] [] = some r :=
  tbl_of (body := bodyOf Tryz.f8) Tryz.func8 (by kernel_rfl) (by kernel_rfl) (by kernel_rfl) (Eq.trans (by kernel_rfl) h)
theorem t_ylSame (x y : Lnk) {r : CR} (h : s_ylSame (OA (tbl E0) (ltbl E0 12 0)) x y (fun r o => some (r, o)) = some r) : tbl E0 12 [lnkV x, lnkV y] [] = some r :=
  tbl_of (body := bodyOf Tryz.f12) Tryz.func12 (by kernel_rfl) (by kernel_rfl) (by kernel_rfl) (Eq.trans (by kernel_rfl) h)
theorem t_lPrint (x : Lnk) {r : CR} (h : s_lPrint (OA (tbl E0) (ltbl E0 7 0)) x (fun r o => some (r, o)) = some r) : tbl E0 7 [lnkV x] [] = some r :=
  tbl_of (body := bodyOf Tryz.f7) Tryz.func7 (by kernel_rfl) (by kernel_rfl) (by kernel_rfl) (Eq.trans (by kernel_rfl) h)
theorem t_lPrintL (l : List (List UInt8)) (b : List AV) (m i e : Int) {r : LR} (h : s_lPrintL (OA (tbl E0) (ltbl E0 7 0)) l b m i e (fun vs os => ltbl E0 7 0 10 vs os) (fun j vs os => some (j, vs, os)) = some r) : ltbl E0 7 0 10 [.lst .ro 1 (l.map bytesV), .int .i64 m, .int .i64 i] [[.lst (.own (.O 1061 0)) 1 b, .int .i64 e]] = some r :=
  ltbl_of (body := bodyOf Tryz.f7) Tryz.func7 (by kernel_rfl) (by kernel_rfl) (Eq.trans (by kernel_rfl) h)
end Go.Proofs.YtmpfeofeokmooaaGreat.V
namespace Go.Proofs.YtmpfeofeokmooaaGreat.V
open Go
theorem c_sread (b : List UInt8) (e : Int) (hb : b.length ≤ 140737488355328) : tbl E0 73 [.ref 0 0] (eyeV b e) = some ([fldV (tkFld (b, e)).1], eyeV (tkFld (b, e)).2.1 (tkFld (b, e)).2.2) :=
  t_sread b e (by
    have h1 := countS_len b e 255
    have h2 := countS_len (countS b e 255).2.1 (countS b e 255).2.2 4
    have c1 := c_ECount b e 255 hb
    have c2 := c_ECount (countS b e 255).2.1 (countS b e 255).2.2 4 (by omega)
    have c3 := c_ECount (countS (countS b e 255).2.1 (countS b e 255).2.2 4).2.1 (countS (countS b e 255).2.1 (countS b e 255).2.2 4).2.2 1000 (by omega)
    have c4 := c_ENum (countS (countS b e 255).2.1 (countS b e 255).2.2 4).2.1 (countS (countS b e 255).2.1 (countS b e 255).2.2 4).2.2 (by omega)
    have c5 := c_ENum (numS (countS (countS b e 255).2.1 (countS b e 255).2.2 4).2.1 (countS (countS b e 255).2.1 (countS b e 255).2.2 4).2.2).2.1 (numS (countS (countS b e 255).2.1 (countS b e 255).2.2 4).2.1 (countS (countS b e 255).2.1 (countS b e 255).2.2 4).2.2).2.2 (Nat.le_trans (grpS_len _ _) (by omega))
    simp only [eyeV] at c1 c2 c3 c4 c5
    unfold tkFld
    by_cases k1 : (countS (countS b e 255).2.1 (countS b e 255).2.2 4).1 = 1
    · simp [s_sread, c1, c2, c3, c4, c5, k1]
    · by_cases k3 : (countS (countS b e 255).2.1 (countS b e 255).2.2 4).1 = 3
      · simp [s_sread, c1, c2, c3, c4, c5, k3]
      · by_cases k4 : (countS (countS b e 255).2.1 (countS b e 255).2.2 4).1 = 4
        · simp [s_sread, c1, c2, c3, c4, c5, k4]
        · simp [s_sread, c1, c2, c3, c4, c5, k1, k3, k4])
theorem r_TakeField (b : List UInt8) (e : Int) (hb : b.length ≤ 140737488355328) : tbl E0 79 [.ref 0 0] (eyeV b e) = some ([fldV (tkFld (b, e)).1], eyeV (tkFld (b, e)).2.1 (tkFld (b, e)).2.2) :=
  t_TakeField b e (by
    have h1 := countS_len b e 255
    have h2 := countS_len (countS b e 255).2.1 (countS b e 255).2.2 4
    have c1 := r_ECount b e 255 hb
    have c2 := r_ECount (countS b e 255).2.1 (countS b e 255).2.2 4 (by omega)
    have c3 := r_ECount (countS (countS b e 255).2.1 (countS b e 255).2.2 4).2.1 (countS (countS b e 255).2.1 (countS b e 255).2.2 4).2.2 1000 (by omega)
    have c4 := r_ENum (countS (countS b e 255).2.1 (countS b e 255).2.2 4).2.1 (countS (countS b e 255).2.1 (countS b e 255).2.2 4).2.2 (by omega)
    have c5 := r_ENum (numS (countS (countS b e 255).2.1 (countS b e 255).2.2 4).2.1 (countS (countS b e 255).2.1 (countS b e 255).2.2 4).2.2).2.1 (numS (countS (countS b e 255).2.1 (countS b e 255).2.2 4).2.1 (countS (countS b e 255).2.1 (countS b e 255).2.2 4).2.2).2.2 (Nat.le_trans (grpS_len _ _) (by omega))
    simp only [eyeV] at c1 c2 c3 c4 c5
    unfold tkFld
    by_cases k1 : (countS (countS b e 255).2.1 (countS b e 255).2.2 4).1 = 1
    · simp [s_TakeField, c1, c2, c3, c4, c5, k1]
    · by_cases k3 : (countS (countS b e 255).2.1 (countS b e 255).2.2 4).1 = 3
      · simp [s_TakeField, c1, c2, c3, c4, c5, k3]
      · by_cases k4 : (countS (countS b e 255).2.1 (countS b e 255).2.2 4).1 = 4
        · simp [s_TakeField, c1, c2, c3, c4, c5, k4]
        · simp [s_TakeField, c1, c2, c3, c4, c5, k1, k3, k4])
theorem fldB_len {x : Fld} (hx : x.ok) (hr : rgtS x = true) : (fldB x).length ≤ 40 := by
  have r := rgt_rng hr
  obtain ⟨_, ⟨_, _⟩, ⟨_, _⟩, ⟨_, _⟩, ⟨_, _⟩⟩ := hx
  have h1 : (cnt x.id.toNat).length ≤ 10 := cnt_len10 (by omega)
  have h2 : (cnt x.kind.toNat).length ≤ 10 := cnt_len10 (by omega)
  have h3 : (cnt (zz x.lo)).length ≤ 10 := cnt_len10 (zz_lt (by omega) (by omega))
  have h4 : (cnt (zz x.hi)).length ≤ 10 := cnt_len10 (zz_lt (by omega) (by omega))
  have h5 : (cnt x.most.toNat).length ≤ 10 := cnt_len10 (by omega)
  unfold fldB
  simp only [List.length_append]
  split
  · simp only [List.length_append]; omega
  · split
    · omega
    · simp; omega
theorem c_swrite (b : List AV) (x : Fld) (e : Int) (hx : x.ok) (hr : rgtS x = true) (hb : b.length + 40 ≤ 140737488355328) : tbl E0 57 [.ref 0 0, fldV x] (penA b e) = some ([], penA (b ++ encB (fldB x)) e) :=
  t_swrite b x e (by
    have r := rgt_rng hr
    obtain ⟨_, ⟨_, _⟩, ⟨_, _⟩, ⟨_, _⟩, ⟨_, _⟩⟩ := hx
    have h1 : (cnt x.id.toNat).length ≤ 10 := cnt_len10 (by omega)
    have h2 : (cnt x.kind.toNat).length ≤ 10 := cnt_len10 (by omega)
    have h3 : (cnt (zz x.lo)).length ≤ 10 := cnt_len10 (zz_lt (by omega) (by omega))
    have c1 := c_PCount b x.id e (by omega) (by omega)
    have c2 := c_PCount (b ++ encB (cnt x.id.toNat)) x.kind e (by simp; omega) (by omega)
    have c3 := c_PCount (b ++ encB (cnt x.id.toNat) ++ encB (cnt x.kind.toNat)) x.most e (by simp; omega) (by omega)
    have c4 := c_PNum (b ++ encB (cnt x.id.toNat) ++ encB (cnt x.kind.toNat)) x.lo e (by simp; omega) (by omega) (by omega)
    have c5 := c_PNum (b ++ encB (cnt x.id.toNat) ++ encB (cnt x.kind.toNat) ++ encB (cnt (zz x.lo))) x.hi e (by simp; omega) (by omega) (by omega)
    have n1 : ¬ (x.id < 0) := by omega
    have n2 : ¬ (x.kind < 0) := by omega
    have n3 : ¬ (x.most < 0) := by omega
    simp only [n1, n2, n3, if_false, penA] at c1 c2 c3 c4 c5
    unfold fldB
    by_cases k1 : x.kind = 1
    · simp only [k1] at c2 c3 c4 c5
      simp_all [s_swrite, penA, encB_append]
    · by_cases k3 : x.kind = 3
      · simp only [k3] at c2 c3 c4 c5
        simp_all [s_swrite, penA, encB_append]
      · by_cases k4 : x.kind = 4
        · simp only [k4] at c2 c3 c4 c5
          simp_all [s_swrite, penA, encB_append]
        · have k2 : x.kind = 2 := by omega
          simp only [k2] at c2 c3 c4 c5
          simp_all [s_swrite, penA, encB_append])
theorem r_FieldBytes (x : Fld) (hx : x.ok) (hr : rgtS x = true) : tbl E0 66 [fldV x] [] = some ([.lst .ro 1 (encB (fldB x))], []) :=
  t_FieldBytes x (by
    have r := rgt_rng hr
    obtain ⟨_, ⟨_, _⟩, ⟨_, _⟩, ⟨_, _⟩, ⟨_, _⟩⟩ := hx
    obtain ⟨id, kind, lo, hi, most⟩ := x
    simp only at *
    have h1 : (cnt id.toNat).length ≤ 10 := cnt_len10 (by omega)
    have h2 : (cnt kind.toNat).length ≤ 10 := cnt_len10 (by omega)
    have h3 : (cnt (zz lo)).length ≤ 10 := cnt_len10 (zz_lt (by omega) (by omega))
    have h4 : (cnt (zz hi)).length ≤ 10 := cnt_len10 (zz_lt (by omega) (by omega))
    have h5 : (cnt most.toNat).length ≤ 10 := cnt_len10 (by omega)
    have w1 : IntKind.u64.wrap id = id := wrap_u64_id (by omega) (by omega)
    have w2 : IntKind.u64.wrap kind = kind := wrap_u64_id (by omega) (by omega)
    have w3 : IntKind.u64.wrap most = most := wrap_u64_id (by omega) (by omega)
    have c1 := r_CountI id (by omega) (by omega)
    have c2 := r_CountI kind (by omega) (by omega)
    have c3 := r_CountI most (by omega) (by omega)
    have c4 := r_Num lo (by omega) (by omega)
    have c5 := r_Num hi (by omega) (by omega)
    have q1 : (cnt id.toNat).length + (cnt kind.toNat).length ≤ 140737488355328 := by omega
    have q2 : (cnt id.toNat).length + (cnt kind.toNat).length + (cnt (zz lo)).length ≤ 140737488355328 := by omega
    have q3 : (cnt id.toNat).length + (cnt kind.toNat).length + (cnt (zz lo)).length + (cnt (zz hi)).length ≤ 140737488355328 := by omega
    have q4 : (cnt id.toNat).length + (cnt kind.toNat).length + (cnt most.toNat).length ≤ 140737488355328 := by omega
    unfold fldB
    simp only [s_FieldBytes, OA_chk, cond_true, OA_call, w1, c1, w2, c2, Option.bind_some, u_asC, u_asOwn, u_asN, encB_length, Nat.mul_one, List.length_append, q1, decide_true]
    generalize cnt kind.toNat = K at *
    by_cases k1 : kind = 1
    · simp only [k1, beq_self_eq_true, cond_true, if_true, c4, c5, OA_call, Option.bind_some, u_asC, u_asOwn, u_asN, encB_length, Nat.mul_one, List.length_append, q2, q3, decide_true, encB_append, List.append_assoc]
    · by_cases k3 : kind = 3
      · have k1' : ¬ ((3 : Int) = 1) := by decide
        simp only [k3, k1', beq_self_eq_true, beq_f k1', cond_true, cond_false, if_true, if_false, true_or, w3, c3, OA_call, Option.bind_some, u_asC, u_asOwn, u_asN, encB_length, Nat.mul_one, List.length_append, q4, decide_true, encB_append, List.append_assoc]
      · by_cases k4 : kind = 4
        · have k1' : ¬ ((4 : Int) = 1) := by decide
          have k3' : ¬ ((4 : Int) = 3) := by decide
          simp only [k4, k1', k3', beq_self_eq_true, beq_f k1', beq_f k3', cond_true, cond_false, if_true, if_false, or_true, w3, c3, OA_call, Option.bind_some, u_asC, u_asOwn, u_asN, encB_length, Nat.mul_one, List.length_append, q4, decide_true, encB_append, List.append_assoc]
        · simp [k1, k3, k4, q1, encB_append])
end Go.Proofs.YtmpfeofeokmooaaGreat.V
namespace Go.Proofs.YtmpfeofeokmooaaGreat.V
open Go
theorem fldsB_cons (f : Fld) (l : List Fld) : fldsB (f :: l) = fldB f ++ fldsB l := by simp [fldsB]
theorem frmsB_cons (f : Frm) (l : List Frm) : frmsB (f :: l) = frmB f ++ frmsB l := by simp [frmsB]
theorem fldsB_len : ∀ (l : List Fld), FldsOK l → (fldsB l).length ≤ 40 * l.length
  | [], _ => by simp [fldsB]
  | f :: l, h => by
    have h1 := fldB_len (h f (by simp)).1 (h f (by simp)).2
    have h2 := fldsB_len l (fun g hg => h g (by simp [hg]))
    rw [fldsB_cons, List.length_append, List.length_cons]
    omega
theorem c_sPrintK (l : List Frm) (fs : List Fld) (m i : Int) (hl : fs.length ≤ 8) (hok : FldsOK fs) : ∀ (r : List Fld) (k : Nat) (b : List AV) (e : Int), fs.drop k = r → b.length + 40 * r.length + 40 ≤ 140737488355328 →
    ltbl E0 23 0 12 [frmsV l, .int .i64 m, .int .i64 i, fldsV fs, .int .i64 fs.length, .int .i64 k] [[.lst (.own (.O 1012 0)) 1 b, .int .i64 e]] = some (3, [frmsV l, .int .i64 m, .int .i64 i], [[.lst (.own (.O 1012 0)) 1 (b ++ encB (fldsB r)), .int .i64 e]]) := by
  intro r
  induction r with
  | nil =>
    intro k b e hr hb
    have h : fs.length ≤ k := by simpa using hr
    refine t_sPrintK _ _ _ _ _ _ _ _ ?_
    have : ¬ ((k : Int) < fs.length) := by omega
    simp [s_sPrintK, this, fldsB, encB_nil]
  | cons x r ih =>
    intro k b e hr hb
    obtain ⟨hlt, hget, hr2⟩ := drop_c hr
    have h2 : (k : Int) < fs.length := by omega
    have e1 := i64_succ (i := k) (by omega)
    obtain ⟨x1, x2⟩ := hok x (mem_drop hr)
    have hx := fldB_len x1 x2
    simp only [List.length_cons] at hb
    have h := ih (k + 1) (b ++ encB (fldB x)) e hr2 (by simp; omega)
    have c := c_swrite b x e x1 x2 (by omega)
    simp only [penA] at c
    refine t_sPrintK _ _ _ _ _ _ _ _ ?_
    rw [fldsB_cons, encB_append, ← List.append_assoc, ← h]
    simp only [s_sPrintK, OA_asm, List.length_map, h2, decide_true, cond_true, OA_chk, Int.natCast_nonneg, nthE, Int.toNat_natCast, List.getElem?_map, hget, Option.map_some, u_asA, u_asC, u_asI, u_asB, u_asL, u_asOwn, u_asN, OA_call, c, Option.bind_some, nbeq, e1]
def FrmOK (f : Frm) : Prop := f.ok ∧ 0 ≤ f.id ∧ f.fields.length ≤ 8 ∧ FldsOK f.fields
theorem frmB_len {f : Frm} (h : FrmOK f) : (frmB f).length ≤ 340 := by
  obtain ⟨⟨⟨_, _⟩, _⟩, h2, h3, h4⟩ := h
  have h5 := fldsB_len f.fields h4
  have h6 : (cnt f.id.toNat).length ≤ 10 := cnt_len10 (by omega)
  have h7 : (cnt f.fields.length).length ≤ 10 := cnt_len10 (by omega)
  unfold frmB
  simp only [List.length_append]
  omega
theorem c_sPrintL (l : List Frm) (hl : l.length ≤ 8) (hok : ∀ f ∈ l, FrmOK f) : ∀ (r : List Frm) (i : Nat) (b : List AV) (e : Int), l.drop i = r → b.length + 400 * r.length + 400 ≤ 140737488355328 →
    ltbl E0 23 0 7 [frmsV l, .int .i64 l.length, .int .i64 i] [[.lst (.own (.O 1012 0)) 1 b, .int .i64 e]] = some (1, [], [[.lst (.own (.O 1012 0)) 1 (b ++ encB (frmsB r)), .int .i64 e]]) := by
  intro r
  induction r with
  | nil =>
    intro i b e hr hb
    have h : l.length ≤ i := by simpa using hr
    refine t_sPrintL _ _ _ _ _ ?_
    have : ¬ ((i : Int) < l.length) := by omega
    simp [s_sPrintL, this, frmsB, encB_nil]
  | cons x r ih =>
    intro i b e hr hb
    obtain ⟨hlt, hget, hr2⟩ := drop_c hr
    have h2 : (i : Int) < l.length := by omega
    have e1 := i64_succ (i := i) (by omega)
    have hx := hok x (mem_drop hr)
    have hxl := frmB_len hx
    obtain ⟨⟨⟨_, _⟩, _⟩, x2, x3, x4⟩ := hx
    have h6 : (cnt x.id.toNat).length ≤ 10 := cnt_len10 (by omega)
    have h7 : (cnt x.fields.length).length ≤ 10 := cnt_len10 (by omega)
    simp only [List.length_cons] at hb
    have h := ih (i + 1) (b ++ encB (frmB x)) e hr2 (by simp; omega)
    have c1 := c_PCount b x.id e (by omega) (by omega)
    have c2 := c_PCount (b ++ encB (cnt x.id.toNat)) x.fields.length e (by simp; omega) (by omega)
    rw [if_neg (by omega)] at c1 c2
    simp only [penA, Int.toNat_natCast] at c1 c2
    have k := c_sPrintK l x.fields (l.length : Int) (i : Int) x3 x4 x.fields 0 (b ++ encB (cnt x.id.toNat) ++ encB (cnt x.fields.length)) e rfl (by simp; omega)
    simp only [Int.natCast_zero] at k
    refine t_sPrintL _ _ _ _ _ ?_
    have eb : b ++ encB (frmsB (x :: r)) = b ++ encB (frmB x) ++ encB (frmsB r) := by rw [frmsB_cons, encB_append, List.append_assoc]
    have ek : b ++ encB (cnt x.id.toNat) ++ encB (cnt x.fields.length) ++ encB (fldsB x.fields) = b ++ encB (frmB x) := by unfold frmB; simp only [encB_append, List.append_assoc]
    rw [eb, ← h, ← ek]
    simp only [s_sPrintL, OA_asm, List.length_map, h2, decide_true, cond_true, OA_chk, Int.natCast_nonneg, nthE, Int.toNat_natCast, List.getElem?_map, hget, Option.map_some, u_asA, u_asC, u_asI, u_asB, u_asL, u_asOwn, u_asN, OA_call, OA_loop, c1, c2, k, Option.bind_some, nbeq, e1, Nm_beq_self]
theorem frmOK_of {s : Sch} (hs : s.ok) (hr : schS s = true) : s.forms.length ≤ 8 ∧ ∀ f ∈ s.forms, FrmOK f := by
  obtain ⟨h1, h2, h3⟩ := (schS_iff s).1 hr
  refine ⟨h2, fun f hf => ?_⟩
  obtain ⟨a1, a2, _, a4, _⟩ := (fineS_iff f).1 (risingS_all _ _ h3 f hf)
  exact ⟨hs.2 f hf, a1.1, a2.2, fun x hx => ⟨(hs.2 f hf).2 x hx, a4 x hx⟩⟩
theorem frmsB_len : ∀ (l : List Frm), (∀ f ∈ l, FrmOK f) → (frmsB l).length ≤ 340 * l.length
  | [], _ => by simp [frmsB]
  | f :: l, h => by
    have h1 := frmB_len (h f (by simp))
    have h2 := frmsB_len l (fun g hg => h g (by simp [hg]))
    rw [frmsB_cons, List.length_append, List.length_cons]
    omega
theorem schB_len {s : Sch} (hs : s.ok) (hr : schS s = true) : (schB s).length ≤ 4000 := by
  obtain ⟨h1, h2⟩ := frmOK_of hs hr
  obtain ⟨h3, _, _⟩ := (schS_iff s).1 hr
  have h4 := frmsB_len s.forms h2
  have h6 : (cnt s.ver.toNat).length ≤ 10 := cnt_len10 (by omega)
  have h7 : (cnt s.forms.length).length ≤ 10 := cnt_len10 (by omega)
  unfold schB
  simp only [List.length_append]
  omega
theorem c_sPrint (s : Sch) (hs : s.ok) (hm : Sml s) : tbl E0 23 [schV s] [] = some ([.lst .ro 1 (if schS s then encB (schB s) else []), .int .i64 (if schS s then 0 else 2)], []) :=
  t_sPrint s (by
    have c0 := c_sRight s hm
    rcases bor (schS s) with hb | hb
    · obtain ⟨h1, h2⟩ := frmOK_of hs hb
      obtain ⟨h3, _, _⟩ := (schS_iff s).1 hb
      have h6 : (cnt s.ver.toNat).length ≤ 10 := cnt_len10 (by omega)
      have h7 : (cnt s.forms.length).length ≤ 10 := cnt_len10 (by omega)
      have hl := schB_len hs hb
      have c1 := c_PCount [] s.ver 0 (by simp) (by omega)
      have c2 := c_PCount (encB (cnt s.ver.toNat)) s.forms.length 0 (by simp; omega) (by omega)
      rw [if_neg (by omega)] at c1 c2
      simp only [penA, Int.toNat_natCast, List.nil_append] at c1 c2
      have k := c_sPrintL s.forms h1 h2 s.forms 0 (encB (cnt s.ver.toNat) ++ encB (cnt s.forms.length)) 0 rfl (by simp; omega)
      simp only [Int.natCast_zero] at k
      have ek : encB (cnt s.ver.toNat) ++ encB (cnt s.forms.length) ++ encB (frmsB s.forms) = encB (schB s) := by unfold schB; simp only [encB_append]
      rw [ek] at k
      have d := c_PDone (schB s) 0 (by omega)
      simp only [penV, penA, if_true] at d
      simp only [s_sPrint, hb, OA_asm, List.length_map, decide_true, cond_true, cond_false, Bool.not_true, OA_chk, u_asA, u_asC, u_asI, u_asB, u_asL, u_asOwn, u_asN, u_asRef0, OA_call, OA_callx, OA_loop, c0, c_New, c1, c2, k, d, Option.bind_some, nbeq, Nm_beq_self, if_true]
    · simp only [s_sPrint, hb, OA_asm, cond_true, Bool.not_false, OA_chk, u_asC, u_asB, u_asN, OA_callx, c0, Option.bind_some, if_false, Bool.false_eq_true])
theorem c_yPrintK (s : Sch) (f : Frm) (i : Nat) (hl : f.fields.length ≤ 8) (hok : FldsOK f.fields) : ∀ (r : List Fld) (k : Nat) (b : List AV), f.fields.drop k = r → b.length + 40 * r.length + 40 ≤ 140737488355328 →
    ltbl E0 33 0 8 [.lst (.own (.L 3)) 1 b, .int .i64 i, .int .i64 k] [[.int .i64 s.ver, frmsV s.forms], [.int .i64 f.id, fldsV f.fields]] = some (3, [.lst (.own (.L 3)) 1 (b ++ encB (fldsB r)), .int .i64 i], [[.int .i64 s.ver, frmsV s.forms]]) := by
  intro r
  induction r with
  | nil =>
    intro k b hr hb
    have h : f.fields.length ≤ k := by simpa using hr
    refine t_yPrintK _ _ _ _ _ ?_
    have : ¬ ((k : Int) < f.fields.length) := by omega
    simp [s_yPrintK, this, fldsB, encB_nil]
  | cons x r ih =>
    intro k b hr hb
    obtain ⟨hlt, hget, hr2⟩ := drop_c hr
    have h2 : (k : Int) < f.fields.length := by omega
    have e1 := i64_succ (i := k) (by omega)
    obtain ⟨x1, x2⟩ := hok x (mem_drop hr)
    have hx := fldB_len x1 x2
    simp only [List.length_cons] at hb
    have h := ih (k + 1) (b ++ encB (fldB x)) hr2 (by simp; omega)
    have c := r_FieldBytes x x1 x2
    have q : b.length + (fldB x).length ≤ 140737488355328 := by omega
    refine t_yPrintK _ _ _ _ _ ?_
    rw [fldsB_cons, encB_append, ← List.append_assoc, ← h]
    simp only [s_yPrintK, OA_asm, List.length_map, h2, decide_true, cond_true, OA_chk, Int.natCast_nonneg, nthE, Int.toNat_natCast, List.getElem?_map, hget, Option.map_some, u_asA, u_asC, u_asI, u_asB, u_asL, u_asOwn, u_asN, OA_callx, c, Option.bind_some, encB_length, Nat.mul_one, q, nbeq, e1]
theorem c_yPrintL (s : Sch) (hl : s.forms.length ≤ 8) (hok : ∀ f ∈ s.forms, FrmOK f) : ∀ (r : List Frm) (i : Nat) (b : List AV), s.forms.drop i = r → b.length + 400 * r.length + 400 ≤ 140737488355328 →
    ltbl E0 33 0 3 [.lst (.own (.L 3)) 1 b, .int .i64 i] [[.int .i64 s.ver, frmsV s.forms]] = some (1, [.lst (.own (.L 3)) 1 (b ++ encB (frmsB r))], []) := by
  intro r
  induction r with
  | nil =>
    intro i b hr hb
    have h : s.forms.length ≤ i := by simpa using hr
    refine t_yPrintL _ _ _ ?_
    have : ¬ ((i : Int) < s.forms.length) := by omega
    simp [s_yPrintL, this, frmsB, encB_nil]
  | cons x r ih =>
    intro i b hr hb
    obtain ⟨hlt, hget, hr2⟩ := drop_c hr
    have h2 : (i : Int) < s.forms.length := by omega
    have e1 := i64_succ (i := i) (by omega)
    have hx := hok x (mem_drop hr)
    have hxl := frmB_len hx
    obtain ⟨⟨⟨_, _⟩, _⟩, x2, x3, x4⟩ := hx
    have h6 : (cnt x.id.toNat).length ≤ 10 := cnt_len10 (by omega)
    have h7 : (cnt x.fields.length).length ≤ 10 := cnt_len10 (by omega)
    simp only [List.length_cons] at hb
    have h := ih (i + 1) (b ++ encB (frmB x)) hr2 (by simp; omega)
    have w1 : IntKind.u64.wrap x.id = x.id := wrap_u64_id (by omega) (by omega)
    have w2 : IntKind.u64.wrap (x.fields.length : Int) = (x.fields.length : Int) := wrap_u64_id (by omega) (by omega)
    have c1 := r_CountI x.id (by omega) (by omega)
    have c2 := r_Count x.fields.length (by omega)
    have q1 : b.length + (cnt x.id.toNat).length ≤ 140737488355328 := by omega
    have q2 : b.length + (cnt x.id.toNat).length + (cnt x.fields.length).length ≤ 140737488355328 := by omega
    have k := c_yPrintK s x i x3 x4 x.fields 0 (b ++ encB (cnt x.id.toNat) ++ encB (cnt x.fields.length)) rfl (by simp; omega)
    simp only [Int.natCast_zero] at k
    refine t_yPrintL _ _ _ ?_
    have eb : b ++ encB (frmsB (x :: r)) = b ++ encB (frmB x) ++ encB (frmsB r) := by rw [frmsB_cons, encB_append, List.append_assoc]
    have ek : b ++ encB (cnt x.id.toNat) ++ encB (cnt x.fields.length) ++ encB (fldsB x.fields) = b ++ encB (frmB x) := by unfold frmB; simp only [encB_append, List.append_assoc]
    rw [eb, ← h, ← ek]
    simp only [s_yPrintL, OA_asm, List.length_map, h2, decide_true, cond_true, OA_chk, Int.natCast_nonneg, nthE, Int.toNat_natCast, List.getElem?_map, hget, Option.map_some, u_asA, u_asC, u_asI, u_asB, u_asL, u_asOwn, u_asN, OA_call, OA_loop, w1, w2, c1, c2, k, Option.bind_some, List.length_append, encB_length, Nat.mul_one, q1, q2, nbeq, e1, Nm_beq_self]
theorem c_yPrint (s : Sch) (hs : s.ok) (hb : schS s = true) : tbl E0 33 [schV s] [] = some ([.lst .ro 1 (encB (schB s))], []) :=
  t_yPrint s (by
    obtain ⟨h1, h2⟩ := frmOK_of hs hb
    obtain ⟨h3, _, _⟩ := (schS_iff s).1 hb
    have h6 : (cnt s.ver.toNat).length ≤ 10 := cnt_len10 (by omega)
    have h7 : (cnt s.forms.length).length ≤ 10 := cnt_len10 (by omega)
    have w1 : IntKind.u64.wrap s.ver = s.ver := wrap_u64_id (by omega) (by omega)
    have w2 : IntKind.u64.wrap (s.forms.length : Int) = (s.forms.length : Int) := wrap_u64_id (by omega) (by omega)
    have c1 := r_CountI s.ver (by omega) (by omega)
    have c2 := r_Count s.forms.length (by omega)
    have q1 : (cnt s.ver.toNat).length + (cnt s.forms.length).length ≤ 140737488355328 := by omega
    have k := c_yPrintL s h1 h2 s.forms 0 (encB (cnt s.ver.toNat) ++ encB (cnt s.forms.length)) rfl (by simp; omega)
    simp only [Int.natCast_zero] at k
    have ek : encB (cnt s.ver.toNat) ++ encB (cnt s.forms.length) ++ encB (frmsB s.forms) = encB (schB s) := by unfold schB; simp only [encB_append]
    rw [ek] at k
    simp only [s_yPrint, OA_asm, List.length_map, decide_true, cond_true, OA_chk, u_asC, u_asI, u_asB, u_asL, u_asOwn, u_asN, OA_call, OA_loop, w1, w2, c1, c2, k, Option.bind_some, encB_length, Nat.mul_one, q1, nbeq, Nm_beq_self])
end Go.Proofs.YtmpfeofeokmooaaGreat.V
namespace Go.Proofs.YtmpfeofeokmooaaGreat.V
open Go
theorem c_sParseK (l : List Frm) (v w n i : Int) : ∀ (j k : Nat) (fs : List Fld) (b : List UInt8) (e : Int), b.length ≤ 140737488355328 → fs.length + j ≤ 1000 → k + j ≤ 1000 →
    ltbl E0 39 0 7 [.int .i64 n, .int .i64 i, .int .i64 ((k + j : Nat) : Int), .int .i64 k] [[.int .i64 0, .lst .ro 2 []], [.int .i64 v, .lst (.own (.O 1005 1)) 2 (l.map frmV)], [.int .i64 w, .lst (.own (.O 1006 1)) 5 (fs.map fldV)], [.lst .ro 1 (encB b), .int .i64 e]] =
      some (3, [.int .i64 n, .int .i64 i], [[.int .i64 0, .lst .ro 2 []], [.int .i64 v, .lst (.own (.O 1005 1)) 2 (l.map frmV)], [.int .i64 w, .lst (.own (.O 1006 1)) 5 ((fs ++ (tkFlds j (b, e)).1).map fldV)], [.lst .ro 1 (encB (tkFlds j (b, e)).2.1), .int .i64 (tkFlds j (b, e)).2.2]]) := by
  intro j
  induction j with
  | zero =>
    intro k fs b e hb hf hk
    refine t_sParseK _ _ _ _ _ _ _ _ _ _ ?_
    have : ¬ ((k : Int) < ((k + 0 : Nat) : Int)) := by omega
    simp only [s_sParseK, this, decide_false, cond_false, tkFlds, List.append_nil]
  | succ j ih =>
    intro k fs b e hb hf hk
    have h2 : (k : Int) < ((k + (j + 1) : Nat) : Int) := by omega
    have e1 := i64_succ (i := k) (by omega)
    have hl := tkFld_len (b, e)
    have h := ih (k + 1) (fs ++ [(tkFld (b, e)).1]) (tkFld (b, e)).2.1 (tkFld (b, e)).2.2 (Nat.le_trans hl hb) (by simp; omega) (by omega)
    have c := c_sread b e hb
    simp only [eyeV] at c
    rw [show k + 1 + j = k + (j + 1) by omega] at h
    simp only [List.map_append, List.map_cons, List.map_nil, List.append_assoc, List.singleton_append] at h
    refine t_sParseK _ _ _ _ _ _ _ _ _ _ ?_
    have q : (fs.length + 1) * 40 ≤ 140737488355328 := by omega
    simp only [tkFlds, List.map_append, List.map_cons]
    rw [← h]
    simp only [s_sParseK, h2, decide_true, cond_true, OA_both_id, OA_chk, u_asA, u_asC, u_asI, u_asB, u_asL, u_asOwn, u_asN, OA_call, c, Option.bind_some, List.length_map, List.length_cons, List.length_nil, Nat.zero_add, q, nbeq, e1]
theorem c_sParseL (v : Int) : ∀ (j i : Nat) (l : List Frm) (b : List UInt8) (e : Int), b.length ≤ 140737488355328 → l.length + j ≤ 1000 → i + j ≤ 1000 →
    ltbl E0 39 0 4 [.int .i64 ((i + j : Nat) : Int), .int .i64 i] [[.int .i64 0, .lst .ro 2 []], [.int .i64 v, .lst (.own (.O 1005 1)) 2 (l.map frmV)], [.lst .ro 1 (encB b), .int .i64 e]] =
      some (1, [], [[.int .i64 0, .lst .ro 2 []], [.int .i64 v, .lst (.own (.O 1005 1)) 2 ((l ++ (tkFrms j (b, e)).1).map frmV)], [.lst .ro 1 (encB (tkFrms j (b, e)).2.1), .int .i64 (tkFrms j (b, e)).2.2]]) := by
  intro j
  induction j with
  | zero =>
    intro i l b e hb hf hk
    refine t_sParseL _ _ _ _ _ _ ?_
    have : ¬ ((i : Int) < ((i + 0 : Nat) : Int)) := by omega
    simp only [s_sParseL, this, decide_false, cond_false, tkFrms, List.append_nil, List.map_nil]
  | succ j ih =>
    intro i l b e hb hf hk
    have h2 : (i : Int) < ((i + (j + 1) : Nat) : Int) := by omega
    have e1 := i64_succ (i := i) (by omega)
    have hl := tkFrm_len (b, e)
    have h := ih (i + 1) (l ++ [(tkFrm (b, e)).1]) (tkFrm (b, e)).2.1 (tkFrm (b, e)).2.2 (Nat.le_trans hl hb) (by simp; omega) (by omega)
    have l1 := countS_len b e 200
    have l2 := countS_nonneg (countS b e 200).2.1 (countS b e 200).2.2 8
    have l3 := countS_le (countS b e 200).2.1 (countS b e 200).2.2 8
    have l4 := countS_len (countS b e 200).2.1 (countS b e 200).2.2 8
    have c1 := c_ECount b e 200 hb
    have c2 := c_ECount (countS b e 200).2.1 (countS b e 200).2.2 8 (by omega)
    have k := c_sParseK l v (countS b e 200).1 ((i + (j + 1) : Nat) : Int) (i : Int) (countS (countS b e 200).2.1 (countS b e 200).2.2 8).1.toNat 0 [] (countS (countS b e 200).2.1 (countS b e 200).2.2 8).2.1 (countS (countS b e 200).2.1 (countS b e 200).2.2 8).2.2 (by omega) (by simp; omega) (by omega)
    rw [Nat.zero_add, Int.toNat_of_nonneg l2] at k
    simp only [Int.natCast_zero, List.map_nil, List.nil_append] at k
    simp only [eyeV] at c1 c2
    rw [show i + 1 + j = i + (j + 1) by omega] at h
    simp only [List.map_append, List.map_cons, List.map_nil, List.append_assoc, List.singleton_append] at h
    refine t_sParseL _ _ _ _ _ _ ?_
    have q : (l.length + 1) * 32 ≤ 140737488355328 := by omega
    simp only [tkFrms, List.map_append, List.map_cons, List.map_nil]
    rw [← h]
    simp only [s_sParseL, h2, decide_true, cond_true, OA_chk, u_asA, u_asC, u_asI, u_asB, u_asL, u_asOwn, u_asN, OA_call, OA_loop, c1, c2, k, Option.bind_some, List.length_map, List.length_cons, List.length_nil, Nat.zero_add, q, nbeq, Nm_beq_self, e1, tkFrm]
theorem tkFrm_small (q : St) : (tkFrm q).1.fields.length ≤ 8 := by
  have l3 := countS_le (countS q.1 q.2 200).2.1 (countS q.1 q.2 200).2.2 8
  simp only [tkFrm, tkFlds_n]
  omega
theorem tkFrms_small : ∀ (n : Nat) (q : St), ∀ f ∈ (tkFrms n q).1, f.fields.length ≤ 8
  | 0, q, f, h => by cases h
  | n + 1, q, f, h => by
    simp only [tkFrms, List.mem_cons] at h
    rcases h with rfl | h
    · exact tkFrm_small q
    · exact tkFrms_small n _ f h
theorem tkSch_small (b : List UInt8) : (tkSch b).1.forms.length ≤ 8 ∧ ∀ f ∈ (tkSch b).1.forms, f.fields.length ≤ 8 := by
  have l3 := countS_le (countS b 0 65535).2.1 (countS b 0 65535).2.2 8
  refine ⟨?_, fun f hf => tkFrms_small _ _ f hf⟩
  simp only [tkSch, tkFrms_n]
  omega
theorem tkSch_sml (b : List UInt8) : Sml (tkSch b).1 := ⟨by have := (tkSch_small b).1; omega, fun f hf => by have := (tkSch_small b).2 f hf; omega⟩
theorem c_sParse (b : List UInt8) (hb : b.length ≤ 140737488355328) : tbl E0 39 [.lst .ro 1 (encB b)] [] = some ([schV (parS b).1, .int .i64 (parS b).2], []) :=
  t_sParse b (by
    have l1 := countS_len b 0 65535
    have l2 := countS_nonneg (countS b 0 65535).2.1 (countS b 0 65535).2.2 8
    have l3 := countS_le (countS b 0 65535).2.1 (countS b 0 65535).2.2 8
    have l4 := countS_len (countS b 0 65535).2.1 (countS b 0 65535).2.2 8
    have c0 := c_Of b hb
    have c1 := c_ECount b 0 65535 hb
    have c2 := c_ECount (countS b 0 65535).2.1 (countS b 0 65535).2.2 8 (by omega)
    simp only [eyeV] at c1 c2
    have k := c_sParseL (countS b 0 65535).1 (countS (countS b 0 65535).2.1 (countS b 0 65535).2.2 8).1.toNat 0 [] (countS (countS b 0 65535).2.1 (countS b 0 65535).2.2 8).2.1 (countS (countS b 0 65535).2.1 (countS b 0 65535).2.2 8).2.2 (by omega) (by simp; omega) (by omega)
    rw [Nat.zero_add, Int.toNat_of_nonneg l2] at k
    simp only [Int.natCast_zero, List.map_nil, List.nil_append] at k
    have d := c_End (tkSch b).2.1 (tkSch b).2.2
    simp only [eyeV] at d
    have r := c_sRight (tkSch b).1 (tkSch_sml b)
    obtain ⟨en, hen⟩ : ∃ en, endS (tkSch b).2.1 (tkSch b).2.2 = en := ⟨_, rfl⟩
    obtain ⟨q, hq⟩ : ∃ q, schS (tkSch b).1 = q := ⟨_, rfl⟩
    unfold parS
    simp only [hen, hq] at d r ⊢
    simp only [tkSch] at d r ⊢
    simp only [s_sParse, OA_chk, cond_true, u_asA, u_asC, u_asI, u_asB, u_asL, u_asOwn, u_asN, u_asRef0, OA_call, OA_callx, OA_loop, c0, c1, c2, k, d, Option.bind_some, nbeq, decide_true, Nm_beq_self]
    by_cases he : en = 0
    · subst he
      rcases bor q with h | h
      · subst h
        simp [r]
      · subst h
        simp [r]
    · simp [he])
end Go.Proofs.YtmpfeofeokmooaaGreat.V
namespace Go.Proofs.YtmpfeofeokmooaaGreat.V
open Go
theorem r_yParseK (l : List Frm) (v w n i : Int) : ∀ (j k : Nat) (fs : List Fld) (b : List UInt8) (e : Int), b.length ≤ 140737488355328 → fs.length + j ≤ 1000 → k + j ≤ 1000 →
    ltbl E0 44 0 10 [.int .i64 n, .int .i64 i, .int .i64 ((k + j : Nat) : Int), .int .i64 k] [[.int .i64 0, .lst .ro 2 []], [.int .i64 v, .lst (.own (.O 1005 1)) 2 (l.map frmV)], [.int .i64 w, .lst (.own (.O 1008 1)) 5 (fs.map fldV)], [.lst .ro 1 (encB b), .int .i64 e]] =
      some (3, [.int .i64 n, .int .i64 i], [[.int .i64 0, .lst .ro 2 []], [.int .i64 v, .lst (.own (.O 1005 1)) 2 (l.map frmV)], [.int .i64 w, .lst (.own (.O 1008 1)) 5 ((fs ++ (tkFlds j (b, e)).1).map fldV)], [.lst .ro 1 (encB (tkFlds j (b, e)).2.1), .int .i64 (tkFlds j (b, e)).2.2]]) := by
  intro j
  induction j with
  | zero =>
    intro k fs b e hb hf hk
    refine t_yParseK _ _ _ _ _ _ _ _ _ _ ?_
    have : ¬ ((k : Int) < ((k + 0 : Nat) : Int)) := by omega
    simp only [s_yParseK, this, decide_false, cond_false, tkFlds, List.append_nil]
  | succ j ih =>
    intro k fs b e hb hf hk
    have h2 : (k : Int) < ((k + (j + 1) : Nat) : Int) := by omega
    have e1 := i64_succ (i := k) (by omega)
    have hl := tkFld_len (b, e)
    have h := ih (k + 1) (fs ++ [(tkFld (b, e)).1]) (tkFld (b, e)).2.1 (tkFld (b, e)).2.2 (Nat.le_trans hl hb) (by simp; omega) (by omega)
    have c := r_TakeField b e hb
    simp only [eyeV] at c
    rw [show k + 1 + j = k + (j + 1) by omega] at h
    simp only [List.map_append, List.map_cons, List.map_nil, List.append_assoc, List.singleton_append] at h
    refine t_yParseK _ _ _ _ _ _ _ _ _ _ ?_
    have q : (fs.length + 1) * 40 ≤ 140737488355328 := by omega
    simp only [tkFlds, List.map_append, List.map_cons]
    rw [← h]
    simp only [s_yParseK, h2, decide_true, cond_true, OA_both_id, OA_chk, u_asA, u_asC, u_asI, u_asB, u_asL, u_asOwn, u_asN, OA_call, c, Option.bind_some, List.length_map, List.length_cons, List.length_nil, Nat.zero_add, q, nbeq, e1]
theorem r_yParseL (v : Int) : ∀ (j i : Nat) (l : List Frm) (b : List UInt8) (e : Int), b.length ≤ 140737488355328 → l.length + j ≤ 1000 → i + j ≤ 1000 →
    ltbl E0 44 0 5 [.int .i64 ((i + j : Nat) : Int), .int .i64 i] [[.int .i64 0, .lst .ro 2 []], [.int .i64 v, .lst (.own (.O 1005 1)) 2 (l.map frmV)], [.lst .ro 1 (encB b), .int .i64 e]] =
      some (1, [], [[.int .i64 0, .lst .ro 2 []], [.int .i64 v, .lst (.own (.O 1005 1)) 2 ((l ++ (tkFrms j (b, e)).1).map frmV)], [.lst .ro 1 (encB (tkFrms j (b, e)).2.1), .int .i64 (tkFrms j (b, e)).2.2]]) := by
  intro j
  induction j with
  | zero =>
    intro i l b e hb hf hk
    refine t_yParseL _ _ _ _ _ _ ?_
    have : ¬ ((i : Int) < ((i + 0 : Nat) : Int)) := by omega
    simp only [s_yParseL, this, decide_false, cond_false, tkFrms, List.append_nil, List.map_nil]
  | succ j ih =>
    intro i l b e hb hf hk
    have h2 : (i : Int) < ((i + (j + 1) : Nat) : Int) := by omega
    have e1 := i64_succ (i := i) (by omega)
    have hl := tkFrm_len (b, e)
    have h := ih (i + 1) (l ++ [(tkFrm (b, e)).1]) (tkFrm (b, e)).2.1 (tkFrm (b, e)).2.2 (Nat.le_trans hl hb) (by simp; omega) (by omega)
    have l1 := countS_len b e 200
    have l2 := countS_nonneg (countS b e 200).2.1 (countS b e 200).2.2 8
    have l3 := countS_le (countS b e 200).2.1 (countS b e 200).2.2 8
    have l4 := countS_len (countS b e 200).2.1 (countS b e 200).2.2 8
    have c1 := r_ECount b e 200 hb
    have c2 := r_ECount (countS b e 200).2.1 (countS b e 200).2.2 8 (by omega)
    have k := r_yParseK l v (countS b e 200).1 ((i + (j + 1) : Nat) : Int) (i : Int) (countS (countS b e 200).2.1 (countS b e 200).2.2 8).1.toNat 0 [] (countS (countS b e 200).2.1 (countS b e 200).2.2 8).2.1 (countS (countS b e 200).2.1 (countS b e 200).2.2 8).2.2 (by omega) (by simp; omega) (by omega)
    rw [Nat.zero_add, Int.toNat_of_nonneg l2] at k
    simp only [Int.natCast_zero, List.map_nil, List.nil_append] at k
    simp only [eyeV] at c1 c2
    rw [show i + 1 + j = i + (j + 1) by omega] at h
    simp only [List.map_append, List.map_cons, List.map_nil, List.append_assoc, List.singleton_append] at h
    refine t_yParseL _ _ _ _ _ _ ?_
    have q : (l.length + 1) * 32 ≤ 140737488355328 := by omega
    simp only [tkFrms, List.map_append, List.map_cons, List.map_nil]
    rw [← h]
    simp only [s_yParseL, h2, decide_true, cond_true, OA_chk, u_asA, u_asC, u_asI, u_asB, u_asL, u_asOwn, u_asN, OA_call, OA_loop, c1, c2, k, Option.bind_some, List.length_map, List.length_cons, List.length_nil, Nat.zero_add, q, nbeq, Nm_beq_self, e1, tkFrm]
theorem r_yParse (b : List UInt8) (hb : b.length ≤ 140737488355328) : tbl E0 44 [.lst .ro 1 (encB b)] [] = some ([schV (parS b).1, .int .i64 (parS b).2], []) :=
  t_yParse b (by
    have l1 := countS_len b 0 65535
    have l2 := countS_nonneg (countS b 0 65535).2.1 (countS b 0 65535).2.2 8
    have l3 := countS_le (countS b 0 65535).2.1 (countS b 0 65535).2.2 8
    have l4 := countS_len (countS b 0 65535).2.1 (countS b 0 65535).2.2 8
    have c1 := r_ECount b 0 65535 hb
    have c2 := r_ECount (countS b 0 65535).2.1 (countS b 0 65535).2.2 8 (by omega)
    simp only [eyeV] at c1 c2
    have k := r_yParseL (countS b 0 65535).1 (countS (countS b 0 65535).2.1 (countS b 0 65535).2.2 8).1.toNat 0 [] (countS (countS b 0 65535).2.1 (countS b 0 65535).2.2 8).2.1 (countS (countS b 0 65535).2.1 (countS b 0 65535).2.2 8).2.2 (by omega) (by simp; omega) (by omega)
    rw [Nat.zero_add, Int.toNat_of_nonneg l2] at k
    simp only [Int.natCast_zero, List.map_nil, List.nil_append] at k
    have d := r_EEnd (tkSch b).2.1 (tkSch b).2.2
    simp only [eyeV] at d
    have r := c_ysRight (tkSch b).1 (tkSch_sml b)
    obtain ⟨en, hen⟩ : ∃ en, endS (tkSch b).2.1 (tkSch b).2.2 = en := ⟨_, rfl⟩
    obtain ⟨q, hq⟩ : ∃ q, schS (tkSch b).1 = q := ⟨_, rfl⟩
    unfold parS
    simp only [hen, hq] at d r ⊢
    simp only [tkSch] at d r ⊢
    simp only [s_yParse, OA_chk, cond_true, u_asA, u_asC, u_asI, u_asB, u_asL, u_asOwn, u_asN, u_asRef0, OA_call, OA_callx, OA_loop, c1, c2, k, d, Option.bind_some, nbeq, decide_true, Nm_beq_self]
    by_cases he : en = 0
    · subst he
      rcases bor q with h | h
      · subst h
        simp [r]
      · subst h
        simp [r]
    · simp [he])
end Go.Proofs.YtmpfeofeokmooaaGreat.V
namespace Go.Proofs.YtmpfeofeokmooaaGreat.V
open Go
theorem parS_sml (b : List UInt8) : Sml (parS b).1 := by
  unfold parS
  split
  · exact ⟨by simp, fun f hf => by simp at hf⟩
  · split
    · exact tkSch_sml b
    · exact ⟨by simp, fun f hf => by simp at hf⟩
theorem tkFld_ok (q : St) : (tkFld q).1.ok := by
  have a1 := countS_nonneg q.1 q.2 255
  have a2 := countS_le q.1 q.2 255
  have b1 := countS_nonneg (countS q.1 q.2 255).2.1 (countS q.1 q.2 255).2.2 4
  have b2 := countS_le (countS q.1 q.2 255).2.1 (countS q.1 q.2 255).2.2 4
  have z : i64 0 := by unfold i64; omega
  have u : ∀ b e, i64 (numS b e).1 := fun b e => unz_range (grpS_bound b e)
  have c : ∀ b e m, m ≤ 70000 → i64 (countS b e m).1 := fun b e m hm => by
    have h1 := countS_nonneg b e m
    have h2 := countS_le b e m
    unfold i64; omega
  unfold tkFld
  split
  · exact ⟨c _ _ _ (by omega), c _ _ _ (by omega), u _ _, u _ _, z⟩
  · split
    · exact ⟨c _ _ _ (by omega), c _ _ _ (by omega), z, z, c _ _ _ (by omega)⟩
    · exact ⟨c _ _ _ (by omega), c _ _ _ (by omega), z, z, z⟩
theorem tkFlds_ok : ∀ (n : Nat) (q : St), ∀ f ∈ (tkFlds n q).1, f.ok
  | 0, q, f, h => by cases h
  | n + 1, q, f, h => by
    simp only [tkFlds, List.mem_cons] at h
    rcases h with rfl | h
    · exact tkFld_ok q
    · exact tkFlds_ok n _ f h
theorem i64_countS (b : List UInt8) (e m : Int) (hm : m ≤ 70000) : i64 (countS b e m).1 := by
  have h1 := countS_nonneg b e m
  have h2 := countS_le b e m
  unfold i64; omega
theorem tkFrms_ok : ∀ (n : Nat) (q : St), ∀ f ∈ (tkFrms n q).1, f.ok
  | 0, q, f, h => by cases h
  | n + 1, q, f, h => by
    simp only [tkFrms, List.mem_cons] at h
    rcases h with rfl | h
    · exact ⟨i64_countS _ _ _ (by omega), tkFlds_ok _ _⟩
    · exact tkFrms_ok n _ f h
theorem parS_ok (b : List UInt8) : (parS b).1.ok := by
  have z : i64 0 := by unfold i64; omega
  unfold parS
  split
  · exact ⟨z, fun f hf => by simp at hf⟩
  · split
    · exact ⟨i64_countS _ _ _ (by omega), tkFrms_ok _ _⟩
    · exact ⟨z, fun f hf => by simp at hf⟩
end Go.Proofs.YtmpfeofeokmooaaGreat.V
namespace Go.Proofs.YtmpfeofeokmooaaGreat.V
open Go
set_option maxRecDepth 20000 in
theorem c_tuses (op : Int) : tbl E0 59 [.int .i64 op] [] = some ([intsV (usesS op)], []) := by
  refine op_all (p := fun op => tbl E0 59 [.int .i64 op] [] = some ([intsV (usesS op)], [])) op ?_ ?_
  · intro o ho
    simp only [opsL, List.mem_cons, List.not_mem_nil, or_false] at ho
    rcases ho with rfl | rfl | rfl | rfl | rfl | rfl | rfl | rfl | rfl | rfl | rfl | rfl | rfl | rfl | rfl | rfl | rfl | rfl | rfl | rfl <;> exact tbl_iff.2 ⟨12, by kernel_rfl⟩
  · intro h hu
    simp only [opsL, List.mem_cons, List.not_mem_nil, or_false, not_or] at h
    obtain ⟨h1, h2, h3, h4, h5, h6, h7, h8, h9, h10, h11, h12, h13, h14, h15, h16, h17, h18, h19, h20⟩ := h
    have cB : ltbl E0 59 0 1000009 [.int .i64 op, .bool false] [] = some (50001, [], []) := t_tusesB op false (by simp [s_tusesB, h1, h2, h3, h4, h5, h6, h7, h8, h9, h10, h11, h12, h13, h14, h15, h16, h17, h18, h19, h20])
    have cA : ltbl E0 59 0 1000004 [.int .i64 op, .bool false] [] = some (50001, [], []) := t_tusesA op false (by
      have : (op == 23) = false := beq_f h13
      simp [s_tusesA, h1, h2, h3, this, cB])
    have : (op == 22) = false := beq_f h12
    exact t_tuses op (by simp [s_tuses, h1, this, cA, hu])
set_option maxRecDepth 20000 in
theorem c_yuses (op : Int) : ∃ s : List UInt8, tbl E0 92 [.int .i64 op] [] = some ([.str s], []) ∧ s = (usesS op).map (fun p => if p = 0 then 102 else if p = 1 then 100 else if p = 2 then 112 else if p = 3 then 116 else if p = 4 then 97 else if p = 5 then 98 else if p = 6 then 70 else if p = 7 then 86 else if p = 8 then 84 else 76) := by
  refine ⟨_, ?_, rfl⟩
  refine op_all (p := fun op => tbl E0 92 [.int .i64 op] [] = some ([.str ((usesS op).map (fun p => if p = 0 then 102 else if p = 1 then 100 else if p = 2 then 112 else if p = 3 then 116 else if p = 4 then 97 else if p = 5 then 98 else if p = 6 then 70 else if p = 7 then 86 else if p = 8 then 84 else 76))], [])) op ?_ ?_
  · intro o ho
    simp only [opsL, List.mem_cons, List.not_mem_nil, or_false] at ho
    rcases ho with rfl | rfl | rfl | rfl | rfl | rfl | rfl | rfl | rfl | rfl | rfl | rfl | rfl | rfl | rfl | rfl | rfl | rfl | rfl | rfl <;> exact tbl_iff.2 ⟨12, by kernel_rfl⟩
  · intro h hu
    simp only [opsL, List.mem_cons, List.not_mem_nil, or_false, not_or] at h
    obtain ⟨h1, h2, h3, h4, h5, h6, h7, h8, h9, h10, h11, h12, h13, h14, h15, h16, h17, h18, h19, h20⟩ := h
    have cB : ltbl E0 92 0 1000009 [.int .i64 op, .bool false] [] = some (50001, [], []) := t_yusesB op false (by simp [s_yusesB, h1, h2, h3, h4, h5, h6, h7, h8, h9, h10, h11, h12, h13, h14, h15, h16, h17, h18, h19, h20])
    have cA : ltbl E0 92 0 1000004 [.int .i64 op, .bool false] [] = some (50001, [], []) := t_yusesA op false (by
      have : (op == 23) = false := beq_f h13
      simp [s_yusesA, h1, h2, h3, this, cB])
    have : (op == 22) = false := beq_f h12
    exact t_yuses op (by simp [s_yuses, h1, this, cA, hu])
theorem c_tin (n lo hi : Int) : tbl E0 107 [.int .i64 n, .int .i64 lo, .int .i64 hi] [] = some ([.bool (inS n lo hi)], []) := t_tin n lo hi (by
  by_cases h : lo ≤ n <;> simp [s_tin, inS, h])
theorem c_ybetween (n lo hi : Int) : tbl E0 94 [.int .i64 n, .int .i64 lo, .int .i64 hi] [] = some ([.bool (inS n lo hi)], []) := t_ybetween n lo hi (by
  by_cases h : lo ≤ n <;> simp [s_ybetween, inS, h])
theorem c_fboundsG (f : Fld) : ∃ hi, tbl E0 116 [fldV f] [] = some ([.int .i64 (loS f), .int .i64 hi], []) ∧ (rgtS f = true → hi = hiS f) := by
  by_cases h : f.kind = 3 → rgtS f = true
  · exact ⟨_, c_fbounds f h, fun _ => rfl⟩
  · rw [Classical.not_imp] at h
    refine ⟨_, t_fbounds f (by simp [s_fbounds, h.1, loS]; rfl), fun hr => absurd hr h.2⟩
theorem c_fHas (f : Fld) (n : Int) (s : List UInt8) : tbl E0 108 [fldV f, .agg [.int .i64 n, .str s]] [] = some ([.bool (hasV f n s)], []) := by
  obtain ⟨hi, hb, hh⟩ := c_fboundsG f
  have c := c_fRight f
  refine t_fHas f n s ?_
  simp only [s_fHas, OA_chk, cond_true, OA_callx, hb, c, Option.bind_some, u_asC, u_asI, u_asB, u_asN, OA_join, OA_asm, hasV, longestS, inS]
  by_cases hr : rgtS f = true
  · have := hh hr
    subst this
    by_cases k : f.kind = 4 <;> by_cases a : loS f ≤ n <;> by_cases b : n ≤ hiS f <;> simp [hr, k, a, b]
  · have hr : rgtS f = false := by simpa using hr
    by_cases k : f.kind = 4 <;> simp [hr, k]
theorem c_yHas (f : Fld) (n : Int) (s : List UInt8) : tbl E0 97 [fldV f, .agg [.int .i64 n, .str s]] [] = some ([.bool (hasV f n s)], []) := by
  obtain ⟨lo, hi, most, hb, hh⟩ := c_ySpan f
  refine t_yHas f n s ?_
  simp only [s_yHas, OA_chk, cond_true, OA_callx, hb, Option.bind_some, u_asC, u_asI, u_asB, u_asN, OA_join, OA_asm, hasV, longestS, inS]
  by_cases hr : rgtS f = true
  · obtain ⟨rfl, rfl, rfl⟩ := hh hr
    by_cases k : f.kind = 4 <;> by_cases a : loS f ≤ n <;> by_cases b : n ≤ hiS f <;> simp [hr, k, a, b]
  · have hr : rgtS f = false := by simpa using hr
    simp [hr]
theorem c_EqualIL (a b : List Int) (hl : a.length ≤ 140737488355328) (hab : a.length = b.length) : ∀ (r r' : List Int) (i : Nat), a.drop i = r → b.drop i = r' →
    ltbl E0 110 0 4 [intsV a, intsV b, .int .i64 a.length, .int .i64 i] [] = some (if r = r' then (1, [], []) else (0, [.bool false], [])) := by
  intro r
  induction r with
  | nil =>
    intro r' i hr hr'
    have h : a.length ≤ i := by simpa using hr
    have : r' = [] := by rw [← hr']; simp; omega
    subst this
    refine t_EqualIL _ _ _ _ ?_
    have : ¬ ((i : Int) < a.length) := by omega
    simp [s_EqualIL, this]
  | cons x r ih =>
    intro r' i hr hr'
    obtain ⟨hlt, hget, hr2⟩ := drop_c hr
    cases r' with
    | nil => simp at hr'; omega
    | cons y r' =>
      obtain ⟨_, hget', hr2'⟩ := drop_c hr'
      have h2 : (i : Int) < a.length := by omega
      have e1 := i64_succ (i := i) (by omega)
      have h := ih r' (i + 1) hr2 hr2'
      refine t_EqualIL _ _ _ _ ?_
      simp only [s_EqualIL, OA_asm, List.length_map, h2, decide_true, cond_true, OA_chk, Int.natCast_nonneg, nthE, Int.toNat_natCast, List.getElem?_map, hget, hget', Option.map_some, u_asA, u_asC, u_asI, u_asB, u_asL, u_asN, e1, h]
      by_cases e : x = y
      · simp [e]
      · simp [e]
theorem c_EqualI (a b : List Int) (h : a.length ≤ 140737488355328) : tbl E0 110 [intsV a, intsV b] [] = some ([.bool (decide (a = b))], []) :=
  t_EqualI a b (by
    simp only [s_EqualI, OA_asm, List.length_map, OA_loop]
    by_cases hab : a.length = b.length
    · have e := c_EqualIL a b h hab a b 0 rfl rfl
      simp only [Int.natCast_zero] at e
      have h' : ((a.length : Int) != (b.length : Int)) = false := by rw [hab]; simp
      rw [h', cond_false, e]
      by_cases e2 : a = b <;> simp [e2]
    · have : ¬ (a = b) := fun e => hab (by rw [e])
      have h' : ((a.length : Int) != (b.length : Int)) = true := bne_t (by omega)
      rw [h']
      simp [this])
def freshI (below : Int) : List Bool → List Int → Bool
  | _, [] => true
  | s, n :: l => inS n 0 (below - 1) && !((s[n.toNat]?).getD false) && freshI below (s.set n.toNat true) l
theorem c_tapartL (l : List Int) (below : Int) (hb : 1 ≤ below ∧ below ≤ 1000) (hl : l.length ≤ 140737488355328) : ∀ (r : List Int) (i : Nat) (s : List Bool), l.drop i = r → s.length = 1000 →
    ltbl E0 109 0 3 [intsV l, .int .i64 below, intsV l, .int .i64 l.length, .int .i64 i] [s.map AV.bool] = some (if freshI below s r then (1, [intsV l], []) else (0, [.bool false], [])) := by
  intro r
  induction r with
  | nil =>
    intro i s hr hs
    have h : l.length ≤ i := by simpa using hr
    refine t_tapartL _ _ _ _ _ ?_
    have : ¬ ((i : Int) < l.length) := by omega
    simp [s_tapartL, this, freshI]
  | cons f r ih =>
    intro i s hr hs
    obtain ⟨hlt, hget, hr2⟩ := drop_c hr
    have h2 : (i : Int) < l.length := by omega
    have e1 := i64_succ (i := i) (by omega)
    have h := ih (i + 1) (s.set f.toNat true) hr2 (by simpa using hs)
    have w : IntKind.i64.wrap (below - 1) = below - 1 := wrap_i64 _ (by omega) (by omega)
    have c := c_tin f 0 (below - 1)
    refine t_tapartL _ _ _ _ _ ?_
    simp only [s_tapartL, h2, decide_true, cond_true, OA_chk, Int.natCast_nonneg, nthE, Int.toNat_natCast, List.getElem?_map, hget, Option.map_some, u_asA, u_asC, u_asI, u_asB, u_asN, OA_callx, OA_join, w, c, Option.bind_some, e1, freshI]
    by_cases hg : inS f 0 (below - 1) = true
    · have rr : 0 ≤ f ∧ f ≤ below - 1 := by simpa [inS] using hg
      have hk : f.toNat < s.length := by omega
      have g : s[f.toNat]? = some s[f.toNat] := List.getElem?_eq_getElem hk
      have a1 : 0 ≤ f := rr.1
      have a2 : f < ((1000 : Nat) : Int) := by omega
      have a3 : 0 + f.toNat * 1 = f.toNat := by omega
      have a4 : (f.toNat + 1).ble (List.map AV.bool s).length = true := by rw [Nat.ble_eq, List.length_map]; omega
      simp only [hg, a1, a2, a3, a4, decide_true, Bool.and_self, cond_true, g, Option.map_some, u_asB, Bool.not_true, cond_false, Option.bind_some, Tok.untok_tok, setAt_bool, all_flat_bool, h, Option.getD_some, Bool.true_and]
      by_cases hb : s[f.toNat] = true
      · simp [hb]
      · have hb : s[f.toNat] = false := by simpa using hb
        simp [hb]
    · have hg : inS f 0 (below - 1) = false := by simpa using hg
      simp [hg]
theorem freshI_iff (below : Int) (hb : below ≤ 1000) : ∀ (l : List Int) (s : List Bool), s.length = 1000 → (freshI below s l = true ↔ (∀ n ∈ l, inS n 0 (below - 1) = true ∧ s[n.toNat]? = some false) ∧ nodupI l = true)
  | [], s, _ => by simp [freshI, nodupI]
  | f :: l, s, hs => by
    have ih := freshI_iff below hb l (s.set f.toNat true) (by simpa using hs)
    simp only [freshI, Bool.and_eq_true, ih, nodupI, Bool.not_eq_true', List.mem_cons, forall_eq_or_imp]
    have rng : ∀ {n : Int}, inS n 0 (below - 1) = true → 0 ≤ n ∧ n < 1000 := fun {n} h => by
      have : 0 ≤ n ∧ n ≤ below - 1 := by simpa [inS] using h
      omega
    have key : inS f 0 (below - 1) = true → ((s[f.toNat]?).getD false = false ↔ s[f.toNat]? = some false) := by
      intro hg
      have rr := rng hg
      have hk : f.toNat < s.length := by omega
      rw [List.getElem?_eq_getElem hk]
      simp
    have key2 : inS f 0 (below - 1) = true → ∀ g, inS g 0 (below - 1) = true → ((s.set f.toNat true)[g.toNat]? = some false ↔ (s[g.toNat]? = some false ∧ g ≠ f)) := by
      intro hg g hgg
      have r1 := rng hg
      have r2 := rng hgg
      rw [List.getElem?_set]
      by_cases e : f.toNat = g.toNat
      · have e' : g = f := by omega
        rw [if_pos e, if_pos (by omega)]
        simp [e']
      · have e' : g ≠ f := by omega
        rw [if_neg e]
        simp [e']
    constructor
    · rintro ⟨⟨h1, h2⟩, h3, h4⟩
      refine ⟨⟨⟨h1, (key h1).1 h2⟩, fun g hg => ⟨(h3 g hg).1, ((key2 h1 g (h3 g hg).1).1 (h3 g hg).2).1⟩⟩, ?_, h4⟩
      simp only [List.any_eq_false, beq_iff_eq]
      intro g hg
      exact ((key2 h1 g (h3 g hg).1).1 (h3 g hg).2).2
    · rintro ⟨⟨⟨h1, h2⟩, h3⟩, h4, h5⟩
      refine ⟨⟨h1, (key h1).2 h2⟩, fun g hg => ⟨(h3 g hg).1, (key2 h1 g (h3 g hg).1).2 ⟨(h3 g hg).2, ?_⟩⟩, h5⟩
      simp only [List.any_eq_false, beq_iff_eq] at h4
      exact h4 g hg
theorem freshI_0 (below : Int) (hb : below ≤ 1000) (l : List Int) : freshI below (List.replicate 1000 false) l = ((l.all fun n => inS n 0 (below - 1)) && nodupI l) := by
  rw [Bool.eq_iff_iff, freshI_iff _ hb _ _ List.length_replicate]
  simp only [Bool.and_eq_true, List.all_eq_true]
  constructor
  · rintro ⟨h1, h2⟩; exact ⟨fun f hf => (h1 f hf).1, h2⟩
  · rintro ⟨h1, h2⟩
    refine ⟨fun f hf => ⟨h1 f hf, ?_⟩, h2⟩
    have r : 0 ≤ f ∧ f ≤ below - 1 := by simpa [inS] using h1 f hf
    rw [List.getElem?_replicate, if_pos (by omega)]
theorem c_tapart (l : List Int) (below : Int) (hb : 1 ≤ below ∧ below ≤ 1000) (hl : l.length ≤ 140737488355328) : tbl E0 109 [intsV l, .int .i64 below] [] = some ([.bool (apartS l below)], []) :=
  t_tapart l below (by
    have e := c_tapartL l below hb hl l 0 (List.replicate 1000 false) rfl List.length_replicate
    simp only [Int.natCast_zero, freshI_0 _ hb.2] at e
    have c := c_tin (l.length : Int) 1 64
    have e2 : inS (l.length : Int) 1 64 = decide (1 ≤ l.length ∧ l.length ≤ 64) := by
      simp only [inS, Bool.decide_and]
      congr 1 <;> exact decide_eq_decide.2 (by omega)
    simp only [List.map_replicate] at e
    simp only [s_tapart, OA_asm, OA_chk, cond_true, OA_loop, List.length_map, e]
    · unfold apartS
      cases hx : ((l.all fun n => inS n 0 (below - 1)) && nodupI l) with
      | true => simp [c, e2]
      | false => simp)
end Go.Proofs.YtmpfeofeokmooaaGreat.V
namespace Go.Proofs.YtmpfeofeokmooaaGreat.V
open Go
set_option maxRecDepth 20000 in
theorem c_tonly (x : Stp) : tbl E0 87 [stpV x] [] = some ([stpV (onlyS x)], []) := by
  obtain ⟨op, form, field, place, to, a, b, f, n, s, t, fields⟩ := x
  refine op_all (p := fun op => tbl E0 87 [stpV ⟨op, form, field, place, to, a, b, f, n, s, t, fields⟩] [] = some ([stpV (onlyS ⟨op, form, field, place, to, a, b, f, n, s, t, fields⟩)], [])) op ?_ ?_
  · intro o ho
    simp only [opsL, List.mem_cons, List.not_mem_nil, or_false] at ho
    rcases ho with rfl | rfl | rfl | rfl | rfl | rfl | rfl | rfl | rfl | rfl | rfl | rfl | rfl | rfl | rfl | rfl | rfl | rfl | rfl | rfl <;> exact tbl_iff.2 ⟨20, by kernel_rfl⟩
  · intro h hu
    have c := c_tuses op
    rw [hu] at c
    have e2 : ltbl E0 87 0 3 [intsV [], .int .i64 0, .int .i64 0] [stpC ⟨op, form, field, place, to, a, b, f, n, s, t, fields⟩, stpC ⟨0, 0, 0, 0, 0, 0, 0, fld0, 0, [], [], []⟩, stpC ⟨op, 0, 0, 0, 0, 0, 0, fld0, 0, [], [], []⟩] = some (1, [], [stpC ⟨0, 0, 0, 0, 0, 0, 0, fld0, 0, [], [], []⟩, stpC ⟨op, 0, 0, 0, 0, 0, 0, fld0, 0, [], [], []⟩]) := t_tonlyL _ _ _ [] 0 0 (by simp [s_tonlyL])
    refine t_tonly _ ?_
    simp only [s_tonly, OA_chk, cond_true, OA_callx, c, Option.bind_some, u_asC, u_asL, u_asN, OA_asm, OA_loop, List.map_nil, List.length_nil, Int.natCast_zero, stpC, fld0, intsV, fldsV] at e2 ⊢
    rw [e2]
    simp [onlyS, hasS, hu, fld0]
theorem wrap0 {a b : Int} (ha : i64 a) (hb : i64 b) : (IntKind.i64.wrap (a - b) == 0) = (a == b) := by
  have : IntKind.i64.wrap (a - b) = (a - b + 9223372036854775808) % 18446744073709551616 - 9223372036854775808 := by rw [IntKind.wrap_i64]
  rw [this, Bool.eq_iff_iff, beq_iff_eq, beq_iff_eq]
  unfold i64 at ha hb
  omega
theorem stp_eq (x y : Stp) : decide (x = y) = ((decide (x.t = y.t) && decide (x.fields = y.fields)) && ((x.op == y.op && (x.form == y.form && (x.field == y.field && (x.place == y.place && (x.to == y.to && (x.a == y.a && x.b == y.b)))))) && (decide (x.f = y.f) && (x.n == y.n && x.s == y.s)))) := by
  obtain ⟨op, form, field, place, to, a, b, f, n, s, t, fields⟩ := x
  obtain ⟨op', form', field', place', to', a', b', f', n', s', t', fields'⟩ := y
  rw [Bool.eq_iff_iff]
  simp only [decide_eq_true_eq, Bool.and_eq_true, beq_iff_eq, Stp.mk.injEq]
  constructor
  · rintro ⟨rfl, rfl, rfl, rfl, rfl, rfl, rfl, rfl, rfl, rfl, rfl, rfl⟩; simp
  · rintro ⟨⟨rfl, rfl⟩, ⟨rfl, rfl, rfl, rfl, rfl, rfl, rfl⟩, rfl, rfl, rfl⟩; simp
theorem c_tSame (x y : Stp) (hx : x.ok) (hy : y.ok) (hs : x.sml) : tbl E0 86 [stpV x, stpV y] [] = some ([.bool (decide (x = y))], []) :=
  t_tSame x y (by
    obtain ⟨h1, h2, h3, h4, h5, h6, h7, _⟩ := hx
    obtain ⟨g1, g2, g3, g4, g5, g6, g7, _⟩ := hy
    have c1 := c_EqualI x.t y.t hs.1
    have c2 := c_EqualF x.fields y.fields hs.2
    simp only [s_tSame, OA_chk, cond_true, OA_callx, c1, c2, Option.bind_some, u_asC, u_asB, u_asN, OA_join, wrap0 h1 g1, wrap0 h2 g2, wrap0 h3 g3, wrap0 h4 g4, wrap0 h5 g5, wrap0 h6 g6, wrap0 h7 g7, fld_eq]
    simp only [Bool.and_true, stp_eq]
    generalize (x.op == y.op && (x.form == y.form && (x.field == y.field && (x.place == y.place && (x.to == y.to && (x.a == y.a && x.b == y.b)))))) = p
    generalize (x.n == y.n && x.s == y.s) = q
    cases decide (x.t = y.t) <;> cases decide (x.fields = y.fields) <;> cases p <;> cases decide (x.f = y.f) <;> simp)
theorem c_tfits (x : Stp) (p : Int) (hp : p = 8 → 1 ≤ (if x.op = 5 then x.a else 1000) ∧ (if x.op = 5 then x.a else 1000) ≤ 1000) (hs : x.sml) : tbl E0 85 [stpV x, .int .i64 p] [] = some ([.bool (fitsS x p)], []) := by
  have i1 := c_tin
  have i2 := c_fRight x.f
  have i3 := c_fHas x.f x.n x.s
  have i4 := c_sFine ⟨x.form, x.fields⟩ hs.2
  refine t_tfits x p ?_
  unfold s_tfits fitsS
  simp only [OA_chk, cond_true, cond_beq, OA_callx, OA_join, OA_asm]
  by_cases h0 : p = 0
  · simp only [h0, if_true, i1, Option.bind_some, u_asC, u_asB, u_asN]
  by_cases h1 : p = 1
  · simp [h1, i1]
  by_cases h2 : p = 2
  · simp [h2, i1]
  by_cases h3 : p = 3
  · simp only [h3, i1]
    cases inS x.to 0 255 <;> by_cases e : x.to = x.field <;> simp [e]
  by_cases h4 : p = 4
  · by_cases ho : x.op = 5
    · cases hi : inS x.a 1 1000 <;> simp [h4, i1, ho, hi]
    · simp [h4, i1, ho]
  by_cases h5 : p = 5
  · cases hi : inS x.a (-1048576) 1048576
    · simp [h5, i1, hi]
    · by_cases ha : x.a = 0
      · rw [ha] at hi; simp [h5, i1, hi, ha]
      · simp [h5, i1, hi, ha]
  by_cases h6 : p = 6
  · by_cases o1 : x.op = 1
    · cases hr : rgtS x.f <;> simp [h6, o1, i2, hr]
    · by_cases o2 : x.op = 22
      · cases hr : rgtS x.f <;> simp [h6, o2, i2, hr]
      · cases hr : rgtS x.f <;> simp [h6, o1, o2, beq_f o2, i2, hr]
  by_cases h7 : p = 7
  · by_cases ho : x.op = 2
    · cases hi : inS x.n (-1099511627776) 1099511627776 <;> simp [h7, ho, i1, hi]
    · simp [h7, ho, i3]
  by_cases h8 : p = 8
  · have hb := hp h8
    simp only [h8]
    by_cases ho : x.op = 5
    · simp only [ho, if_true] at hb ⊢
      have c := c_tapart x.t x.a hb hs.1
      simp [c]
    · simp only [ho, if_false] at hb ⊢
      have c := c_tapart x.t 1000 (by omega) hs.1
      simp [c]
  · simp [h0, h1, h2, h3, h4, h5, h6, h7, h8, i4]
end Go.Proofs.YtmpfeofeokmooaaGreat.V
namespace Go.Proofs.YtmpfeofeokmooaaGreat.V
open Go
theorem c_tRightL (x : Stp) (hs : x.sml) (l : List Int) (q : List Int) (hl : l.length ≤ 5) (hb : ∀ (i : Nat) (p : Int), l[i]? = some p → p = 8 → (l.take i).all (fitsS x) = true → 1 ≤ (if x.op = 5 then x.a else 1000) ∧ (if x.op = 5 then x.a else 1000) ≤ 1000) : ∀ (r : List Int) (i : Nat), l.drop i = r → (l.take i).all (fitsS x) = true →
    ltbl E0 58 0 3 [intsV q, intsV l, .int .i64 l.length, .int .i64 i] [stpC x] = some (if r.all (fitsS x) then (1, [intsV q], [stpC x]) else (0, [.bool false], [])) := by
  intro r
  induction r with
  | nil =>
    intro i hr ht
    have h : l.length ≤ i := by simpa using hr
    refine t_tRightL _ _ _ _ _ ?_
    have : ¬ ((i : Int) < l.length) := by omega
    simp [s_tRightL, this]
  | cons p r ih =>
    intro i hr ht
    obtain ⟨hlt, hget, hr2⟩ := drop_c hr
    have h2 : (i : Int) < l.length := by omega
    have e1 := i64_succ (i := i) (by omega)
    have c := c_tfits x p (fun h8 => hb i p hget h8 ht) hs
    refine t_tRightL _ _ _ _ _ ?_
    simp only [s_tRightL, h2, decide_true, cond_true, OA_chk, Int.natCast_nonneg, nthE, Int.toNat_natCast, List.getElem?_map, hget, Option.map_some, u_asA, u_asC, u_asI, u_asB, u_asN, OA_callx, c, Option.bind_some, e1]
    cases hf : fitsS x p with
    | false => simp [hf]
    | true =>
      have ht2 : (l.take (i + 1)).all (fitsS x) = true := by
        rw [List.take_add_one, hget]
        simp [hf]
        simpa using ht
      have h := ih (i + 1) hr2 ht2
      simp only [Bool.not_true, cond_false, h, List.all_cons, hf, Bool.true_and]
theorem only_ok {x : Stp} (hx : x.ok) : (onlyS x).ok := by
  obtain ⟨h1, h2, h3, h4, h5, h6, h7, h8, h9, h10, h11⟩ := hx
  have z : i64 0 := by unfold i64; omega
  unfold onlyS
  refine ⟨h1, ?_, ?_, ?_, ?_, ?_, ?_, ?_, ?_, ?_, ?_⟩ <;> dsimp only <;> split
  all_goals first
    | assumption
    | exact ⟨z, z, z, z, z⟩
    | simp
theorem c_tRight (x : Stp) (hx : x.ok) (hs : x.sml) : tbl E0 58 [stpV x] [] = some ([.bool (tRightS x)], []) := by
  have c := c_tuses x.op
  have e := c_tRightL x hs (usesS x.op) (usesS x.op) (uses_len _) (uses_bound x) (usesS x.op) 0 rfl rfl
  have c2 := c_tonly x
  have c3 := c_tSame x (onlyS x) hx (only_ok hx) hs
  simp only [Int.natCast_zero] at e
  refine t_tRight x ?_
  simp only [s_tRight, OA_chk, cond_true, OA_callx, c, Option.bind_some, u_asC, u_asL, u_asN, OA_asm, OA_loop, List.length_map, tRightS]
  simp only [stpC] at e
  rw [e]
  cases hf : (usesS x.op).all (fitsS x) with
  | false => simp
  | true =>
    cases hu : usesS x.op with
    | nil => simp
    | cons p l =>
      simp only [stpV, stpC] at c2 c3
      simp [c2, c3]
end Go.Proofs.YtmpfeofeokmooaaGreat.V
namespace Go.Proofs.YtmpfeofeokmooaaGreat.V
open Go
def letterS (p : Int) : Int := if p = 0 then 102 else if p = 1 then 100 else if p = 2 then 112 else if p = 3 then 116 else if p = 4 then 97 else if p = 5 then 98 else if p = 6 then 70 else if p = 7 then 86 else if p = 8 then 84 else 76
set_option maxRecDepth 50000 in
theorem yhas_all : (opsL.map fun o => [(0 : Int), 1, 2, 3, 4, 5, 6, 7, 8, 9].map fun p => (G E0 12).1 96 [.int .i64 o, .int .u8 (letterS p)] []) = (opsL.map fun o => [(0 : Int), 1, 2, 3, 4, 5, 6, 7, 8, 9].map fun p => some ([.bool (hasS o p)], [])) := by kernel_rfl
theorem c_yhas (op p : Int) (hp : p ∈ [(0 : Int), 1, 2, 3, 4, 5, 6, 7, 8, 9]) : tbl E0 96 [.int .i64 op, .int .u8 (letterS p)] [] = some ([.bool (hasS op p)], []) := by
  refine op_all (p := fun op => tbl E0 96 [.int .i64 op, .int .u8 (letterS p)] [] = some ([.bool (hasS op p)], [])) op ?_ ?_
  · intro o ho
    have h1 := List.map_inj_left.1 yhas_all o ho
    exact tbl_iff.2 ⟨12, List.map_inj_left.1 h1 p hp⟩
  · intro h hu
    obtain ⟨s, c, hs⟩ := c_yuses op
    rw [hu] at hs
    simp only [List.map_nil] at hs
    subst hs
    have e : ltbl E0 96 0 3 [.int .u8 (letterS p), .str [], .int .i64 0] [] = some (1, [], []) := t_yhasL _ _ _ (by simp [s_yhasL])
    exact t_yhas _ _ (by simp [s_yhas, c, e, hasS, hu])
theorem c_yh (op : Int) : (tbl E0 96 [.int .i64 op, .int .u8 100] [] = some ([.bool (hasS op 1)], []) ∧ tbl E0 96 [.int .i64 op, .int .u8 112] [] = some ([.bool (hasS op 2)], []) ∧ tbl E0 96 [.int .i64 op, .int .u8 116] [] = some ([.bool (hasS op 3)], [])) ∧
    (tbl E0 96 [.int .i64 op, .int .u8 97] [] = some ([.bool (hasS op 4)], []) ∧ tbl E0 96 [.int .i64 op, .int .u8 98] [] = some ([.bool (hasS op 5)], []) ∧ tbl E0 96 [.int .i64 op, .int .u8 70] [] = some ([.bool (hasS op 6)], [])) ∧
    (tbl E0 96 [.int .i64 op, .int .u8 86] [] = some ([.bool (hasS op 7)], []) ∧ tbl E0 96 [.int .i64 op, .int .u8 84] [] = some ([.bool (hasS op 8)], []) ∧ tbl E0 96 [.int .i64 op, .int .u8 76] [] = some ([.bool (hasS op 9)], [])) :=
  ⟨⟨c_yhas op 1 (by simp), c_yhas op 2 (by simp), c_yhas op 3 (by simp)⟩, ⟨c_yhas op 4 (by simp), c_yhas op 5 (by simp), c_yhas op 6 (by simp)⟩, ⟨c_yhas op 7 (by simp), c_yhas op 8 (by simp), c_yhas op 9 (by simp)⟩⟩
theorem cond_tt (a b : Bool) : (bif a then true else b) = (a || b) := by cases a <;> rfl
theorem cond_ff (a b : Bool) : (bif a then b else false) = (a && b) := by cases a <;> rfl
theorem cond_or (a b x : Bool) : (bif a then x else (b && x)) = ((a || b) && x) := by cases a <;> simp
theorem cond_nt (a b : Bool) : (bif !a then true else b) = (!a || b) := by cases a <;> rfl
theorem c_yzero (x : Stp) : tbl E0 93 [stpV x] [] = some ([.bool (zeroS x)], []) := by
  obtain ⟨⟨h1, h2, h3⟩, ⟨h4, h5, h6⟩, ⟨h7, h8, h9⟩⟩ := c_yh x.op
  refine t_yzero x ?_
  have ft : decide (x.f = fld0) = (x.f.id == 0 && (x.f.kind == 0 && (x.f.lo == 0 && (x.f.hi == 0 && (x.f.most == 0 && true))))) := (fld_eq x.f fld0).symm
  simp only [s_yzero, OA_chk, cond_true, OA_callx, h1, h2, h3, h4, h5, h6, h7, h8, h9, Option.bind_some, u_asC, u_asB, u_asN, OA_join, OA_asm, List.length_map, zeroS, ft]
  generalize (x.f.id == 0 && (x.f.kind == 0 && (x.f.lo == 0 && (x.f.hi == 0 && (x.f.most == 0 && true))))) = bf
  have ht : ((x.t.length : Int) == 0) = x.t.isEmpty := by cases x.t <;> simp; omega
  have hl : ((x.fields.length : Int) == 0) = x.fields.isEmpty := by cases x.fields <;> simp; omega
  simp only [tok_cond, Option.bind_some, Tok.untok_tok, cond_tt, cond_ff, cond_or, ht, hl, Bool.and_true, Bool.and_assoc]
end Go.Proofs.YtmpfeofeokmooaaGreat.V
namespace Go.Proofs.YtmpfeofeokmooaaGreat.V
open Go
theorem c_ytableK (l : List Int) (below : Int) (i : Nat) (n : Int) (hn : l[i]? = some n) (hl : l.length ≤ 140737488355328) : ∀ (d k : Nat), k + d = i →
    ltbl E0 114 0 7 [intsV l, .int .i64 below, .int .i64 i, .int .i64 k] [] = some (if ((l.take i).drop k).any (fun y => y == n) then (0, [.bool false], []) else (3, [intsV l, .int .i64 below, .int .i64 i], [])) := by
  obtain ⟨hi, _⟩ := List.getElem?_eq_some_iff.1 hn
  intro d
  induction d with
  | zero =>
    intro k hk
    have h1 : ¬ ((k : Int) < i) := by omega
    have h2 : (l.take i).drop k = [] := by rw [List.drop_eq_nil_iff, List.length_take]; omega
    exact t_ytableK _ _ _ _ (by simp [s_ytableK, h1, h2])
  | succ d ih =>
    intro k hk
    have h := ih (k + 1) (by omega)
    have h1 : (k : Int) < i := by omega
    have hk2 : k < l.length := by omega
    have e1 := i64_succ (i := k) (by omega)
    have hg : l[k]? = some l[k] := List.getElem?_eq_getElem hk2
    have h2 : (l.take i).drop k = l[k] :: (l.take i).drop (k + 1) := by
      rw [List.drop_eq_getElem_cons (by rw [List.length_take]; omega), List.getElem_take]
    refine t_ytableK _ _ _ _ ?_
    simp only [s_ytableK, h1, decide_true, cond_true, OA_chk, Int.natCast_nonneg, nthE, Int.toNat_natCast, List.getElem?_map, hg, hn, Option.map_some, u_asI, e1, h, h2, List.any_cons]
    by_cases hq : l[k] = n <;> simp [hq]
def idxI (below : Int) (l : List Int) : Nat → List Int → Bool
  | _, [] => true
  | i, n :: r => (inS n 0 (below - 1) && !((l.take i).any fun y => y == n)) && idxI below l (i + 1) r
theorem c_ytableL (l : List Int) (below : Int) (hb : 1 ≤ below ∧ below ≤ 1000) (hl : l.length ≤ 140737488355328) : ∀ (r : List Int) (i : Nat), l.drop i = r →
    ltbl E0 114 0 2 [intsV l, .int .i64 below, .int .i64 i] [] = some (if idxI below l i r then (1, [intsV l], []) else (0, [.bool false], [])) := by
  intro r
  induction r with
  | nil =>
    intro i hr
    have h : l.length ≤ i := by simpa using hr
    refine t_ytableL _ _ _ ?_
    have : ¬ ((i : Int) < l.length) := by omega
    simp [s_ytableL, this, idxI]
  | cons n r ih =>
    intro i hr
    obtain ⟨hlt, hget, hr2⟩ := drop_c hr
    have h2 : (i : Int) < l.length := by omega
    have e1 := i64_succ (i := i) (by omega)
    have h := ih (i + 1) hr2
    have ew : IntKind.i64.wrap (below - 1) = below - 1 := wrap_i64 _ (by omega) (by omega)
    have c := c_ybetween n 0 (below - 1)
    have c2 := c_ytableK l below i n hget hl i 0 (by omega)
    simp only [Int.natCast_zero, List.drop_zero] at c2
    refine t_ytableL _ _ _ ?_
    simp only [s_ytableL, OA_asm, List.length_map, h2, decide_true, cond_true, OA_chk, Int.natCast_nonneg, nthE, Int.toNat_natCast, List.getElem?_map, hget, Option.map_some, u_asC, u_asI, u_asB, u_asN, OA_callx, c, ew, Option.bind_some, OA_loop, c2, e1, h, idxI]
    rcases bor (inS n 0 (below - 1)) with hq | hq
    · rcases bor ((l.take i).any (fun y => y == n)) with hp | hp
      · simp [hq, hp]
      · simpa [hq, hp, e1] using h
    · simp [hq]
theorem idxI_iff (below : Int) : ∀ (r p : List Int), idxI below (p ++ r) p.length r = true ↔ (∀ n ∈ r, inS n 0 (below - 1) = true ∧ ∀ y ∈ p, y ≠ n) ∧ nodupI r = true
  | [], p => by simp [idxI, nodupI]
  | n :: r, p => by
    have ih := idxI_iff below r (p ++ [n])
    simp only [List.append_assoc, List.singleton_append, List.length_append, List.length_singleton] at ih
    simp only [idxI, Bool.and_eq_true, ih, nodupI, List.mem_cons, forall_eq_or_imp, Bool.not_eq_true', List.any_eq_false, beq_iff_eq, List.mem_append, List.not_mem_nil, or_false, List.take_left']
    constructor
    · rintro ⟨⟨h1, h2⟩, h3, h4⟩
      refine ⟨⟨⟨h1, h2⟩, fun y hy => ⟨(h3 y hy).1, fun f hf => (h3 y hy).2 f (Or.inl hf)⟩⟩, fun y hy e => (h3 y hy).2 n (Or.inr rfl) e.symm, h4⟩
    · rintro ⟨⟨⟨h1, h2⟩, h3⟩, h4, h5⟩
      refine ⟨⟨h1, h2⟩, fun y hy => ⟨(h3 y hy).1, ?_⟩, h5⟩
      rintro f (hf | rfl)
      · exact (h3 y hy).2 f hf
      · exact fun e => h4 y hy e.symm
theorem idxI_0 (below : Int) (l : List Int) : idxI below l 0 l = ((l.all fun n => inS n 0 (below - 1)) && nodupI l) := by
  rw [Bool.eq_iff_iff]
  have := idxI_iff below l []
  simp only [List.nil_append, List.length_nil] at this
  rw [this]
  simp
theorem c_ytable (l : List Int) (below : Int) (hb : 1 ≤ below ∧ below ≤ 1000) (hl : l.length ≤ 140737488355328) : tbl E0 114 [intsV l, .int .i64 below] [] = some ([.bool (apartS l below)], []) :=
  t_ytable l below (by
    have e := c_ytableL l below hb hl l 0 rfl
    simp only [Int.natCast_zero, idxI_0] at e
    simp only [s_ytable, OA_loop, e, apartS]
    cases ((l.all fun n => inS n 0 (below - 1)) && nodupI l) with
    | false => simp
    | true =>
      by_cases a : 1 ≤ l.length
      · have a2 : (l.length : Int) ≥ 1 := by omega
        by_cases b : l.length ≤ 64
        · have b2 : (l.length : Int) ≤ 64 := by omega
          simp [a, a2, b, b2]
        · have b2 : ¬ ((l.length : Int) ≤ 64) := by omega
          simp [a, a2, b, b2]
      · have a2 : ¬ ((l.length : Int) ≥ 1) := by omega
        simp [a, a2])
theorem c_ynumbers (x : Stp) (hs : x.t.length ≤ 140737488355328) : tbl E0 95 [stpV x] [] = some ([.bool (numbersS x)], []) :=
  t_ynumbers x (by
    have i1 := c_ybetween
    have i3 := c_ytable x.t 1000 (by omega) hs
    simp only [s_ynumbers, OA_chk, cond_true, OA_callx, OA_join, i1, i3, Option.bind_some, u_asC, u_asB, u_asN, numbersS]
    by_cases h4 : x.op = 4
    · simp only [h4]
      cases inS x.a (-1048576) 1048576 <;> cases inS x.b (-1099511627776) 1099511627776 <;> by_cases ha : x.a = 0 <;> simp [ha]
    · by_cases h24 : x.op = 24
      · simp only [h24]
        cases inS x.a (-1048576) 1048576 <;> cases inS x.b (-1099511627776) 1099511627776 <;> by_cases ha : x.a = 0 <;> simp [ha]
      · have f4 : (x.op == 4) = false := beq_f h4
        have f24 : (x.op == 24) = false := beq_f h24
        by_cases h6 : x.op = 6
        · simp [h6]
        · have f6 : (x.op == 6) = false := beq_f h6
          by_cases h26 : x.op = 26
          · simp [h26]
          · have f26 : (x.op == 26) = false := beq_f h26
            by_cases h5 : x.op = 5
            · cases hi : inS x.a 1 1000 with
              | false => simp [h5, hi]
              | true =>
                have hb : 1 ≤ x.a ∧ x.a ≤ 1000 := by simpa [inS] using hi
                have i2 := c_ytable x.t x.a hb hs
                simp [h5, hi, i2]
            · have f5 : (x.op == 5) = false := beq_f h5
              by_cases h25 : x.op = 25 <;> simp [h4, h24, h6, h26, h5, h25, f4, f24, f6, f26, f5])
theorem ret_ff (p q : Bool) : (bif p then some ([AV.bool false], []) else some ([AV.bool q], []) : Option CR) = some ([AV.bool (!p && q)], []) := by cases p <;> rfl
theorem cond_or2 (p a b : Bool) : (bif p then a || b else b) = ((p && a) || b) := by cases p <;> rfl
theorem c_ytRight (x : Stp) (hs : x.sml) : tbl E0 65 [stpV x] [] = some ([.bool (ytRightS x)], []) := by
  obtain ⟨⟨h1, h2, h3⟩, ⟨h4, h5, h6⟩, ⟨h7, h8, h9⟩⟩ := c_yh x.op
  obtain ⟨s, cu, hu⟩ := c_yuses x.op
  have cz := c_yzero x
  have cn := c_ynumbers x hs.1
  have cr := c_yRight x.f
  have ch := c_yHas x.f x.n x.s
  have cf := c_yFine ⟨x.form, x.fields⟩ hs.2
  have he : (s == []) = (usesS x.op).isEmpty := by rw [hu]; cases usesS x.op <;> simp
  refine t_ytRight x ?_
  simp only [stpV, stpC, fldV, fldC, frmV, intsV, fldsV] at cz cn cr ch cf
  simp only [s_ytRight, OA_chk, cond_true, OA_callx, cu, cz, cn, cr, ch, cf, h1, h2, h3, h4, h5, h6, h7, h8, h9, c_ybetween, Option.bind_some, u_asC, u_asB, u_asS, u_asN, OA_join, OA_asm, he, ytRightS]
  simp only [tok_cond, Option.bind_some, Tok.untok_tok, cond_tt, cond_ff, cond_or, cond_nt]
  have e32 : decide ((x.s.length : Int) > 32) = !decide ((x.s.length : Int) ≤ 32) := by
    rw [← decide_not]; exact decide_eq_decide.2 (by omega)
  simp only [cond_or2, e32, ret_ff, Bool.not_or, Bool.not_not, Bool.and_assoc, Bool.not_and]
theorem c_ytSameK (x y : Stp) (hl : x.fields.length ≤ 140737488355328) (he : x.fields.length = y.fields.length) : ∀ (r q : List Fld) (i : Nat), x.fields.drop i = r → y.fields.drop i = q →
    ltbl E0 82 0 9 [.int .i64 i] [stpC x, stpC y] = some (if r = q then (3, [], []) else (0, [.bool false], [])) := by
  intro r
  induction r with
  | nil =>
    intro q i hr hq
    have h : x.fields.length ≤ i := by simpa using hr
    have h3 : q = [] := by rw [← hq, List.drop_eq_nil_iff]; omega
    have : ¬ ((i : Int) < x.fields.length) := by omega
    subst h3
    exact t_ytSameK _ _ _ (by simp [s_ytSameK, this])
  | cons f r ih =>
    intro q i hr hq
    obtain ⟨hlt, hget, hr2⟩ := drop_c hr
    have hlt' : i < y.fields.length := by omega
    rw [List.drop_eq_getElem_cons hlt'] at hq
    subst hq
    have hg2 : y.fields[i]? = some y.fields[i] := List.getElem?_eq_getElem hlt'
    generalize y.fields[i] = g at *
    have h2 : (i : Int) < x.fields.length := by omega
    have e1 := i64_succ (i := i) (by omega)
    have h := ih _ (i + 1) hr2 rfl
    have hf := fld_eq f g
    refine t_ytSameK _ _ _ ?_
    simp only [s_ytSameK, OA_asm, List.length_map, h2, decide_true, cond_true, OA_chk, Int.natCast_nonneg, nthE, Int.toNat_natCast, List.getElem?_map, hget, hg2, Option.map_some, u_asA, u_asC, u_asI, u_asB, u_asN, e1, hf]
    by_cases e : f = g
    · simp only [e, decide_true, Bool.not_true, cond_false, h, List.cons.injEq, true_and]
    · simp [e]
theorem c_ytSameL (x y : Stp) (hl : x.t.length ≤ 140737488355328) (he : x.t.length = y.t.length) : ∀ (r q : List Int) (i : Nat), x.t.drop i = r → y.t.drop i = q →
    ltbl E0 82 0 4 [.int .i64 i] [stpC x, stpC y] = some (if r = q then (1, [], [stpC x, stpC y]) else (0, [.bool false], [])) := by
  intro r
  induction r with
  | nil =>
    intro q i hr hq
    have h : x.t.length ≤ i := by simpa using hr
    have h3 : q = [] := by rw [← hq, List.drop_eq_nil_iff]; omega
    have : ¬ ((i : Int) < x.t.length) := by omega
    subst h3
    exact t_ytSameL _ _ _ (by simp [s_ytSameL, this])
  | cons f r ih =>
    intro q i hr hq
    obtain ⟨hlt, hget, hr2⟩ := drop_c hr
    have hlt' : i < y.t.length := by omega
    rw [List.drop_eq_getElem_cons hlt'] at hq
    subst hq
    have hg2 : y.t[i]? = some y.t[i] := List.getElem?_eq_getElem hlt'
    generalize y.t[i] = g at *
    have h2 : (i : Int) < x.t.length := by omega
    have e1 := i64_succ (i := i) (by omega)
    have h := ih _ (i + 1) hr2 rfl
    refine t_ytSameL _ _ _ ?_
    simp only [s_ytSameL, OA_asm, List.length_map, h2, decide_true, cond_true, OA_chk, Int.natCast_nonneg, nthE, Int.toNat_natCast, List.getElem?_map, hget, hg2, Option.map_some, u_asA, u_asC, u_asI, u_asB, u_asN, e1]
    by_cases e : f = g
    · simp only [e, bne_self_eq_false, cond_false, h, List.cons.injEq, true_and]
    · simp [e]
theorem c_ytSame (x y : Stp) (hs : x.sml) : tbl E0 82 [stpV x, stpV y] [] = some ([.bool (decide (x = y))], []) := by
  refine t_ytSame x y ?_
  have hv : (x.n == y.n && (x.s == y.s && true)) = (x.n == y.n && x.s == y.s) := by simp
  simp only [s_ytSame, OA_chk, cond_true, Option.bind_some, u_asC, u_asB, u_asN, OA_join, OA_asm, List.length_map, fld_eq, hv]
  simp only [tok_cond, Option.bind_some, Tok.untok_tok, cond_tt]
  have ha : decide (x = y) = (!(x.op != y.op || (x.form != y.form || (x.field != y.field || (x.place != y.place || (x.to != y.to || (x.a != y.a || (x.b != y.b || (!decide (x.f = y.f) || (!(x.n == y.n && x.s == y.s) || ((x.t.length : Int) != y.t.length || (x.fields.length : Int) != y.fields.length)))))))))) && (decide (x.t = y.t) && decide (x.fields = y.fields))) := by
    rw [stp_eq, Bool.eq_iff_iff]
    have h1 : x.t = y.t → (x.t.length : Int) = y.t.length := fun h => by rw [h]
    have h2 : x.fields = y.fields → (x.fields.length : Int) = y.fields.length := fun h => by rw [h]
    simp only [Bool.and_eq_true, Bool.or_eq_true, Bool.not_eq_true', Bool.or_eq_false_iff, Bool.and_eq_false_iff, decide_eq_true_eq, decide_eq_false_iff_not, beq_iff_eq, bne_eq_false_iff_eq, Bool.not_eq_false']
    grind
  rw [ha]
  generalize hq : (x.op != y.op || (x.form != y.form || (x.field != y.field || (x.place != y.place || (x.to != y.to || (x.a != y.a || (x.b != y.b || (!decide (x.f = y.f) || (!(x.n == y.n && x.s == y.s) || ((x.t.length : Int) != y.t.length || (x.fields.length : Int) != y.fields.length)))))))))) = q
  rcases bor q with hb | hb
  · subst hb; rfl
  · rw [hb] at hq
    simp only [Bool.or_eq_false_iff, bne_eq_false_iff_eq] at hq
    have h1 : x.t.length = y.t.length := by have := hq.2.2.2.2.2.2.2.2.2.1; omega
    have h2 : x.fields.length = y.fields.length := by have := hq.2.2.2.2.2.2.2.2.2.2; omega
    have e1 := c_ytSameL x y hs.1 h1 x.t y.t 0 rfl rfl
    have e2 := c_ytSameK x y hs.2 h2 x.fields y.fields 0 rfl rfl
    simp only [Int.natCast_zero] at e1 e2
    subst hb
    simp only [cond_false, OA_loop, stpC] at e1 e2 ⊢
    rw [e1]
    by_cases c1 : x.t = y.t
    · simp only [c1, if_true, Option.bind_some, Nat.beq, cond_false, cond_true, u_asC, u_asI, u_asS, u_asL, u_asN, OA_loop] at e2 ⊢
      rw [e2]
      by_cases c2 : x.fields = y.fields <;> simp [c2]
    · simp [c1]
def bigT (x : Stp) : Bool := decide (100 < x.t.length) || decide (40 < x.fields.length)
theorem c_yGreatL (l : List Stp) : ∀ (m : Nat) (r : List Stp) (i : Nat), l.drop i = r → i + m = 61 →
    ltbl E0 21 0 2 [stpsV l, .int .i64 i] [] = some (if (r.take m).any bigT then (0, [.bool true], []) else (1, [stpsV l], [])) := by
  intro d
  induction d with
  | zero =>
    intro r i hr hm
    have : ¬ ((i : Int) < 61) := by omega
    refine t_yGreatL _ _ ?_
    by_cases h : (i : Int) < l.length <;> simp [s_yGreatL, this, h]
  | succ d ih =>
    intro r i hr hm
    cases r with
    | nil =>
      have h : l.length ≤ i := by simpa using hr
      have : ¬ ((i : Int) < l.length) := by omega
      exact t_yGreatL _ _ (by simp [s_yGreatL, this])
    | cons x r =>
      obtain ⟨hlt, hget, hr2⟩ := drop_c hr
      have h2 : (i : Int) < l.length := by omega
      have h3 : (i : Int) < 61 := by omega
      have e1 := i64_succ (i := i) (by omega)
      have h := ih r (i + 1) hr2 (by omega)
      refine t_yGreatL _ _ ?_
      simp only [s_yGreatL, OA_asm, OA_join, List.length_map, h2, h3, decide_true, cond_true, OA_chk, Int.natCast_nonneg, nthE, Int.toNat_natCast, List.getElem?_map, hget, Option.map_some, u_asA, u_asC, u_asI, u_asS, u_asL, u_asB, u_asN, Option.bind_some, Tok.untok_tok, e1, h, List.take_succ_cons, List.any_cons]
      by_cases a : 100 < x.t.length
      · have a2 : (x.t.length : Int) > 100 := by omega
        simp [a2, bigT, a]
      · have a2 : ¬ ((x.t.length : Int) > 100) := by omega
        by_cases b : 40 < x.fields.length
        · have b2 : (x.fields.length : Int) > 40 := by omega
          simp [a2, b2, bigT, a, b]
        · have b2 : ¬ ((x.fields.length : Int) > 40) := by omega
          have : bigT x = false := by simp [bigT, a, b]
          simp [a2, b2, this]
def greatT (l : List Stp) : Bool := (l.take 61).any bigT || decide (60 < l.length)
theorem c_yGreat (l : List Stp) : tbl E0 21 [stpsV l] [] = some ([.bool (greatT l)], []) :=
  t_yGreat l (by
    have e := c_yGreatL l 61 l 0 rfl rfl
    simp only [Int.natCast_zero] at e
    simp only [s_yGreat, OA_loop, e, greatT]
    rcases bor ((l.take 61).any bigT) with hb | hb
    · simp [hb]
    · by_cases h : 60 < l.length
      · have : (l.length : Int) > 60 := by omega
        simp [hb, h, this]
      · have : ¬ ((l.length : Int) > 60) := by omega
        simp [hb, h, this])
end Go.Proofs.YtmpfeofeokmooaaGreat.V
namespace Go.Proofs.YtmpfeofeokmooaaGreat.V
open Go
theorem bigT_sml {x : Stp} (h : bigT x = false) : x.sml := by
  simp only [bigT, Bool.or_eq_false_iff, decide_eq_false_iff_not] at h
  exact ⟨by omega, by omega⟩
end Go.Proofs.YtmpfeofeokmooaaGreat.V
