/- Part 5 of the proof that: Any step's step back, and any list's list back, or why there is none, are as the document says; so is whether two lists are a pair; a list and its list back are a pair, and no other list is one with it. -/
import Derived.Test.YtalpknofimglbaaPd
set_option linter.unusedVariables false
set_option linter.unusedSimpArgs false
namespace Go.Proofs.Ytalpknofimglbaa.V
open Go
open AV (int lst agg str bool ref clo)
open List (map)
abbrev fldsU (l : List Fld) : AV := AV.lst .uq 5 (l.map fldV)
abbrev frmsU (l : List Frm) : AV := AV.lst .uq 2 (l.map frmV)
abbrev madO (x : Stp) (v : Int) (l : List Frm) (p e : Int) : List AV := [.int .i64 x.op, .int .i64 x.form, .int .i64 x.field, .int .i64 x.place, .int .i64 x.to, .int .i64 x.a, .int .i64 x.b, .int .i64 x.f.id, .int .i64 x.f.kind, .int .i64 x.f.lo, .int .i64 x.f.hi, .int .i64 x.f.most, .int .i64 x.n, .str x.s, intsV x.t, fldsV x.fields, .int .i64 v, frmsU l, .int .i64 p, .int .i64 e]
-- folds: dbl
-- folds: cse
-- fold madO x V L P E := [int .i64 x.op, int .i64 x.form, int .i64 x.field, int .i64 x.place, int .i64 x.to, int .i64 x.a, int .i64 x.b, int .i64 x.f.id, int .i64 x.f.kind, int .i64 x.f.lo, int .i64 x.f.hi, int .i64 x.f.most, int .i64 x.n, str x.s, lst .ro 1 (map (fun n => int .i64 n) x.t), lst .ro 5 (map fldV x.fields), int .i64 V, lst .uq 2 (map frmV L), int .i64 P, int .i64 E]
noncomputable def s_gClone {α : Type} (A : Alg α) (l : List Fld) (kc : List AV → List (Nat × List AV) → α) : α :=
  nilEq A Md.ro (map fldV l) fun b0 => bif b0 then (kc [lst .uq 5 []] []) else (A.chk (decide (((0 : Nat) + (map fldV l).length) * 40 ≤ 211106232532992)) (bif (([] ++ map fldV l).all AV.flat) then (kc [lst .uq 5 ([] ++ map fldV l)] []) else A.fail))
noncomputable def s_gcopied {α : Type} (A : Alg α) (s : Sch) (kc : List AV → List (Nat × List AV) → α) : α :=
  A.chk true (A.chk true (A.chk true (A.chk true (A.asm ((map frmV s.forms).length ≤ maxL) (A.loop 3 [lst .ro 2 (map frmV s.forms), int .i64 (↑(map frmV s.forms).length : Int), int .i64 0] [[int .i64 0, lst .ro 2 []], [int .i64 s.ver, lst .uq 2 []]] fun j0 l1 l2 => bif (j0.beq 1) then (asN A l1 (asC A l2 fun l3 l4 => asC A l3 fun v5 l6 => asI A .i64 v5 fun n7 => asC A l6 fun v8 l9 => asL A 2 v8 fun l10 => asN A l9 (asC A l4 fun l11 l12 => asC A l11 fun v13 l14 => asI A .i64 v13 fun n15 => asC A l14 fun v16 l17 => asUq A 2 v16 fun l18 => asN A l17 (asN A l12 (A.chk true (A.chk true (A.chk true (A.chk true (bif (l18.all AV.flat) then (kc [agg [int .i64 n15, lst .uq 2 l18]] []) else A.fail))))))))) else A.fail)))))
noncomputable def s_gcopiedL {α : Type} (A : Alg α) (l : List Frm) (v : Int) (d : List Frm) (m : Int) (i : Int) (next : List AV → List (List AV) → α) (kc : Nat → List AV → List (List AV) → α) : α :=
  bif (decide (i < m)) then (A.chk (decide ((0 : Int) ≤ i)) (nthE A (map frmV l) i.toNat fun v0 => asA A v0 fun l1 => asC A l1 fun v2 l3 => asI A .i64 v2 fun n4 => asC A l3 fun v5 l6 => asL A 5 v5 fun l7 => asN A l6 (A.chk true (A.chk true (A.chk true (A.both (A.call 37 [lst .ro 5 l7] [] fun l8 l9 => asC A l8 fun v10 l11 => asUq A 5 v10 fun l12 => asN A l11 (asN A l9 (bif (l12.all AV.flat) then (A.chk true (A.chk true (A.chk true (A.chk (decide (((map frmV d).length + [agg [int .i64 n4, lst .ro (nat_lit 5) l12]].length) * 32 ≤ 211106232532992)) (A.chk true (bif ((map frmV d ++ [agg [int .i64 n4, lst .ro (nat_lit 5) l12]]).all AV.flat) then (next [lst .ro 2 (map frmV l), int .i64 m, int .i64 (IntKind.i64.wrap (i + (1 : Int)))] [[int .i64 0, lst .ro 2 []], [int .i64 v, lst .uq 2 (map frmV d ++ [agg [int .i64 n4, lst .ro (nat_lit 5) l12]])]]) else A.fail)))))) else A.fail))) (A.call 37 [lst .ro 5 l7] [] fun l13 l14 => asC A l13 fun v15 l16 => asUq A 5 v15 fun l17 => asN A l16 (asN A l14 (bif (l17.all AV.flat) then (A.chk true (A.chk true (dbl A (A.chk true (A.chk (decide (((map frmV d).length + [agg [int .i64 n4, lst .ro (nat_lit 5) l17]].length) * 32 ≤ 211106232532992)) (A.chk true (bif ((map frmV d ++ [agg [int .i64 n4, lst .ro (nat_lit 5) l17]]).all AV.flat) then (next [lst .ro 2 (map frmV l), int .i64 m, int .i64 (IntKind.i64.wrap (i + (1 : Int)))] [[int .i64 0, lst .ro 2 []], [int .i64 v, lst .uq 2 (map frmV d ++ [agg [int .i64 n4, lst .ro (nat_lit 5) l17]])]]) else A.fail))))))) else A.fail))))))))) else (bif ((map frmV d).all AV.flat) then (kc 1 [] [[int .i64 0, lst .ro 2 []], [int .i64 v, lst .uq 2 (map frmV d)]]) else A.fail)
noncomputable def s_gfind {α : Type} (A : Alg α) (x : Stp) (v : Int) (l : List Frm) (p : Int) (e : Int) (kc : List AV → List (Nat × List AV) → α) : α :=
  bif (fitI [((0 : Nat), (madO x v l p e))] && [ref (0 : Nat) (0 : Nat)].all fitA && nodupN (map (fun x => x.fst) (oshOf T0 (0 : Nat) [ref (0 : Nat) (0 : Nat)] Go.Proofs.Try.f68.params.toList)) && (oshOf T0 (0 : Nat) [ref (0 : Nat) (0 : Nat)] Go.Proofs.Try.f68.params.toList).all fun p => p.fst.blt (64 : Nat)) then (A.chk true (bif ((map frmV l).all AV.flat) then (A.loop 2 [] [(madO x v l 0 e)] fun j0 l1 l2 => bif (j0.beq 1) then (asN A l1 (asC A l2 fun l3 l4 => asC A l3 fun v5 l6 => asI A .i64 v5 fun n7 => asC A l6 fun v8 l9 => asI A .i64 v8 fun n10 => asC A l9 fun v11 l12 => asI A .i64 v11 fun n13 => asC A l12 fun v14 l15 => asI A .i64 v14 fun n16 => asC A l15 fun v17 l18 => asI A .i64 v17 fun n19 => asC A l18 fun v20 l21 => asI A .i64 v20 fun n22 => asC A l21 fun v23 l24 => asI A .i64 v23 fun n25 => asC A l24 fun v26 l27 => asI A .i64 v26 fun n28 => asC A l27 fun v29 l30 => asI A .i64 v29 fun n31 => asC A l30 fun v32 l33 => asI A .i64 v32 fun n34 => asC A l33 fun v35 l36 => asI A .i64 v35 fun n37 => asC A l36 fun v38 l39 => asI A .i64 v38 fun n40 => asC A l39 fun v41 l42 => asI A .i64 v41 fun n43 => asC A l42 fun v44 l45 => asS A v44 fun l46 => asC A l45 fun v47 l48 => asL A 1 v47 fun l49 => asC A l48 fun v50 l51 => asL A 5 v50 fun l52 => asC A l51 fun v53 l54 => asI A .i64 v53 fun n55 => asC A l54 fun v56 l57 => asUq A 2 v56 fun l58 => asC A l57 fun v59 l60 => asI A .i64 v59 fun n61 => asC A l60 fun v62 l63 => asI A .i64 v62 fun n64 => asN A l63 (asN A l4 (A.join (fun x65 => A.asm (l58.length ≤ maxL) (bif (decide (n61 < (↑l58.length : Int))) then (A.chk (decide ((0 : Int) ≤ n61) && decide (n61 < (↑l58.length : Int))) (nthE A l58 n61.toNat fun v66 => nthE A v66.cells 0 fun v67 => bin A (TD.mk (TK.int IntKind.i64) 1 8 [int .i64 0] (Sh.int IntKind.i64) []) BinOp.eql v67 (int .i64 n10) fun v68 => asB A v68 fun b69 => x65 b69)) else (x65 false))) fun b70 => bif (l58.all AV.flat) then (kc [bool b70] [(0, [int .i64 n7, int .i64 n10, int .i64 n13, int .i64 n16, int .i64 n19, int .i64 n22, int .i64 n25, int .i64 n28, int .i64 n31, int .i64 n34, int .i64 n37, int .i64 n40, int .i64 n43, str l46, lst .ro 1 l49, lst .ro 5 l52, int .i64 n55, lst .uq 2 l58, int .i64 n61, int .i64 n64])]) else A.fail)))) else A.fail) else A.fail)) else A.fail
noncomputable def s_gfindL {α : Type} (A : Alg α) (x : Stp) (v : Int) (l : List Frm) (p : Int) (e : Int) (next : List AV → List (List AV) → α) (kc : Nat → List AV → List (List AV) → α) : α :=
  A.join (fun x0 => A.asm ((map frmV l).length ≤ maxL) (bif (decide (p < (↑(map frmV l).length : Int))) then (A.chk (decide ((0 : Int) ≤ p) && decide (p < (↑(map frmV l).length : Int))) (nthE A (map frmV l) p.toNat fun v1 => nthE A v1.cells 0 fun v2 => bin A (TD.mk (TK.int IntKind.i64) 1 8 [int .i64 0] (Sh.int IntKind.i64) []) BinOp.lss v2 (int .i64 x.form) fun v3 => asB A v3 fun b4 => x0 b4)) else (x0 false))) fun b5 => bif b5 then (A.chk true (bif ((map frmV l).all AV.flat) then (next [] [(madO x v l (IntKind.i64.wrap (p + (1 : Int))) e)]) else A.fail)) else (bif ((map frmV l).all AV.flat) then (kc 1 [] [(madO x v l p e)]) else A.fail)
noncomputable def s_gthere_k2 {α : Type} (A : Alg α) (x : Stp) (v : Int) (l : List Frm) (p : Int) (e : Int) (kc : List AV → List (Nat × List AV) → α) (j72 : Nat) (l73 : List AV) (l74 : List (List AV)) : α :=
  bif (j72.beq 0) then (asC A l73 fun v75 l76 => asI A .i64 v75 fun n77 => asN A l76 (asC A l74 fun l78 l79 => asC A l78 fun v80 l81 => asI A .i64 v80 fun n82 => asC A l81 fun v83 l84 => asI A .i64 v83 fun n85 => asC A l84 fun v86 l87 => asI A .i64 v86 fun n88 => asC A l87 fun v89 l90 => asI A .i64 v89 fun n91 => asC A l90 fun v92 l93 => asI A .i64 v92 fun n94 => asC A l93 fun v95 l96 => asI A .i64 v95 fun n97 => asC A l96 fun v98 l99 => asI A .i64 v98 fun n100 => asC A l99 fun v101 l102 => asI A .i64 v101 fun n103 => asC A l102 fun v104 l105 => asI A .i64 v104 fun n106 => asC A l105 fun v107 l108 => asI A .i64 v107 fun n109 => asC A l108 fun v110 l111 => asI A .i64 v110 fun n112 => asC A l111 fun v113 l114 => asI A .i64 v113 fun n115 => asC A l114 fun v116 l117 => asI A .i64 v116 fun n118 => asC A l117 fun v119 l120 => asS A v119 fun l121 => asC A l120 fun v122 l123 => asL A 1 v122 fun l124 => asC A l123 fun v125 l126 => asL A 5 v125 fun l127 => asC A l126 fun v128 l129 => asI A .i64 v128 fun n130 => asC A l129 fun v131 l132 => asUq A 2 v131 fun l133 => asC A l132 fun v134 l135 => asI A .i64 v134 fun n136 => asC A l135 fun v137 l138 => asI A .i64 v137 fun n139 => asN A l138 (asN A l79 (bif (l133.all AV.flat) then (kc [int .i64 n77] [(0, [int .i64 n82, int .i64 n85, int .i64 n88, int .i64 n91, int .i64 n94, int .i64 n97, int .i64 n100, int .i64 n103, int .i64 n106, int .i64 n109, int .i64 n112, int .i64 n115, int .i64 n118, str l121, lst .ro 1 l124, lst .ro 5 l127, int .i64 n130, lst .uq 2 l133, int .i64 n136, int .i64 n139])]) else A.fail)))) else A.fail
noncomputable def s_gthere_k3 {α : Type} (A : Alg α) (x : Stp) (v : Int) (l : List Frm) (p : Int) (e : Int) (kc : List AV → List (Nat × List AV) → α) (l57 : List AV) (n18 : Int) (n6 : Int) (n9 : Int) (n12 : Int) (n15 : Int) (n21 : Int) (n24 : Int) (n27 : Int) (n30 : Int) (n33 : Int) (n36 : Int) (n39 : Int) (n42 : Int) (l45 : List UInt8) (l48 : List AV) (l51 : List AV) (n54 : Int) (n60 : Int) (n71 : Int) (v67 : AV) : α :=
  bif (l57.all AV.flat) then (A.loop 1000020 [int .i64 n18] [[int .i64 n6, int .i64 n9, int .i64 n12, int .i64 n15, int .i64 n18, int .i64 n21, int .i64 n24, int .i64 n27, int .i64 n30, int .i64 n33, int .i64 n36, int .i64 n39, int .i64 n42, str l45, lst .ro 1 l48, lst .ro 5 l51, int .i64 n54, lst .uq 2 l57, int .i64 n60, int .i64 n71], (map AV.dem1 (setAt ((tabAt T0 (E0.an (35 : Nat) (0 : Nat))).ty (52 : Nat)).zero (0 : Nat) (List.take (2 : Nat) (List.drop (0 : Nat) v67.cells))))] fun j140 l141 l142 => s_gthere_k2 A x v l p e kc j140 l141 l142) else A.fail
noncomputable def s_gthere_k1 {α : Type} (A : Alg α) (x : Stp) (v : Int) (l : List Frm) (p : Int) (e : Int) (kc : List AV → List (Nat × List AV) → α) (l57 : List AV) (n60 : Int) (n12 : Int) (n6 : Int) (n27 : Int) (n9 : Int) (n15 : Int) (n18 : Int) (n21 : Int) (n24 : Int) (n30 : Int) (n33 : Int) (n36 : Int) (n39 : Int) (n42 : Int) (l45 : List UInt8) (l48 : List AV) (l51 : List AV) (n54 : Int) : α :=
  nthE A l57 n60.toNat fun v67 => A.chk (Nat.ble (2 : Nat) v67.cells.length) (A.chk ((List.take (2 : Nat) (List.drop (0 : Nat) v67.cells)).length.beq (2 : Nat)) (A.chk (((0 : Nat) + (List.take (2 : Nat) (List.drop (0 : Nat) v67.cells)).length).ble (2 : Nat)) (bif ((map AV.dem1 (setAt ((tabAt T0 (E0.an (35 : Nat) (0 : Nat))).ty (52 : Nat)).zero (0 : Nat) (List.take (2 : Nat) (List.drop (0 : Nat) v67.cells)))).all AV.flat1) then (A.chk (Nat.ble (2 : Nat) (map AV.dem1 (setAt ((tabAt T0 (E0.an (35 : Nat) (0 : Nat))).ty (52 : Nat)).zero (0 : Nat) (List.take (2 : Nat) (List.drop (0 : Nat) v67.cells)))).length) (bif ([agg (demSL [Sh.int IntKind.i64, Sh.lst (5 : Nat)] (List.take ((tabAt T0 (E0.an (35 : Nat) (0 : Nat))).ty (52 : Nat)).size (List.drop (0 : Nat) (map AV.dem1 (setAt ((tabAt T0 (E0.an (35 : Nat) (0 : Nat))).ty (52 : Nat)).zero (0 : Nat) (List.take ((tabAt T0 (E0.an (35 : Nat) (0 : Nat))).ty (52 : Nat)).size (List.drop (0 : Nat) v67.cells))))))), int .i64 n12].all AV.flat && [agg (List.take (2 : Nat) (List.drop (0 : Nat) (map AV.dem1 (setAt ((tabAt T0 (E0.an (35 : Nat) (0 : Nat))).ty (52 : Nat)).zero (0 : Nat) (List.take (2 : Nat) (List.drop (0 : Nat) v67.cells)))))), int .i64 n12].length.beq (2 : Nat)) then (A.callx 69 [agg (demSL [Sh.int IntKind.i64, Sh.lst (5 : Nat)] (List.take (2 : Nat) (List.drop (0 : Nat) (map AV.dem1 (setAt ((tabAt T0 (E0.an (35 : Nat) (0 : Nat))).ty (52 : Nat)).zero (0 : Nat) (List.take (2 : Nat) (List.drop (0 : Nat) v67.cells))))))), int .i64 n12] fun l68 => asC A l68 fun v69 l70 => asI A .i64 v69 fun n71 => asN A l70 (A.chk true (bif (n6 == (1 : Int)) then (A.chk true (bif (l57.all AV.flat) then (A.loop 1000020 [int .i64 n27] [[int .i64 n6, int .i64 n9, int .i64 n12, int .i64 n15, int .i64 n18, int .i64 n21, int .i64 n24, int .i64 n27, int .i64 n30, int .i64 n33, int .i64 n36, int .i64 n39, int .i64 n42, str l45, lst .ro 1 l48, lst .ro 5 l51, int .i64 n54, lst .uq 2 l57, int .i64 n60, int .i64 n15], (map AV.dem1 (setAt ((tabAt T0 (E0.an (35 : Nat) (0 : Nat))).ty (52 : Nat)).zero (0 : Nat) (List.take (2 : Nat) (List.drop (0 : Nat) v67.cells))))] fun j72 l73 l74 => s_gthere_k2 A x v l p e kc j72 l73 l74) else A.fail)) else (bif (n6 == (6 : Int)) then (s_gthere_k3 A x v l p e kc l57 n18 n6 n9 n12 n15 n21 n24 n27 n30 n33 n36 n39 n42 l45 l48 l51 n54 n60 n71 v67) else (bif (n6 == (8 : Int)) then (s_gthere_k3 A x v l p e kc l57 n18 n6 n9 n12 n15 n21 n24 n27 n30 n33 n36 n39 n42 l45 l48 l51 n54 n60 n71 v67) else (bif (n6 == (10 : Int)) then (A.chk true (bif (l57.all AV.flat) then (A.loop 1000020 [int .i64 (-1)] [[int .i64 n6, int .i64 n9, int .i64 n12, int .i64 n15, int .i64 n18, int .i64 n21, int .i64 n24, int .i64 n27, int .i64 n30, int .i64 n33, int .i64 n36, int .i64 n39, int .i64 n42, str l45, lst .ro 1 l48, lst .ro 5 l51, int .i64 n54, lst .uq 2 l57, int .i64 n60, int .i64 0], (map AV.dem1 (setAt ((tabAt T0 (E0.an (35 : Nat) (0 : Nat))).ty (52 : Nat)).zero (0 : Nat) (List.take (2 : Nat) (List.drop (0 : Nat) v67.cells))))] fun j276 l277 l278 => s_gthere_k2 A x v l p e kc j276 l277 l278) else A.fail)) else (bif (l57.all AV.flat) then (A.loop 1000020 [int .i64 (-1)] [[int .i64 n6, int .i64 n9, int .i64 n12, int .i64 n15, int .i64 n18, int .i64 n21, int .i64 n24, int .i64 n27, int .i64 n30, int .i64 n33, int .i64 n36, int .i64 n39, int .i64 n42, str l45, lst .ro 1 l48, lst .ro 5 l51, int .i64 n54, lst .uq 2 l57, int .i64 n60, int .i64 n71], (map AV.dem1 (setAt ((tabAt T0 (E0.an (35 : Nat) (0 : Nat))).ty (52 : Nat)).zero (0 : Nat) (List.take (2 : Nat) (List.drop (0 : Nat) v67.cells))))] fun j344 l345 l346 => s_gthere_k2 A x v l p e kc j344 l345 l346) else A.fail))))))) else A.fail)) else A.fail)))
noncomputable def s_gthere_k4 {α : Type} (A : Alg α) (x : Stp) (v : Int) (l : List Frm) (p : Int) (e : Int) (kc : List AV → List (Nat × List AV) → α) (n60 : Int) (l57 : List AV) (n12 : Int) (n6 : Int) (n27 : Int) (n9 : Int) (n15 : Int) (n18 : Int) (n21 : Int) (n24 : Int) (n30 : Int) (n33 : Int) (n36 : Int) (n39 : Int) (n42 : Int) (l45 : List UInt8) (l48 : List AV) (l51 : List AV) (n54 : Int) : α :=
  A.both (A.both (A.chk (decide ((0 : Int) ≤ n60) && decide (n60 < (↑l57.length : Int))) (dbl A (s_gthere_k1 A x v l p e kc l57 n60 n12 n6 n27 n9 n15 n18 n21 n24 n30 n33 n36 n39 n42 l45 l48 l51 n54))) (A.chk (decide ((0 : Int) ≤ n60) && decide (n60 < (↑l57.length : Int))) (s_gthere_k1 A x v l p e kc l57 n60 n12 n6 n27 n9 n15 n18 n21 n24 n30 n33 n36 n39 n42 l45 l48 l51 n54))) (A.chk (decide ((0 : Int) ≤ n60) && decide (n60 < (↑l57.length : Int))) (s_gthere_k1 A x v l p e kc l57 n60 n12 n6 n27 n9 n15 n18 n21 n24 n30 n33 n36 n39 n42 l45 l48 l51 n54))
noncomputable def s_gthere {α : Type} (A : Alg α) (x : Stp) (v : Int) (l : List Frm) (p : Int) (e : Int) (kc : List AV → List (Nat × List AV) → α) : α :=
  bif (fitI [((0 : Nat), (madO x v l p e))] && [ref (0 : Nat) (0 : Nat)].all fitA && nodupN (map (fun x => x.fst) (oshOf T0 (0 : Nat) [ref (0 : Nat) (0 : Nat)] Go.Proofs.Try.f35.params.toList)) && (oshOf T0 (0 : Nat) [ref (0 : Nat) (0 : Nat)] Go.Proofs.Try.f35.params.toList).all fun p => p.fst.blt (64 : Nat)) then (bif ((map frmV l).all AV.flat) then (A.call 68 [ref 0 0] [(0, (madO x v l p e))] fun l0 l1 => asC A l1 fun x2 l3 => bif (x2.1.beq 0) then (asC A x2.2 fun v4 l5 => asI A .i64 v4 fun n6 => asC A l5 fun v7 l8 => asI A .i64 v7 fun n9 => asC A l8 fun v10 l11 => asI A .i64 v10 fun n12 => asC A l11 fun v13 l14 => asI A .i64 v13 fun n15 => asC A l14 fun v16 l17 => asI A .i64 v16 fun n18 => asC A l17 fun v19 l20 => asI A .i64 v19 fun n21 => asC A l20 fun v22 l23 => asI A .i64 v22 fun n24 => asC A l23 fun v25 l26 => asI A .i64 v25 fun n27 => asC A l26 fun v28 l29 => asI A .i64 v28 fun n30 => asC A l29 fun v31 l32 => asI A .i64 v31 fun n33 => asC A l32 fun v34 l35 => asI A .i64 v34 fun n36 => asC A l35 fun v37 l38 => asI A .i64 v37 fun n39 => asC A l38 fun v40 l41 => asI A .i64 v40 fun n42 => asC A l41 fun v43 l44 => asS A v43 fun l45 => asC A l44 fun v46 l47 => asL A 1 v46 fun l48 => asC A l47 fun v49 l50 => asL A 5 v49 fun l51 => asC A l50 fun v52 l53 => asI A .i64 v52 fun n54 => asC A l53 fun v55 l56 => asUq A 2 v55 fun l57 => asC A l56 fun v58 l59 => asI A .i64 v58 fun n60 => asC A l59 fun v61 l62 => asI A .i64 v61 fun n63 => asN A l62 (asC A l0 fun v64 l65 => asB A v64 fun b66 => asN A l65 (asN A l3 (bif (n6 == (9 : Int)) then (bif b66 then (bif (l57.all AV.flat) then (kc [int .i64 9] [(0, [int .i64 n6, int .i64 n9, int .i64 n12, int .i64 n15, int .i64 n18, int .i64 n21, int .i64 n24, int .i64 n27, int .i64 n30, int .i64 n33, int .i64 n36, int .i64 n39, int .i64 n42, str l45, lst .ro 1 l48, lst .ro 5 l51, int .i64 n54, lst .uq 2 l57, int .i64 n60, int .i64 n63])]) else A.fail) else (bif (l57.all AV.flat) then (kc [int .i64 0] [(0, [int .i64 n6, int .i64 n9, int .i64 n12, int .i64 n15, int .i64 n18, int .i64 n21, int .i64 n24, int .i64 n27, int .i64 n30, int .i64 n33, int .i64 n36, int .i64 n39, int .i64 n42, str l45, lst .ro 1 l48, lst .ro 5 l51, int .i64 n54, lst .uq 2 l57, int .i64 n60, int .i64 n63])]) else A.fail)) else (bif (!b66) then (bif (l57.all AV.flat) then (kc [int .i64 8] [(0, [int .i64 n6, int .i64 n9, int .i64 n12, int .i64 n15, int .i64 n18, int .i64 n21, int .i64 n24, int .i64 n27, int .i64 n30, int .i64 n33, int .i64 n36, int .i64 n39, int .i64 n42, str l45, lst .ro 1 l48, lst .ro 5 l51, int .i64 n54, lst .uq 2 l57, int .i64 n60, int .i64 n63])]) else A.fail) else (A.both (s_gthere_k4 A x v l p e kc n60 l57 n12 n6 n27 n9 n15 n18 n21 n24 n30 n33 n36 n39 n42 l45 l48 l51 n54) (A.both (s_gthere_k4 A x v l p e kc n60 l57 n12 n6 n27 n9 n15 n18 n21 n24 n30 n33 n36 n39 n42 l45 l48 l51 n54) (dbl A (A.chk (decide ((0 : Int) ≤ n60) && decide (n60 < (↑l57.length : Int))) (s_gthere_k1 A x v l p e kc l57 n60 n12 n6 n27 n9 n15 n18 n21 n24 n30 n33 n36 n39 n42 l45 l48 l51 n54)))))))))) else A.fail) else A.fail) else A.fail
noncomputable def s_gthereM {α : Type} (A : Alg α) (x : Stp) (v : Int) (l : List Frm) (p : Int) (e : Int) (g : Frm) (n : Int) (next : List AV → List (List AV) → α) (kc : Nat → List AV → List (List AV) → α) : α :=
  bif (decide (e < (0 : Int))) then (bif ((map frmV l).all AV.flat) then (kc 0 [int .i64 8] [(madO x v l p e)]) else A.fail) else (A.join (fun x0 => bif (decide (n ≥ (0 : Int))) then (A.chk true (A.callx 69 [agg [int .i64 g.id, lst .ro 5 (map fldV g.fields)], int .i64 n] fun l1 => asC A l1 fun v2 l3 => asI A .i64 v2 fun n4 => asN A l3 (x0 (decide (n4 ≥ (0 : Int)))))) else (x0 false)) fun b5 => bif b5 then (bif ((map frmV l).all AV.flat) then (kc 0 [int .i64 9] [(madO x v l p e)]) else A.fail) else (A.join (fun x6 => bif (x.op == (1 : Int)) then (A.asm ((map fldV g.fields).length ≤ maxL) (x6 (decide (x.place > (↑(map fldV g.fields).length : Int))))) else (x6 false)) fun b7 => bif b7 then (bif ((map frmV l).all AV.flat) then (kc 0 [int .i64 3] [(madO x v l p e)]) else A.fail) else (A.join (fun x8 => bif (x.op == (7 : Int)) then (A.asm ((map fldV g.fields).length ≤ maxL) (x8 (decide (x.place ≥ (↑(map fldV g.fields).length : Int))))) else (x8 false)) fun b9 => bif b9 then (bif ((map frmV l).all AV.flat) then (kc 0 [int .i64 3] [(madO x v l p e)]) else A.fail) else (bif ((map frmV l).all AV.flat) then (kc 0 [int .i64 0] [(madO x v l p e)]) else A.fail))))
noncomputable def s_gfields {α : Type} (A : Alg α) (x : Stp) (v : Int) (l : List Frm) (p : Int) (e : Int) (kc : List AV → List (Nat × List AV) → α) : α :=
  bif (fitI [((0 : Nat), (madO x v l p e))] && [ref (0 : Nat) (0 : Nat)].all fitA && nodupN (map (fun x => x.fst) (oshOf T0 (0 : Nat) [ref (0 : Nat) (0 : Nat)] Go.Proofs.Try.f72.params.toList)) && (oshOf T0 (0 : Nat) [ref (0 : Nat) (0 : Nat)] Go.Proofs.Try.f72.params.toList).all fun p => p.fst.blt (64 : Nat)) then (A.chk (decide ((0 : Int) ≤ p) && decide (p < (↑(map frmV l).length : Int))) (nthE A (map frmV l) p.toNat fun v0 => nthE A v0.cells 1 fun v1 => bif ((map frmV l).all AV.flat) then (exp0 A (Sh.lst 5) (Nm.R 0) v1 (updN (ofN (nmsA (0 : Nat) [ref (0 : Nat) (0 : Nat)] ++ nmsI [((0 : Nat), (madO x v l p e))])) (Nm.E ((0 : Nat), (madO x v l p e)).fst (17 : Nat)) Cs.dead) fun v2 x3 => kc [v2] [(0, (madO x v l p e))]) else A.fail)) else A.fail
noncomputable def s_gown_k1 {α : Type} (A : Alg α) (x : Stp) (v : Int) (l : List Frm) (p : Int) (e : Int) (kc : List AV → List (Nat × List AV) → α) (v67 : AV) (l57 : List AV) (n6 : Int) (n9 : Int) (n12 : Int) (n15 : Int) (n18 : Int) (n21 : Int) (n24 : Int) (n27 : Int) (n30 : Int) (n33 : Int) (n36 : Int) (n39 : Int) (n42 : Int) (l45 : List UInt8) (l48 : List AV) (l51 : List AV) (n54 : Int) (n60 : Int) (n63 : Int) : α :=
  asA A v67 fun l68 => asC A l68 fun v69 l70 => asI A .i64 v69 fun n71 => asC A l70 fun v72 l73 => asI A .i64 v72 fun n74 => asC A l73 fun v75 l76 => asI A .i64 v75 fun n77 => asC A l76 fun v78 l79 => asI A .i64 v78 fun n80 => asC A l79 fun v81 l82 => asI A .i64 v81 fun n83 => asN A l82 (A.chk true (A.chk true (A.chk true (A.chk true (bif (l57.all AV.flat) then (kc [agg [int .i64 n71, int .i64 n74, int .i64 n77, int .i64 n80, int .i64 n83]] [(0, [int .i64 n6, int .i64 n9, int .i64 n12, int .i64 n15, int .i64 n18, int .i64 n21, int .i64 n24, int .i64 n27, int .i64 n30, int .i64 n33, int .i64 n36, int .i64 n39, int .i64 n42, str l45, lst .ro 1 l48, lst .ro 5 l51, int .i64 n54, lst .uq 2 l57, int .i64 n60, int .i64 n63])]) else A.fail)))))
noncomputable def s_gown {α : Type} (A : Alg α) (x : Stp) (v : Int) (l : List Frm) (p : Int) (e : Int) (kc : List AV → List (Nat × List AV) → α) : α :=
  bif (fitI [((0 : Nat), (madO x v l p e))] && [ref (0 : Nat) (0 : Nat)].all fitA && nodupN (map (fun x => x.fst) (oshOf T0 (0 : Nat) [ref (0 : Nat) (0 : Nat)] Go.Proofs.Try.f73.params.toList)) && (oshOf T0 (0 : Nat) [ref (0 : Nat) (0 : Nat)] Go.Proofs.Try.f73.params.toList).all fun p => p.fst.blt (64 : Nat)) then (A.both (bif ((map frmV l).all AV.flat) then (A.call 72 [ref 0 0] [(0, (madO x v l p e))] fun l0 l1 => asC A l1 fun x2 l3 => bif (x2.1.beq 0) then (asC A x2.2 fun v4 l5 => asI A .i64 v4 fun n6 => asC A l5 fun v7 l8 => asI A .i64 v7 fun n9 => asC A l8 fun v10 l11 => asI A .i64 v10 fun n12 => asC A l11 fun v13 l14 => asI A .i64 v13 fun n15 => asC A l14 fun v16 l17 => asI A .i64 v16 fun n18 => asC A l17 fun v19 l20 => asI A .i64 v19 fun n21 => asC A l20 fun v22 l23 => asI A .i64 v22 fun n24 => asC A l23 fun v25 l26 => asI A .i64 v25 fun n27 => asC A l26 fun v28 l29 => asI A .i64 v28 fun n30 => asC A l29 fun v31 l32 => asI A .i64 v31 fun n33 => asC A l32 fun v34 l35 => asI A .i64 v34 fun n36 => asC A l35 fun v37 l38 => asI A .i64 v37 fun n39 => asC A l38 fun v40 l41 => asI A .i64 v40 fun n42 => asC A l41 fun v43 l44 => asS A v43 fun l45 => asC A l44 fun v46 l47 => asL A 1 v46 fun l48 => asC A l47 fun v49 l50 => asL A 5 v49 fun l51 => asC A l50 fun v52 l53 => asI A .i64 v52 fun n54 => asC A l53 fun v55 l56 => asUq A 2 v55 fun l57 => asC A l56 fun v58 l59 => asI A .i64 v58 fun n60 => asC A l59 fun v61 l62 => asI A .i64 v61 fun n63 => asN A l62 (asC A l0 fun v64 l65 => asL A 5 v64 fun l66 => asN A l65 (asN A l3 (A.chk (decide ((0 : Int) ≤ n63)) (nthE A l66 n63.toNat fun v67 => s_gown_k1 A x v l p e kc v67 l57 n6 n9 n12 n15 n18 n21 n24 n27 n30 n33 n36 n39 n42 l45 l48 l51 n54 n60 n63))))) else A.fail) else A.fail) (bif ((map frmV l).all AV.flat) then (A.call 72 [ref 0 0] [(0, (madO x v l p e))] fun l84 l85 => asC A l85 fun x86 l87 => bif (x86.1.beq 0) then (asC A x86.2 fun v88 l89 => asI A .i64 v88 fun n90 => asC A l89 fun v91 l92 => asI A .i64 v91 fun n93 => asC A l92 fun v94 l95 => asI A .i64 v94 fun n96 => asC A l95 fun v97 l98 => asI A .i64 v97 fun n99 => asC A l98 fun v100 l101 => asI A .i64 v100 fun n102 => asC A l101 fun v103 l104 => asI A .i64 v103 fun n105 => asC A l104 fun v106 l107 => asI A .i64 v106 fun n108 => asC A l107 fun v109 l110 => asI A .i64 v109 fun n111 => asC A l110 fun v112 l113 => asI A .i64 v112 fun n114 => asC A l113 fun v115 l116 => asI A .i64 v115 fun n117 => asC A l116 fun v118 l119 => asI A .i64 v118 fun n120 => asC A l119 fun v121 l122 => asI A .i64 v121 fun n123 => asC A l122 fun v124 l125 => asI A .i64 v124 fun n126 => asC A l125 fun v127 l128 => asS A v127 fun l129 => asC A l128 fun v130 l131 => asL A 1 v130 fun l132 => asC A l131 fun v133 l134 => asL A 5 v133 fun l135 => asC A l134 fun v136 l137 => asI A .i64 v136 fun n138 => asC A l137 fun v139 l140 => asUq A 2 v139 fun l141 => asC A l140 fun v142 l143 => asI A .i64 v142 fun n144 => asC A l143 fun v145 l146 => asI A .i64 v145 fun n147 => asN A l146 (asC A l84 fun v148 l149 => asL A 5 v148 fun l150 => asN A l149 (asN A l87 (A.chk (decide ((0 : Int) ≤ e)) (nthE A l150 e.toNat fun v151 => s_gown_k1 A x v l p e kc v151 l141 n90 n93 n96 n99 n102 n105 n108 n111 n114 n117 n120 n123 n126 l129 l132 l135 n138 n144 n147))))) else A.fail) else A.fail)) else A.fail
noncomputable def s_gscaled_k2 {α : Type} (A : Alg α) (f : Fld) (a : Int) (b : Int) (kc : List AV → List (Nat × List AV) → α) (b11 : Bool) : α :=
  A.chk true (A.chk true (A.chk true (kc [agg [int .i64 f.id, int .i64 f.kind, int .i64 (if IntKind.i64.wrap (IntKind.i64.wrap (a * f.hi) + b) < IntKind.i64.wrap (IntKind.i64.wrap (a * f.lo) + b) then IntKind.i64.wrap (IntKind.i64.wrap (a * f.hi) + b) else IntKind.i64.wrap (IntKind.i64.wrap (a * f.lo) + b)), int .i64 (if IntKind.i64.wrap (IntKind.i64.wrap (a * f.lo) + b) < IntKind.i64.wrap (IntKind.i64.wrap (a * f.hi) + b) then IntKind.i64.wrap (IntKind.i64.wrap (a * f.hi) + b) else IntKind.i64.wrap (IntKind.i64.wrap (a * f.lo) + b)), int .i64 f.most], bool b11] [])))
noncomputable def s_gscaled_k1 {α : Type} (A : Alg α) (f : Fld) (a : Int) (b : Int) (kc : List AV → List (Nat × List AV) → α)  : α :=
  A.chk true (A.callx 89 [agg [int .i64 f.id, int .i64 f.kind, int .i64 (if IntKind.i64.wrap (IntKind.i64.wrap (a * f.hi) + b) < IntKind.i64.wrap (IntKind.i64.wrap (a * f.lo) + b) then IntKind.i64.wrap (IntKind.i64.wrap (a * f.hi) + b) else IntKind.i64.wrap (IntKind.i64.wrap (a * f.lo) + b)), int .i64 (if IntKind.i64.wrap (IntKind.i64.wrap (a * f.lo) + b) < IntKind.i64.wrap (IntKind.i64.wrap (a * f.hi) + b) then IntKind.i64.wrap (IntKind.i64.wrap (a * f.hi) + b) else IntKind.i64.wrap (IntKind.i64.wrap (a * f.lo) + b)), int .i64 f.most]] fun l0 => asC A l0 fun v1 l2 => asB A v1 fun b3 => asN A l2 (s_gscaled_k2 A f a b kc b3))
noncomputable def s_gscaled {α : Type} (A : Alg α) (f : Fld) (a : Int) (b : Int) (kc : List AV → List (Nat × List AV) → α) : α :=
  A.chk true (A.chk true (A.chk true (A.both (A.chk true (s_gscaled_k1 A f a b kc)) (A.chk true (A.both (s_gscaled_k1 A f a b kc) (A.callx 89 [agg [int .i64 f.id, int .i64 f.kind, int .i64 (if IntKind.i64.wrap (IntKind.i64.wrap (a * f.hi) + b) < IntKind.i64.wrap (IntKind.i64.wrap (a * f.lo) + b) then IntKind.i64.wrap (IntKind.i64.wrap (a * f.hi) + b) else IntKind.i64.wrap (IntKind.i64.wrap (a * f.lo) + b)), int .i64 (if IntKind.i64.wrap (IntKind.i64.wrap (a * f.lo) + b) < IntKind.i64.wrap (IntKind.i64.wrap (a * f.hi) + b) then IntKind.i64.wrap (IntKind.i64.wrap (a * f.hi) + b) else IntKind.i64.wrap (IntKind.i64.wrap (a * f.lo) + b)), int .i64 f.most]] fun l8 => asC A l8 fun v9 l10 => asB A v9 fun b11 => asN A l10 (A.chk true (s_gscaled_k2 A f a b kc b11))))))))
noncomputable def s_gWider {α : Type} (A : Alg α) (f : Fld) (g : Fld) (kc : List AV → List (Nat × List AV) → α) : α :=
  A.chk true (A.chk true (A.join (fun x0 => A.chk true (A.callx 89 [agg [int .i64 f.id, int .i64 f.kind, int .i64 f.lo, int .i64 f.hi, int .i64 f.most]] fun l1 => asC A l1 fun v2 l3 => asB A v2 fun b4 => asN A l3 (bif (!b4) then (x0 true) else (A.chk true (A.callx 89 [agg [int .i64 g.id, int .i64 g.kind, int .i64 g.lo, int .i64 g.hi, int .i64 g.most]] fun l5 => asC A l5 fun v6 l7 => asB A v6 fun b8 => asN A l7 (bif (!b8) then (x0 true) else (x0 (f.kind != g.kind)))))))) fun b9 => bif b9 then (kc [bool false] []) else (A.chk true (A.callx 104 [agg [int .i64 f.id, int .i64 f.kind, int .i64 f.lo, int .i64 f.hi, int .i64 f.most]] fun l10 => asC A l10 fun v11 l12 => asI A .i64 v11 fun n13 => asC A l12 fun v14 l15 => asI A .i64 v14 fun n16 => asN A l15 (A.chk true (A.callx 104 [agg [int .i64 g.id, int .i64 g.kind, int .i64 g.lo, int .i64 g.hi, int .i64 g.most]] fun l17 => asC A l17 fun v18 l19 => asI A .i64 v18 fun n20 => asC A l19 fun v21 l22 => asI A .i64 v21 fun n23 => asN A l22 (A.join (fun x24 => bif (decide (n20 ≤ n13)) then (bif (decide (n16 ≤ n23)) then (x24 (decide (f.most ≤ g.most))) else (x24 false)) else (x24 false)) fun b25 => kc [bool b25] [])))))))
noncomputable def s_gturned_k1 {α : Type} (A : Alg α) (x : Stp) (v : Int) (l : List Frm) (p : Int) (e : Int) (kc : List AV → List (Nat × List AV) → α) (l57 : List AV) (b89 : Bool) (n6 : Int) (n9 : Int) (n12 : Int) (n15 : Int) (n18 : Int) (n21 : Int) (n24 : Int) (n27 : Int) (n30 : Int) (n33 : Int) (n36 : Int) (n39 : Int) (n42 : Int) (l45 : List UInt8) (l48 : List AV) (l51 : List AV) (n54 : Int) (n60 : Int) (n63 : Int) : α :=
  bif (l57.all AV.flat) then (kc [lst .uq 5 [agg [int .i64 x.f.id, int .i64 x.f.kind, int .i64 x.f.lo, int .i64 x.f.hi, int .i64 x.f.most]], int .i64 1, bool b89] [(0, [int .i64 n6, int .i64 n9, int .i64 n12, int .i64 n15, int .i64 n18, int .i64 n21, int .i64 n24, int .i64 n27, int .i64 n30, int .i64 n33, int .i64 n36, int .i64 n39, int .i64 n42, str l45, lst .ro 1 l48, lst .ro 5 l51, int .i64 n54, lst .uq 2 l57, int .i64 n60, int .i64 n63])]) else A.fail
noncomputable def s_gturned_k2 {α : Type} (A : Alg α) (x : Stp) (v : Int) (l : List Frm) (p : Int) (e : Int) (kc : List AV → List (Nat × List AV) → α) (n69 : Int) (n72 : Int) (n75 : Int) (n78 : Int) (n81 : Int) (l57 : List AV) (n6 : Int) (n9 : Int) (n12 : Int) (n15 : Int) (n18 : Int) (n21 : Int) (n24 : Int) (n27 : Int) (n30 : Int) (n33 : Int) (n36 : Int) (n39 : Int) (n42 : Int) (l45 : List UInt8) (l48 : List AV) (l51 : List AV) (n54 : Int) (n60 : Int) (n63 : Int) : α :=
  A.chk true (A.callx 98 [agg [int .i64 n69, int .i64 n72, int .i64 n75, int .i64 n78, int .i64 n81], agg [int .i64 x.f.id, int .i64 x.f.kind, int .i64 x.f.lo, int .i64 x.f.hi, int .i64 x.f.most]] fun l86 => asC A l86 fun v87 l88 => asB A v87 fun b89 => asN A l88 (s_gturned_k1 A x v l p e kc l57 b89 n6 n9 n12 n15 n18 n21 n24 n27 n30 n33 n36 n39 n42 l45 l48 l51 n54 n60 n63))
noncomputable def s_gturned {α : Type} (A : Alg α) (x : Stp) (v : Int) (l : List Frm) (p : Int) (e : Int) (kc : List AV → List (Nat × List AV) → α) : α :=
  bif (fitI [((0 : Nat), (madO x v l p e))] && [ref (0 : Nat) (0 : Nat)].all fitA && nodupN (map (fun x => x.fst) (oshOf T0 (0 : Nat) [ref (0 : Nat) (0 : Nat)] Go.Proofs.Try.f76.params.toList)) && (oshOf T0 (0 : Nat) [ref (0 : Nat) (0 : Nat)] Go.Proofs.Try.f76.params.toList).all fun p => p.fst.blt (64 : Nat)) then (A.chk true (A.chk true (A.chk true (bif (x.op == (1 : Int)) then (A.chk true (A.chk true (bif ((map frmV l).all AV.flat) then (kc [lst .uq 5 [agg [int .i64 x.f.id, int .i64 x.f.kind, int .i64 x.f.lo, int .i64 x.f.hi, int .i64 x.f.most]], int .i64 0, bool true] [(0, (madO x v l p e))]) else A.fail))) else (bif ((map frmV l).all AV.flat) then (A.call 73 [ref 0 0] [(0, (madO x v l p e))] fun l0 l1 => asC A l1 fun x2 l3 => bif (x2.1.beq 0) then (asC A x2.2 fun v4 l5 => asI A .i64 v4 fun n6 => asC A l5 fun v7 l8 => asI A .i64 v7 fun n9 => asC A l8 fun v10 l11 => asI A .i64 v10 fun n12 => asC A l11 fun v13 l14 => asI A .i64 v13 fun n15 => asC A l14 fun v16 l17 => asI A .i64 v16 fun n18 => asC A l17 fun v19 l20 => asI A .i64 v19 fun n21 => asC A l20 fun v22 l23 => asI A .i64 v22 fun n24 => asC A l23 fun v25 l26 => asI A .i64 v25 fun n27 => asC A l26 fun v28 l29 => asI A .i64 v28 fun n30 => asC A l29 fun v31 l32 => asI A .i64 v31 fun n33 => asC A l32 fun v34 l35 => asI A .i64 v34 fun n36 => asC A l35 fun v37 l38 => asI A .i64 v37 fun n39 => asC A l38 fun v40 l41 => asI A .i64 v40 fun n42 => asC A l41 fun v43 l44 => asS A v43 fun l45 => asC A l44 fun v46 l47 => asL A 1 v46 fun l48 => asC A l47 fun v49 l50 => asL A 5 v49 fun l51 => asC A l50 fun v52 l53 => asI A .i64 v52 fun n54 => asC A l53 fun v55 l56 => asUq A 2 v55 fun l57 => asC A l56 fun v58 l59 => asI A .i64 v58 fun n60 => asC A l59 fun v61 l62 => asI A .i64 v61 fun n63 => asN A l62 (asC A l0 fun v64 l65 => asA A v64 fun l66 => asC A l66 fun v67 l68 => asI A .i64 v67 fun n69 => asC A l68 fun v70 l71 => asI A .i64 v70 fun n72 => asC A l71 fun v73 l74 => asI A .i64 v73 fun n75 => asC A l74 fun v76 l77 => asI A .i64 v76 fun n78 => asC A l77 fun v79 l80 => asI A .i64 v79 fun n81 => asN A l80 (asN A l65 (asN A l3 (A.chk true (A.chk true (bif (x.op == (2 : Int)) then (A.chk true (A.chk true (A.callx 91 [agg [int .i64 n69, int .i64 n72, int .i64 n75, int .i64 n78, int .i64 n81], agg [int .i64 x.n, str x.s]] fun l82 => asC A l82 fun v83 l84 => asB A v83 fun b85 => asN A l84 (bif (l57.all AV.flat) then (kc [lst .uq 5 [], int .i64 1, bool b85] [(0, [int .i64 n6, int .i64 n9, int .i64 n12, int .i64 n15, int .i64 n18, int .i64 n21, int .i64 n24, int .i64 n27, int .i64 n30, int .i64 n33, int .i64 n36, int .i64 n39, int .i64 n42, str l45, lst .ro 1 l48, lst .ro 5 l51, int .i64 n54, lst .uq 2 l57, int .i64 n60, int .i64 n63])]) else A.fail)))) else (bif (x.op == (3 : Int)) then (A.chk true (A.chk true (A.both (A.chk true (s_gturned_k2 A x v l p e kc n69 n72 n75 n78 n81 l57 n6 n9 n12 n15 n18 n21 n24 n27 n30 n33 n36 n39 n42 l45 l48 l51 n54 n60 n63)) (A.chk true (A.both (s_gturned_k2 A x v l p e kc n69 n72 n75 n78 n81 l57 n6 n9 n12 n15 n18 n21 n24 n27 n30 n33 n36 n39 n42 l45 l48 l51 n54 n60 n63) (A.callx 98 [agg [int .i64 n69, int .i64 n72, int .i64 n75, int .i64 n78, int .i64 n81], agg [int .i64 x.f.id, int .i64 x.f.kind, int .i64 x.f.lo, int .i64 x.f.hi, int .i64 x.f.most]] fun l94 => asC A l94 fun v95 l96 => asB A v95 fun b97 => asN A l96 (A.chk true (s_gturned_k1 A x v l p e kc l57 b97 n6 n9 n12 n15 n18 n21 n24 n27 n30 n33 n36 n39 n42 l45 l48 l51 n54 n60 n63)))))))) else (bif (x.op == (4 : Int)) then (A.chk true (A.chk true (A.chk true (bif (n72 == (1 : Int)) then (A.chk true (A.callx 99 [agg [int .i64 n69, int .i64 n72, int .i64 n75, int .i64 n78, int .i64 n81], int .i64 x.a, int .i64 x.b] fun l98 => asC A l98 fun v99 l100 => asA A v99 fun l101 => asC A l101 fun v102 l103 => asI A .i64 v102 fun n104 => asC A l103 fun v105 l106 => asI A .i64 v105 fun n107 => asC A l106 fun v108 l109 => asI A .i64 v108 fun n110 => asC A l109 fun v111 l112 => asI A .i64 v111 fun n113 => asC A l112 fun v114 l115 => asI A .i64 v114 fun n116 => asN A l115 (asC A l100 fun v117 l118 => asB A v117 fun b119 => asN A l118 (A.chk true (A.chk true (A.chk true (A.chk true (bif (l57.all AV.flat) then (kc [lst .uq 5 [agg [int .i64 n104, int .i64 n107, int .i64 n110, int .i64 n113, int .i64 n116]], int .i64 1, bool b119] [(0, [int .i64 n6, int .i64 n9, int .i64 n12, int .i64 n15, int .i64 n18, int .i64 n21, int .i64 n24, int .i64 n27, int .i64 n30, int .i64 n33, int .i64 n36, int .i64 n39, int .i64 n42, str l45, lst .ro 1 l48, lst .ro 5 l51, int .i64 n54, lst .uq 2 l57, int .i64 n60, int .i64 n63])]) else A.fail)))))))) else (A.chk true (A.chk true (bif (l57.all AV.flat) then (kc [lst .uq 5 [agg [int .i64 n69, int .i64 n72, int .i64 n75, int .i64 n78, int .i64 n81]], int .i64 1, bool false] [(0, [int .i64 n6, int .i64 n9, int .i64 n12, int .i64 n15, int .i64 n18, int .i64 n21, int .i64 n24, int .i64 n27, int .i64 n30, int .i64 n33, int .i64 n36, int .i64 n39, int .i64 n42, str l45, lst .ro 1 l48, lst .ro 5 l51, int .i64 n54, lst .uq 2 l57, int .i64 n60, int .i64 n63])]) else A.fail))))))) else (bif (x.op == (5 : Int)) then (A.join (fun x120 => bif (n72 == (3 : Int)) then (A.asm ((map (fun n => int .i64 n) x.t).length ≤ maxL) (x120 (n81 == (↑(map (fun n => int .i64 n) x.t).length : Int)))) else (x120 false)) fun b121 => A.chk true (A.chk true (A.chk true (bif (l57.all AV.flat) then (kc [lst .uq 5 [agg [int .i64 n69, int .i64 n72, int .i64 n75, int .i64 n78, int .i64 x.a]], int .i64 1, bool b121] [(0, [int .i64 n6, int .i64 n9, int .i64 n12, int .i64 n15, int .i64 n18, int .i64 n21, int .i64 n24, int .i64 n27, int .i64 n30, int .i64 n33, int .i64 n36, int .i64 n39, int .i64 n42, str l45, lst .ro 1 l48, lst .ro 5 l51, int .i64 n54, lst .uq 2 l57, int .i64 n60, int .i64 n63])]) else A.fail)))) else (bif (x.op == (6 : Int)) then (A.chk true (A.chk true (A.chk true (A.chk true (A.chk true (A.join (fun x122 => bif (n72 == (1 : Int)) then (x122 (n75 == (0 : Int))) else (x122 false)) fun b123 => A.chk (!x.a == (0 : Int)) (A.chk true (A.chk true (A.chk true (A.chk true (A.chk true (bif (l57.all AV.flat) then (kc [lst .uq 5 [agg [int .i64 n69, int .i64 n72, int .i64 n75, int .i64 (IntKind.i64.wrap (n78.tdiv x.a)), int .i64 n81], agg [int .i64 x.to, int .i64 1, int .i64 0, int .i64 (if n78 < IntKind.i64.wrap (x.a - (1 : Int)) then n78 else IntKind.i64.wrap (x.a - (1 : Int))), int .i64 0]], int .i64 1, bool b123] [(0, [int .i64 n6, int .i64 n9, int .i64 n12, int .i64 n15, int .i64 n18, int .i64 n21, int .i64 n24, int .i64 n27, int .i64 n30, int .i64 n33, int .i64 n36, int .i64 n39, int .i64 n42, str l45, lst .ro 1 l48, lst .ro 5 l51, int .i64 n54, lst .uq 2 l57, int .i64 n60, int .i64 n63])]) else A.fail)))))))))))) else (A.chk true (A.chk true (A.chk true (bif (l57.all AV.flat) then (kc [lst .uq 5 [agg [int .i64 x.to, int .i64 n72, int .i64 n75, int .i64 n78, int .i64 n81]], int .i64 1, bool true] [(0, [int .i64 n6, int .i64 n9, int .i64 n12, int .i64 n15, int .i64 n18, int .i64 n21, int .i64 n24, int .i64 n27, int .i64 n30, int .i64 n33, int .i64 n36, int .i64 n39, int .i64 n42, str l45, lst .ro 1 l48, lst .ro 5 l51, int .i64 n54, lst .uq 2 l57, int .i64 n60, int .i64 n63])]) else A.fail))))))))))))))) else A.fail) else A.fail))))) else A.fail
noncomputable def s_gchange_k5 {α : Type} (A : Alg α) (x : Stp) (v : Int) (l : List Frm) (p : Int) (e : Int) (kc : List AV → List (Nat × List AV) → α) (l777 : List AV) (l778 : List (Nat × List AV)) (n764 : Int) (l761 : List AV) (n710 : Int) (n713 : Int) (n716 : Int) (n719 : Int) (n722 : Int) (n725 : Int) (n728 : Int) (n731 : Int) (n734 : Int) (n737 : Int) (n740 : Int) (n743 : Int) (n746 : Int) (l749 : List UInt8) (l752 : List AV) (l755 : List AV) (n758 : Int) (n767 : Int) : α :=
  asC A l777 fun v779 l780 => asUq A 5 v779 fun l781 => asN A l780 (asN A l778 (bif (l781.all AV.flat) then (dbl A (A.chk (decide ((0 : Int) ≤ n764) && decide (n764 < (↑l761.length : Int))) (nthE A l761 n764.toNat fun v782 => A.chk (((1 : Nat) + [lst .ro (nat_lit 5) l781].length).ble v782.cells.length) (putC A v782 (setAt v782.cells (1 : Nat) [lst .ro (nat_lit 5) l781]) fun v783 => A.chk v783.flat (bif ((l761.set n764.toNat v783).all AV.flat) then (kc [bool true] [(0, [int .i64 n710, int .i64 n713, int .i64 n716, int .i64 n719, int .i64 n722, int .i64 n725, int .i64 n728, int .i64 n731, int .i64 n734, int .i64 n737, int .i64 n740, int .i64 n743, int .i64 n746, str l749, lst .ro 1 l752, lst .ro 5 l755, int .i64 n758, lst .uq 2 (l761.set n764.toNat v783), int .i64 n764, int .i64 n767])]) else A.fail))))) else A.fail))
noncomputable def s_gchange_k1 {α : Type} (A : Alg α) (x : Stp) (v : Int) (l : List Frm) (p : Int) (e : Int) (kc : List AV → List (Nat × List AV) → α) (l158 : List AV) (n87 : Int) (n141 : Int) (n144 : Int) (n147 : Int) (n150 : Int) (n153 : Int) (n132 : Int) (l129 : List AV) (n78 : Int) (n81 : Int) (n84 : Int) (n90 : Int) (n93 : Int) (n96 : Int) (n99 : Int) (n102 : Int) (n105 : Int) (n108 : Int) (n111 : Int) (n114 : Int) (l117 : List UInt8) (l120 : List AV) (l123 : List AV) (n126 : Int) (n135 : Int) : α :=
  bif (l158.all AV.flat) then (A.call 74 [lst .uq 5 l158, int .i64 n87, lst .uq 5 [agg [int .i64 n141, int .i64 n144, int .i64 n147, int .i64 n150, int .i64 n153]]] [] fun l159 l160 => s_gchange_k5 A x v l p e kc l159 l160 n132 l129 n78 n81 n84 n87 n90 n93 n96 n99 n102 n105 n108 n111 n114 l117 l120 l123 n126 n135) else A.fail
noncomputable def s_gchange_k2 {α : Type} (A : Alg α) (x : Stp) (v : Int) (l : List Frm) (p : Int) (e : Int) (kc : List AV → List (Nat × List AV) → α) (l71 : List AV) (n135 : Int) (n87 : Int) (n141 : Int) (n144 : Int) (n147 : Int) (n150 : Int) (n153 : Int) (n132 : Int) (l129 : List AV) (n78 : Int) (n81 : Int) (n84 : Int) (n90 : Int) (n93 : Int) (n96 : Int) (n99 : Int) (n102 : Int) (n105 : Int) (n108 : Int) (n111 : Int) (n114 : Int) (l117 : List UInt8) (l120 : List AV) (l123 : List AV) (n126 : Int) : α :=
  bif (l71.all AV.flat) then (A.call 75 [lst .uq 5 l71, int .i64 n135, int .i64 (IntKind.i64.wrap (n135 + (1 : Int)))] [] fun l191 l192 => asC A l191 fun v193 l194 => asUq A 5 v193 fun l195 => asN A l194 (asN A l192 (s_gchange_k1 A x v l p e kc l195 n87 n141 n144 n147 n150 n153 n132 l129 n78 n81 n84 n90 n93 n96 n99 n102 n105 n108 n111 n114 l117 l120 l123 n126 n135))) else A.fail
noncomputable def s_gchange_k3 {α : Type} (A : Alg α) (x : Stp) (v : Int) (l : List Frm) (p : Int) (e : Int) (kc : List AV → List (Nat × List AV) → α) (l71 : List AV) (n135 : Int) (n87 : Int) (n141 : Int) (n144 : Int) (n147 : Int) (n150 : Int) (n153 : Int) (n132 : Int) (l129 : List AV) (n78 : Int) (n81 : Int) (n84 : Int) (n90 : Int) (n93 : Int) (n96 : Int) (n99 : Int) (n102 : Int) (n105 : Int) (n108 : Int) (n111 : Int) (n114 : Int) (l117 : List UInt8) (l120 : List AV) (l123 : List AV) (n126 : Int) : α :=
  A.both (bif (l71.all AV.flat) then (A.call 75 [lst .uq 5 l71, int .i64 n135, int .i64 (IntKind.i64.wrap (n135 + (1 : Int)))] [] fun l177 l178 => asC A l177 fun v179 l180 => asUq A 5 v179 fun l181 => asN A l180 (asN A l178 (A.chk true (s_gchange_k1 A x v l p e kc l181 n87 n141 n144 n147 n150 n153 n132 l129 n78 n81 n84 n90 n93 n96 n99 n102 n105 n108 n111 n114 l117 l120 l123 n126 n135)))) else A.fail) (A.chk true (s_gchange_k2 A x v l p e kc l71 n135 n87 n141 n144 n147 n150 n153 n132 l129 n78 n81 n84 n90 n93 n96 n99 n102 n105 n108 n111 n114 l117 l120 l123 n126))
noncomputable def s_gchange_k6 {α : Type} (A : Alg α) (x : Stp) (v : Int) (l : List Frm) (p : Int) (e : Int) (kc : List AV → List (Nat × List AV) → α) (l71 : List AV) (n135 : Int) (n87 : Int) (n141 : Int) (n144 : Int) (n147 : Int) (n150 : Int) (n153 : Int) (n132 : Int) (l129 : List AV) (n78 : Int) (n81 : Int) (n84 : Int) (n90 : Int) (n93 : Int) (n96 : Int) (n99 : Int) (n102 : Int) (n105 : Int) (n108 : Int) (n111 : Int) (n114 : Int) (l117 : List UInt8) (l120 : List AV) (l123 : List AV) (n126 : Int) : α :=
  A.both (s_gchange_k3 A x v l p e kc l71 n135 n87 n141 n144 n147 n150 n153 n132 l129 n78 n81 n84 n90 n93 n96 n99 n102 n105 n108 n111 n114 l117 l120 l123 n126) (A.chk true (s_gchange_k2 A x v l p e kc l71 n135 n87 n141 n144 n147 n150 n153 n132 l129 n78 n81 n84 n90 n93 n96 n99 n102 n105 n108 n111 n114 l117 l120 l123 n126))
noncomputable def s_gchange_k7 {α : Type} (A : Alg α) (x : Stp) (v : Int) (l : List Frm) (p : Int) (e : Int) (kc : List AV → List (Nat × List AV) → α) (l71 : List AV) (n135 : Int) (n87 : Int) (n141 : Int) (n144 : Int) (n147 : Int) (n150 : Int) (n153 : Int) (n132 : Int) (l129 : List AV) (n78 : Int) (n81 : Int) (n84 : Int) (n90 : Int) (n93 : Int) (n96 : Int) (n99 : Int) (n102 : Int) (n105 : Int) (n108 : Int) (n111 : Int) (n114 : Int) (l117 : List UInt8) (l120 : List AV) (l123 : List AV) (n126 : Int) : α :=
  A.both (dbl A (s_gchange_k2 A x v l p e kc l71 n135 n87 n141 n144 n147 n150 n153 n132 l129 n78 n81 n84 n90 n93 n96 n99 n102 n105 n108 n111 n114 l117 l120 l123 n126)) (s_gchange_k2 A x v l p e kc l71 n135 n87 n141 n144 n147 n150 n153 n132 l129 n78 n81 n84 n90 n93 n96 n99 n102 n105 n108 n111 n114 l117 l120 l123 n126)
noncomputable def s_gchange_k4 {α : Type} (A : Alg α) (x : Stp) (v : Int) (l : List Frm) (p : Int) (e : Int) (kc : List AV → List (Nat × List AV) → α) (l71 : List AV) (n135 : Int) (n87 : Int) (n141 : Int) (n144 : Int) (n147 : Int) (n150 : Int) (n153 : Int) (n132 : Int) (l129 : List AV) (n78 : Int) (n81 : Int) (n84 : Int) (n90 : Int) (n93 : Int) (n96 : Int) (n99 : Int) (n102 : Int) (n105 : Int) (n108 : Int) (n111 : Int) (n114 : Int) (l117 : List UInt8) (l120 : List AV) (l123 : List AV) (n126 : Int) : α :=
  A.both (A.both (bif (l71.all AV.flat) then (A.call 75 [lst .uq 5 l71, int .i64 n135, int .i64 (IntKind.i64.wrap (n135 + (1 : Int)))] [] fun l154 l155 => asC A l154 fun v156 l157 => asUq A 5 v156 fun l158 => asN A l157 (asN A l155 (dbl A (A.chk true (s_gchange_k1 A x v l p e kc l158 n87 n141 n144 n147 n150 n153 n132 l129 n78 n81 n84 n90 n93 n96 n99 n102 n105 n108 n111 n114 l117 l120 l123 n126 n135))))) else A.fail) (A.both (s_gchange_k3 A x v l p e kc l71 n135 n87 n141 n144 n147 n150 n153 n132 l129 n78 n81 n84 n90 n93 n96 n99 n102 n105 n108 n111 n114 l117 l120 l123 n126) (A.chk true (dbl A (s_gchange_k2 A x v l p e kc l71 n135 n87 n141 n144 n147 n150 n153 n132 l129 n78 n81 n84 n90 n93 n96 n99 n102 n105 n108 n111 n114 l117 l120 l123 n126))))) (A.both (s_gchange_k6 A x v l p e kc l71 n135 n87 n141 n144 n147 n150 n153 n132 l129 n78 n81 n84 n90 n93 n96 n99 n102 n105 n108 n111 n114 l117 l120 l123 n126) (A.chk true (s_gchange_k7 A x v l p e kc l71 n135 n87 n141 n144 n147 n150 n153 n132 l129 n78 n81 n84 n90 n93 n96 n99 n102 n105 n108 n111 n114 l117 l120 l123 n126)))
noncomputable def s_gchange {α : Type} (A : Alg α) (x : Stp) (v : Int) (l : List Frm) (p : Int) (e : Int) (kc : List AV → List (Nat × List AV) → α) : α :=
  bif (fitI [((0 : Nat), (madO x v l p e))] && [ref (0 : Nat) (0 : Nat)].all fitA && nodupN (map (fun x => x.fst) (oshOf T0 (0 : Nat) [ref (0 : Nat) (0 : Nat)] Go.Proofs.Try.f39.params.toList)) && (oshOf T0 (0 : Nat) [ref (0 : Nat) (0 : Nat)] Go.Proofs.Try.f39.params.toList).all fun p => p.fst.blt (64 : Nat)) then (bif ((map frmV l).all AV.flat) then (A.call 72 [ref 0 0] [(0, (madO x v l p e))] fun l0 l1 => asC A l1 fun x2 l3 => bif (x2.1.beq 0) then (asC A x2.2 fun v4 l5 => asI A .i64 v4 fun n6 => asC A l5 fun v7 l8 => asI A .i64 v7 fun n9 => asC A l8 fun v10 l11 => asI A .i64 v10 fun n12 => asC A l11 fun v13 l14 => asI A .i64 v13 fun n15 => asC A l14 fun v16 l17 => asI A .i64 v16 fun n18 => asC A l17 fun v19 l20 => asI A .i64 v19 fun n21 => asC A l20 fun v22 l23 => asI A .i64 v22 fun n24 => asC A l23 fun v25 l26 => asI A .i64 v25 fun n27 => asC A l26 fun v28 l29 => asI A .i64 v28 fun n30 => asC A l29 fun v31 l32 => asI A .i64 v31 fun n33 => asC A l32 fun v34 l35 => asI A .i64 v34 fun n36 => asC A l35 fun v37 l38 => asI A .i64 v37 fun n39 => asC A l38 fun v40 l41 => asI A .i64 v40 fun n42 => asC A l41 fun v43 l44 => asS A v43 fun l45 => asC A l44 fun v46 l47 => asL A 1 v46 fun l48 => asC A l47 fun v49 l50 => asL A 5 v49 fun l51 => asC A l50 fun v52 l53 => asI A .i64 v52 fun n54 => asC A l53 fun v55 l56 => asUq A 2 v55 fun l57 => asC A l56 fun v58 l59 => asI A .i64 v58 fun n60 => asC A l59 fun v61 l62 => asI A .i64 v61 fun n63 => asN A l62 (asC A l0 fun v64 l65 => asL A 5 v64 fun l66 => asN A l65 (asN A l3 (A.call 37 [lst .ro 5 l66] [] fun l67 l68 => asC A l67 fun v69 l70 => asUq A 5 v69 fun l71 => asN A l70 (asN A l68 (bif (n6 == (7 : Int)) then (bif (l57.all AV.flat) then (A.call 73 [ref 0 0] [(0, [int .i64 n6, int .i64 n9, int .i64 n12, int .i64 n15, int .i64 n18, int .i64 n21, int .i64 n24, int .i64 n27, int .i64 n30, int .i64 n33, int .i64 n36, int .i64 n39, int .i64 n42, str l45, lst .ro 1 l48, lst .ro 5 l51, int .i64 n54, lst .uq 2 l57, int .i64 n60, int .i64 n63])] fun l72 l73 => asC A l73 fun x74 l75 => bif (x74.1.beq 0) then (asC A x74.2 fun v76 l77 => asI A .i64 v76 fun n78 => asC A l77 fun v79 l80 => asI A .i64 v79 fun n81 => asC A l80 fun v82 l83 => asI A .i64 v82 fun n84 => asC A l83 fun v85 l86 => asI A .i64 v85 fun n87 => asC A l86 fun v88 l89 => asI A .i64 v88 fun n90 => asC A l89 fun v91 l92 => asI A .i64 v91 fun n93 => asC A l92 fun v94 l95 => asI A .i64 v94 fun n96 => asC A l95 fun v97 l98 => asI A .i64 v97 fun n99 => asC A l98 fun v100 l101 => asI A .i64 v100 fun n102 => asC A l101 fun v103 l104 => asI A .i64 v103 fun n105 => asC A l104 fun v106 l107 => asI A .i64 v106 fun n108 => asC A l107 fun v109 l110 => asI A .i64 v109 fun n111 => asC A l110 fun v112 l113 => asI A .i64 v112 fun n114 => asC A l113 fun v115 l116 => asS A v115 fun l117 => asC A l116 fun v118 l119 => asL A 1 v118 fun l120 => asC A l119 fun v121 l122 => asL A 5 v121 fun l123 => asC A l122 fun v124 l125 => asI A .i64 v124 fun n126 => asC A l125 fun v127 l128 => asUq A 2 v127 fun l129 => asC A l128 fun v130 l131 => asI A .i64 v130 fun n132 => asC A l131 fun v133 l134 => asI A .i64 v133 fun n135 => asN A l134 (asC A l72 fun v136 l137 => asA A v136 fun l138 => asC A l138 fun v139 l140 => asI A .i64 v139 fun n141 => asC A l140 fun v142 l143 => asI A .i64 v142 fun n144 => asC A l143 fun v145 l146 => asI A .i64 v145 fun n147 => asC A l146 fun v148 l149 => asI A .i64 v148 fun n150 => asC A l149 fun v151 l152 => asI A .i64 v151 fun n153 => asN A l152 (asN A l137 (asN A l75 (A.chk true (A.chk true (A.chk true (A.both (s_gchange_k4 A x v l p e kc l71 n135 n87 n141 n144 n147 n150 n153 n132 l129 n78 n81 n84 n90 n93 n96 n99 n102 n105 n108 n111 n114 l117 l120 l123 n126) (A.both (s_gchange_k4 A x v l p e kc l71 n135 n87 n141 n144 n147 n150 n153 n132 l129 n78 n81 n84 n90 n93 n96 n99 n102 n105 n108 n111 n114 l117 l120 l123 n126) (A.both (A.both (s_gchange_k6 A x v l p e kc l71 n135 n87 n141 n144 n147 n150 n153 n132 l129 n78 n81 n84 n90 n93 n96 n99 n102 n105 n108 n111 n114 l117 l120 l123 n126) (A.both (s_gchange_k6 A x v l p e kc l71 n135 n87 n141 n144 n147 n150 n153 n132 l129 n78 n81 n84 n90 n93 n96 n99 n102 n105 n108 n111 n114 l117 l120 l123 n126) (A.chk true (dbl A (s_gchange_k2 A x v l p e kc l71 n135 n87 n141 n144 n147 n150 n153 n132 l129 n78 n81 n84 n90 n93 n96 n99 n102 n105 n108 n111 n114 l117 l120 l123 n126))))) (A.chk true (A.both (s_gchange_k7 A x v l p e kc l71 n135 n87 n141 n144 n147 n150 n153 n132 l129 n78 n81 n84 n90 n93 n96 n99 n102 n105 n108 n111 n114 l117 l120 l123 n126) (A.both (s_gchange_k7 A x v l p e kc l71 n135 n87 n141 n144 n147 n150 n153 n132 l129 n78 n81 n84 n90 n93 n96 n99 n102 n105 n108 n111 n114 l117 l120 l123 n126) (dbl A (s_gchange_k2 A x v l p e kc l71 n135 n87 n141 n144 n147 n150 n153 n132 l129 n78 n81 n84 n90 n93 n96 n99 n102 n105 n108 n111 n114 l117 l120 l123 n126))))))))))))))) else A.fail) else A.fail) else (bif (l57.all AV.flat) then (A.call 76 [ref 0 0] [(0, [int .i64 n6, int .i64 n9, int .i64 n12, int .i64 n15, int .i64 n18, int .i64 n21, int .i64 n24, int .i64 n27, int .i64 n30, int .i64 n33, int .i64 n36, int .i64 n39, int .i64 n42, str l45, lst .ro 1 l48, lst .ro 5 l51, int .i64 n54, lst .uq 2 l57, int .i64 n60, int .i64 n63])] fun l704 l705 => asC A l705 fun x706 l707 => bif (x706.1.beq 0) then (asC A x706.2 fun v708 l709 => asI A .i64 v708 fun n710 => asC A l709 fun v711 l712 => asI A .i64 v711 fun n713 => asC A l712 fun v714 l715 => asI A .i64 v714 fun n716 => asC A l715 fun v717 l718 => asI A .i64 v717 fun n719 => asC A l718 fun v720 l721 => asI A .i64 v720 fun n722 => asC A l721 fun v723 l724 => asI A .i64 v723 fun n725 => asC A l724 fun v726 l727 => asI A .i64 v726 fun n728 => asC A l727 fun v729 l730 => asI A .i64 v729 fun n731 => asC A l730 fun v732 l733 => asI A .i64 v732 fun n734 => asC A l733 fun v735 l736 => asI A .i64 v735 fun n737 => asC A l736 fun v738 l739 => asI A .i64 v738 fun n740 => asC A l739 fun v741 l742 => asI A .i64 v741 fun n743 => asC A l742 fun v744 l745 => asI A .i64 v744 fun n746 => asC A l745 fun v747 l748 => asS A v747 fun l749 => asC A l748 fun v750 l751 => asL A 1 v750 fun l752 => asC A l751 fun v753 l754 => asL A 5 v753 fun l755 => asC A l754 fun v756 l757 => asI A .i64 v756 fun n758 => asC A l757 fun v759 l760 => asUq A 2 v759 fun l761 => asC A l760 fun v762 l763 => asI A .i64 v762 fun n764 => asC A l763 fun v765 l766 => asI A .i64 v765 fun n767 => asN A l766 (asC A l704 fun v768 l769 => asUq A 5 v768 fun l770 => asC A l769 fun v771 l772 => asI A .i64 v771 fun n773 => asC A l772 fun v774 l775 => asB A v774 fun b776 => asN A l775 (asN A l707 (bif (!b776) then (bif (l761.all AV.flat) then (kc [bool false] [(0, [int .i64 n710, int .i64 n713, int .i64 n716, int .i64 n719, int .i64 n722, int .i64 n725, int .i64 n728, int .i64 n731, int .i64 n734, int .i64 n737, int .i64 n740, int .i64 n743, int .i64 n746, str l749, lst .ro 1 l752, lst .ro 5 l755, int .i64 n758, lst .uq 2 l761, int .i64 n764, int .i64 n767])]) else A.fail) else (dbl A (bif (l71.all AV.flat) then (bif (l770.all AV.flat) then (A.call 77 [lst .uq 5 l71, int .i64 n767, int .i64 (IntKind.i64.wrap (n767 + n773)), lst .uq 5 l770] [] fun l777 l778 => s_gchange_k5 A x v l p e kc l777 l778 n764 l761 n710 n713 n716 n719 n722 n725 n728 n731 n734 n737 n740 n743 n746 l749 l752 l755 n758 n767) else A.fail) else A.fail)))))) else A.fail) else A.fail))))))) else A.fail) else A.fail) else A.fail
noncomputable def s_gOn_k3 {α : Type} (A : Alg α) (s : Sch) (x : Stp) (kc : List AV → List (Nat × List AV) → α) (l332 : List AV) (n329 : Int) : α :=
  bif (l332.all AV.flat) then (A.chk true (A.callx 32 [agg [int .i64 n329, lst .ro 2 l332]] fun l342 => asC A l342 fun v343 l344 => asB A v343 fun b345 => asN A l344 (bif (!b345) then (A.chk true (A.chk true (A.chk true (kc [agg [int .i64 0, lst .ro 2 []], int .i64 7] [])))) else (A.chk true (A.chk true (A.chk true (A.chk true (kc [agg [int .i64 n329, lst .ro 2 l332], int .i64 0] [])))))))) else A.fail
noncomputable def s_gOn_k1 {α : Type} (A : Alg α) (s : Sch) (x : Stp) (kc : List AV → List (Nat × List AV) → α) (l93 : List AV) (l94 : List (Nat × List AV)) (n75 : Int) : α :=
  asC A l93 fun v95 l96 => asUq A 2 v95 fun l97 => asN A l96 (asN A l94 (A.chk true (s_gOn_k3 A s x kc l97 n75)))
noncomputable def s_gOn_k2 {α : Type} (A : Alg α) (s : Sch) (x : Stp) (kc : List AV → List (Nat × List AV) → α) (l78 : List AV) (n81 : Int) (n75 : Int) : α :=
  A.both (A.call 37 [lst .ro 5 (map fldV x.fields)] [] fun l88 l89 => asC A l88 fun v90 l91 => asUq A 5 v90 fun l92 => asN A l91 (asN A l89 (bif (l92.all AV.flat) then (A.chk true (A.chk true (A.chk true (bif (l78.all AV.flat) then (A.call 36 [lst .uq 2 l78, int .i64 n81, lst .uq 2 [agg [int .i64 x.form, lst .ro 5 l92]]] [] fun l93 l94 => s_gOn_k1 A s x kc l93 l94 n75) else A.fail)))) else A.fail))) (A.call 37 [lst .ro 5 (map fldV x.fields)] [] fun l102 l103 => asC A l102 fun v104 l105 => asUq A 5 v104 fun l106 => asN A l105 (asN A l103 (bif (l106.all AV.flat) then (A.chk true (A.chk true (dbl A (A.chk true (bif (l78.all AV.flat) then (A.call 36 [lst .uq 2 l78, int .i64 n81, lst .uq 2 [agg [int .i64 x.form, lst .ro 5 l106]]] [] fun l107 l108 => s_gOn_k1 A s x kc l107 l108 n75) else A.fail))))) else A.fail)))
noncomputable def s_gOn {α : Type} (A : Alg α) (s : Sch) (x : Stp) (kc : List AV → List (Nat × List AV) → α) : α :=
  A.chk true (A.chk true (A.join (fun x0 => A.chk true (A.callx 32 [agg [int .i64 s.ver, lst .ro 2 (map frmV s.forms)]] fun l1 => asC A l1 fun v2 l3 => asB A v2 fun b4 => asN A l3 (bif (!b4) then (x0 true) else (A.chk true (A.callx 33 [agg [int .i64 x.op, int .i64 x.form, int .i64 x.field, int .i64 x.place, int .i64 x.to, int .i64 x.a, int .i64 x.b, int .i64 x.f.id, int .i64 x.f.kind, int .i64 x.f.lo, int .i64 x.f.hi, int .i64 x.f.most, int .i64 x.n, str x.s, lst .ro 1 (map (fun n => int .i64 n) x.t), lst .ro 5 (map fldV x.fields)]] fun l5 => asC A l5 fun v6 l7 => asB A v6 fun b8 => asN A l7 (bif (!b8) then (x0 true) else (bif (decide (x.op < (1 : Int))) then (x0 true) else (x0 (decide (x.op > (10 : Int))))))))))) fun b9 => bif b9 then (A.chk true (A.chk true (A.chk true (kc [agg [int .i64 0, lst .ro 2 []], int .i64 2] [])))) else (A.chk true (A.chk true (A.call 34 [agg [int .i64 s.ver, lst .ro 2 (map frmV s.forms)]] [] fun l10 l11 => asC A l10 fun v12 l13 => asA A v12 fun l14 => asC A l14 fun v15 l16 => asI A .i64 v15 fun n17 => asC A l16 fun v18 l19 => asUq A 2 v18 fun l20 => asN A l19 (asN A l13 (asN A l11 (A.chk true (A.chk true (A.chk true (A.chk true (A.chk true (bif (l20.all AV.flat) then (A.call 35 [ref 0 0] [(0, [int .i64 x.op, int .i64 x.form, int .i64 x.field, int .i64 x.place, int .i64 x.to, int .i64 x.a, int .i64 x.b, int .i64 x.f.id, int .i64 x.f.kind, int .i64 x.f.lo, int .i64 x.f.hi, int .i64 x.f.most, int .i64 x.n, str x.s, lst .ro 1 (map (fun n => int .i64 n) x.t), lst .ro 5 (map fldV x.fields), int .i64 n17, lst .uq 2 l20, int .i64 0, int .i64 0])] fun l21 l22 => asC A l22 fun x23 l24 => bif (x23.1.beq 0) then (asC A x23.2 fun v25 l26 => asI A .i64 v25 fun n27 => asC A l26 fun v28 l29 => asI A .i64 v28 fun n30 => asC A l29 fun v31 l32 => asI A .i64 v31 fun n33 => asC A l32 fun v34 l35 => asI A .i64 v34 fun n36 => asC A l35 fun v37 l38 => asI A .i64 v37 fun n39 => asC A l38 fun v40 l41 => asI A .i64 v40 fun n42 => asC A l41 fun v43 l44 => asI A .i64 v43 fun n45 => asC A l44 fun v46 l47 => asI A .i64 v46 fun n48 => asC A l47 fun v49 l50 => asI A .i64 v49 fun n51 => asC A l50 fun v52 l53 => asI A .i64 v52 fun n54 => asC A l53 fun v55 l56 => asI A .i64 v55 fun n57 => asC A l56 fun v58 l59 => asI A .i64 v58 fun n60 => asC A l59 fun v61 l62 => asI A .i64 v61 fun n63 => asC A l62 fun v64 l65 => asS A v64 fun l66 => asC A l65 fun v67 l68 => asL A 1 v67 fun l69 => asC A l68 fun v70 l71 => asL A 5 v70 fun l72 => asC A l71 fun v73 l74 => asI A .i64 v73 fun n75 => asC A l74 fun v76 l77 => asUq A 2 v76 fun l78 => asC A l77 fun v79 l80 => asI A .i64 v79 fun n81 => asC A l80 fun v82 l83 => asI A .i64 v82 fun n84 => asN A l83 (asC A l21 fun v85 l86 => asI A .i64 v85 fun n87 => asN A l86 (asN A l24 (bif (n87 != (0 : Int)) then (A.chk true (A.chk true (A.chk true (kc [agg [int .i64 0, lst .ro 2 []], int .i64 n87] [])))) else (bif (x.op == (9 : Int)) then (A.both (s_gOn_k2 A s x kc l78 n81 n75) (A.both (s_gOn_k2 A s x kc l78 n81 n75) (A.call 37 [lst .ro 5 (map fldV x.fields)] [] fun l162 l163 => asC A l162 fun v164 l165 => asUq A 5 v164 fun l166 => asN A l165 (asN A l163 (bif (l166.all AV.flat) then (A.chk true (A.chk true (A.both (dbl A (A.chk true (bif (l78.all AV.flat) then (A.call 36 [lst .uq 2 l78, int .i64 n81, lst .uq 2 [agg [int .i64 x.form, lst .ro 5 l166]]] [] fun l167 l168 => s_gOn_k1 A s x kc l167 l168 n75) else A.fail))) (A.both (dbl A (A.chk true (bif (l78.all AV.flat) then (A.call 36 [lst .uq 2 l78, int .i64 n81, lst .uq 2 [agg [int .i64 x.form, lst .ro 5 l166]]] [] fun l185 l186 => s_gOn_k1 A s x kc l185 l186 n75) else A.fail))) (A.chk true (dbl A (bif (l78.all AV.flat) then (A.call 36 [lst .uq 2 l78, int .i64 n81, lst .uq 2 [agg [int .i64 x.form, lst .ro 5 l166]]] [] fun l203 l204 => s_gOn_k1 A s x kc l203 l204 n75) else A.fail))))))) else A.fail))))) else (bif (x.op == (10 : Int)) then (A.both (dbl A (bif (l78.all AV.flat) then (A.call 38 [lst .uq 2 l78, int .i64 n81, int .i64 (IntKind.i64.wrap (n81 + (1 : Int)))] [] fun l221 l222 => s_gOn_k1 A s x kc l221 l222 n75) else A.fail)) (dbl A (dbl A (bif (l78.all AV.flat) then (A.call 38 [lst .uq 2 l78, int .i64 n81, int .i64 (IntKind.i64.wrap (n81 + (1 : Int)))] [] fun l239 l240 => s_gOn_k1 A s x kc l239 l240 n75) else A.fail)))) else (bif (l78.all AV.flat) then (A.call 39 [ref 0 0] [(0, [int .i64 n27, int .i64 n30, int .i64 n33, int .i64 n36, int .i64 n39, int .i64 n42, int .i64 n45, int .i64 n48, int .i64 n51, int .i64 n54, int .i64 n57, int .i64 n60, int .i64 n63, str l66, lst .ro 1 l69, lst .ro 5 l72, int .i64 n75, lst .uq 2 l78, int .i64 n81, int .i64 n84])] fun l275 l276 => asC A l276 fun x277 l278 => bif (x277.1.beq 0) then (asC A x277.2 fun v279 l280 => asI A .i64 v279 fun n281 => asC A l280 fun v282 l283 => asI A .i64 v282 fun n284 => asC A l283 fun v285 l286 => asI A .i64 v285 fun n287 => asC A l286 fun v288 l289 => asI A .i64 v288 fun n290 => asC A l289 fun v291 l292 => asI A .i64 v291 fun n293 => asC A l292 fun v294 l295 => asI A .i64 v294 fun n296 => asC A l295 fun v297 l298 => asI A .i64 v297 fun n299 => asC A l298 fun v300 l301 => asI A .i64 v300 fun n302 => asC A l301 fun v303 l304 => asI A .i64 v303 fun n305 => asC A l304 fun v306 l307 => asI A .i64 v306 fun n308 => asC A l307 fun v309 l310 => asI A .i64 v309 fun n311 => asC A l310 fun v312 l313 => asI A .i64 v312 fun n314 => asC A l313 fun v315 l316 => asI A .i64 v315 fun n317 => asC A l316 fun v318 l319 => asS A v318 fun l320 => asC A l319 fun v321 l322 => asL A 1 v321 fun l323 => asC A l322 fun v324 l325 => asL A 5 v324 fun l326 => asC A l325 fun v327 l328 => asI A .i64 v327 fun n329 => asC A l328 fun v330 l331 => asUq A 2 v330 fun l332 => asC A l331 fun v333 l334 => asI A .i64 v333 fun n335 => asC A l334 fun v336 l337 => asI A .i64 v336 fun n338 => asN A l337 (asC A l275 fun v339 l340 => asB A v339 fun b341 => asN A l340 (asN A l278 (bif (!b341) then (A.chk true (A.chk true (A.chk true (kc [agg [int .i64 0, lst .ro 2 []], int .i64 17] [])))) else (s_gOn_k3 A s x kc l332 n329))))) else A.fail) else A.fail))))))) else A.fail) else A.fail)))))))))))))
noncomputable def s_gAll {α : Type} (A : Alg α) (s : Sch) (l : List Stp) (kc : List AV → List (Nat × List AV) → α) : α :=
  A.chk true (A.chk true (A.call 34 [agg [int .i64 s.ver, lst .ro 2 (map frmV s.forms)]] [] fun l0 l1 => asC A l0 fun v2 l3 => asA A v2 fun l4 => asC A l4 fun v5 l6 => asI A .i64 v5 fun n7 => asC A l6 fun v8 l9 => asUq A 2 v8 fun l10 => asN A l9 (asN A l3 (asN A l1 (bif (l10.all AV.flat) then (A.chk true (A.chk true (A.asm ((map stpV l).length ≤ maxL) (A.loop 3 [lst .ro 16 (map stpV l), int .i64 (↑(map stpV l).length : Int), int .i64 0] [[int .i64 0, lst .ro 2 []], [int .i64 n7, lst .ro 2 l10]] fun j11 l12 l13 => bif (j11.beq 0) then (asC A l12 fun v14 l15 => asI A .i64 v14 fun n16 => asC A l15 fun v17 l18 => asI A .i64 v17 fun n19 => asN A l18 (asC A l13 fun l20 l21 => asC A l20 fun v22 l23 => asI A .i64 v22 fun n24 => asC A l23 fun v25 l26 => asL A 2 v25 fun l27 => asN A l26 (asN A l21 (A.chk true (kc [agg [int .i64 n24, lst .ro 2 l27], int .i64 n16, int .i64 n19] []))))) else (bif (j11.beq 1) then (asN A l12 (asC A l13 fun l28 l29 => asC A l28 fun v30 l31 => asI A .i64 v30 fun n32 => asC A l31 fun v33 l34 => asL A 2 v33 fun l35 => asN A l34 (asC A l29 fun l36 l37 => asC A l36 fun v38 l39 => asI A .i64 v38 fun n40 => asC A l39 fun v41 l42 => asL A 2 v41 fun l43 => asN A l42 (asN A l37 (A.chk true (A.chk true (A.chk true (A.chk true (kc [agg [int .i64 n40, lst .ro 2 l43], int .i64 0, int .i64 0] []))))))))) else A.fail))))) else A.fail)))))
noncomputable def s_gAllL {α : Type} (A : Alg α) (l : List Stp) (s : Sch) (m : Int) (i : Int) (next : List AV → List (List AV) → α) (kc : Nat → List AV → List (List AV) → α) : α :=
  bif (decide (i < m)) then (A.chk (decide ((0 : Int) ≤ i)) (nthE A (map stpV l) i.toNat fun v0 => asA A v0 fun l1 => asC A l1 fun v2 l3 => asI A .i64 v2 fun n4 => asC A l3 fun v5 l6 => asI A .i64 v5 fun n7 => asC A l6 fun v8 l9 => asI A .i64 v8 fun n10 => asC A l9 fun v11 l12 => asI A .i64 v11 fun n13 => asC A l12 fun v14 l15 => asI A .i64 v14 fun n16 => asC A l15 fun v17 l18 => asI A .i64 v17 fun n19 => asC A l18 fun v20 l21 => asI A .i64 v20 fun n22 => asC A l21 fun v23 l24 => asI A .i64 v23 fun n25 => asC A l24 fun v26 l27 => asI A .i64 v26 fun n28 => asC A l27 fun v29 l30 => asI A .i64 v29 fun n31 => asC A l30 fun v32 l33 => asI A .i64 v32 fun n34 => asC A l33 fun v35 l36 => asI A .i64 v35 fun n37 => asC A l36 fun v38 l39 => asI A .i64 v38 fun n40 => asC A l39 fun v41 l42 => asS A v41 fun l43 => asC A l42 fun v44 l45 => asL A 1 v44 fun l46 => asC A l45 fun v47 l48 => asL A 5 v47 fun l49 => asN A l48 (A.chk true (A.chk true (A.chk true (A.chk true (A.chk true (A.callx 11 [agg [int .i64 s.ver, lst .ro 2 (map frmV s.forms)], agg [int .i64 n4, int .i64 n7, int .i64 n10, int .i64 n13, int .i64 n16, int .i64 n19, int .i64 n22, int .i64 n25, int .i64 n28, int .i64 n31, int .i64 n34, int .i64 n37, int .i64 n40, str l43, lst .ro 1 l46, lst .ro 5 l49]] fun l50 => asC A l50 fun v51 l52 => asA A v51 fun l53 => asC A l53 fun v54 l55 => asI A .i64 v54 fun n56 => asC A l55 fun v57 l58 => asL A 2 v57 fun l59 => asN A l58 (asC A l52 fun v60 l61 => asI A .i64 v60 fun n62 => asN A l61 (A.chk true (A.chk true (bif (n62 != (0 : Int)) then (A.chk true (A.chk true (kc 0 [int .i64 i, int .i64 n62] [[int .i64 0, lst .ro 2 []]]))) else (A.chk true (A.chk true (A.chk true (next [lst .ro 16 (map stpV l), int .i64 m, int .i64 (IntKind.i64.wrap (i + (1 : Int)))] [[int .i64 0, lst .ro 2 []], [int .i64 n56, lst .ro 2 l59]])))))))))))))))) else (kc 1 [] [[int .i64 0, lst .ro 2 []], [int .i64 s.ver, lst .ro 2 (map frmV s.forms)]])
theorem t_gClone (l : List Fld) {r : CR} (h : s_gClone (OA (tbl E0) (ltbl E0 37 0)) l (fun r o => some (r, o)) = some r) : tbl E0 37 [fldsV l] [] = some r :=
  tbl_of (body := bodyOf Try.f37) Try.func37 (by kernel_rfl) (by kernel_rfl) (by kernel_rfl) (Eq.trans (by kernel_rfl) h)
theorem t_gcopied (s : Sch) {r : CR} (h : s_gcopied (OA (tbl E0) (ltbl E0 34 0)) s (fun r o => some (r, o)) = some r) : tbl E0 34 [schV s] [] = some r :=
  tbl_of (body := bodyOf Try.f34) Try.func34 (by kernel_rfl) (by kernel_rfl) (by kernel_rfl) (Eq.trans (by kernel_rfl) h)
theorem t_gcopiedL (l : List Frm) (v : Int) (d : List Frm) (m i : Int) {r : LR} (h : s_gcopiedL (OA (tbl E0) (ltbl E0 34 0)) l v d m i (fun vs os => ltbl E0 34 0 3 vs os) (fun j vs os => some (j, vs, os)) = some r) : ltbl E0 34 0 3 [frmsV l, .int .i64 m, .int .i64 i] [[.int .i64 0, frmsV []], [.int .i64 v, frmsU d]] = some r :=
  ltbl_of (body := bodyOf Try.f34) Try.func34 (by kernel_rfl) (by kernel_rfl) (Eq.trans (by kernel_rfl) h)
theorem t_gfind (x : Stp) (v : Int) (l : List Frm) (p e : Int) {r : CR} (h : s_gfind (OA (tbl E0) (ltbl E0 68 0)) x v l p e (fun r o => some (r, o)) = some r) : tbl E0 68 [.ref 0 0] [(0, madO x v l p e)] = some r :=
  tbl_of (body := bodyOf Try.f68) Try.func68 (by kernel_rfl) (by kernel_rfl) (by kernel_rfl) (Eq.trans (by kernel_rfl) h)
theorem t_gfindL (x : Stp) (v : Int) (l : List Frm) (p e : Int) {r : LR} (h : s_gfindL (OA (tbl E0) (ltbl E0 68 0)) x v l p e (fun vs os => ltbl E0 68 0 2 vs os) (fun j vs os => some (j, vs, os)) = some r) : ltbl E0 68 0 2 [] [madO x v l p e] = some r :=
  ltbl_of (body := bodyOf Try.f68) Try.func68 (by kernel_rfl) (by kernel_rfl) (Eq.trans (by kernel_rfl) h)
theorem t_gthere (x : Stp) (v : Int) (l : List Frm) (p e : Int) {r : CR} (h : s_gthere (OA (tbl E0) (ltbl E0 35 0)) x v l p e (fun r o => some (r, o)) = some r) : tbl E0 35 [.ref 0 0] [(0, madO x v l p e)] = some r :=
  tbl_of (body := bodyOf Try.f35) Try.func35 (by kernel_rfl) (by kernel_rfl) (by kernel_rfl) (Eq.trans (by kernel_rfl) h)
theorem t_gthereM (x : Stp) (v : Int) (l : List Frm) (p e : Int) (g : Frm) (n : Int) {r : LR} (h : s_gthereM (OA (tbl E0) (ltbl E0 35 0)) x v l p e g n (fun vs os => ltbl E0 35 0 1000020 vs os) (fun j vs os => some (j, vs, os)) = some r) : ltbl E0 35 0 1000020 [.int .i64 n] [madO x v l p e, [.int .i64 g.id, fldsV g.fields]] = some r :=
  ltbl_of (body := bodyOf Try.f35) Try.func35 (by kernel_rfl) (by kernel_rfl) (Eq.trans (by kernel_rfl) h)
theorem t_gfields (x : Stp) (v : Int) (l : List Frm) (p e : Int) {r : CR} (h : s_gfields (OA (tbl E0) (ltbl E0 72 0)) x v l p e (fun r o => some (r, o)) = some r) : tbl E0 72 [.ref 0 0] [(0, madO x v l p e)] = some r :=
  tbl_of (body := bodyOf Try.f72) Try.func72 (by kernel_rfl) (by kernel_rfl) (by kernel_rfl) (Eq.trans (by kernel_rfl) h)
theorem t_gown (x : Stp) (v : Int) (l : List Frm) (p e : Int) {r : CR} (h : s_gown (OA (tbl E0) (ltbl E0 73 0)) x v l p e (fun r o => some (r, o)) = some r) : tbl E0 73 [.ref 0 0] [(0, madO x v l p e)] = some r :=
  tbl_of (body := bodyOf Try.f73) Try.func73 (by kernel_rfl) (by kernel_rfl) (by kernel_rfl) (Eq.trans (by kernel_rfl) h)
theorem t_gscaled (f : Fld) (a b : Int) {r : CR} (h : s_gscaled (OA (tbl E0) (ltbl E0 99 0)) f a b (fun r o => some (r, o)) = some r) : tbl E0 99 [fldV f, .int .i64 a, .int .i64 b] [] = some r :=
  tbl_of (body := bodyOf Try.f99) Try.func99 (by kernel_rfl) (by kernel_rfl) (by kernel_rfl) (Eq.trans (by kernel_rfl) h)
theorem t_gWider (f g : Fld) {r : CR} (h : s_gWider (OA (tbl E0) (ltbl E0 98 0)) f g (fun r o => some (r, o)) = some r) : tbl E0 98 [fldV f, fldV g] [] = some r :=
  tbl_of (body := bodyOf Try.f98) Try.func98 (by kernel_rfl) (by kernel_rfl) (by kernel_rfl) (Eq.trans (by kernel_rfl) h)
theorem t_gturned (x : Stp) (v : Int) (l : List Frm) (p e : Int) {r : CR} (h : s_gturned (OA (tbl E0) (ltbl E0 76 0)) x v l p e (fun r o => some (r, o)) = some r) : tbl E0 76 [.ref 0 0] [(0, madO x v l p e)] = some r :=
  tbl_of (body := bodyOf Try.f76) Try.func76 (by kernel_rfl) (by kernel_rfl) (by kernel_rfl) (Eq.trans (by kernel_rfl) h)
theorem t_gchange (x : Stp) (v : Int) (l : List Frm) (p e : Int) {r : CR} (h : s_gchange (OA (tbl E0) (ltbl E0 39 0)) x v l p e (fun r o => some (r, o)) = some r) : tbl E0 39 [.ref 0 0] [(0, madO x v l p e)] = some r :=
  tbl_of (body := bodyOf Try.f39) Try.func39 (by kernel_rfl) (by kernel_rfl) (by kernel_rfl) (Eq.trans (by kernel_rfl) h)
theorem t_gOn (s : Sch) (x : Stp) {r : CR} (h : s_gOn (OA (tbl E0) (ltbl E0 11 0)) s x (fun r o => some (r, o)) = some r) : tbl E0 11 [schV s, stpV x] [] = some r :=
  tbl_of (body := bodyOf Try.f11) Try.func11 (by kernel_rfl) (by kernel_rfl) (by kernel_rfl) (Eq.trans (by kernel_rfl) h)
theorem t_gAll (s : Sch) (l : List Stp) {r : CR} (h : s_gAll (OA (tbl E0) (ltbl E0 14 0)) s l (fun r o => some (r, o)) = some r) : tbl E0 14 [schV s, stpsV l] [] = some r :=
  tbl_of (body := bodyOf Try.f14) Try.func14 (by kernel_rfl) (by kernel_rfl) (by kernel_rfl) (Eq.trans (by kernel_rfl) h)
theorem t_gAllL (l : List Stp) (s : Sch) (m i : Int) {r : LR} (h : s_gAllL (OA (tbl E0) (ltbl E0 14 0)) l s m i (fun vs os => ltbl E0 14 0 3 vs os) (fun j vs os => some (j, vs, os)) = some r) : ltbl E0 14 0 3 [stpsV l, .int .i64 m, .int .i64 i] [[.int .i64 0, frmsV []], [.int .i64 s.ver, frmsV s.forms]] = some r :=
  ltbl_of (body := bodyOf Try.f14) Try.func14 (by kernel_rfl) (by kernel_rfl) (Eq.trans (by kernel_rfl) h)
end Go.Proofs.Ytalpknofimglbaa.V
namespace Go.Proofs.Ytalpknofimglbaa.V
open Go
open AV (int lst agg str bool ref clo)
open List (map)
end Go.Proofs.Ytalpknofimglbaa.V
namespace Go.Proofs.Ytalpknofimglbaa.V
open Go
open AV (int lst agg str bool ref clo)
open List (map)
end Go.Proofs.Ytalpknofimglbaa.V
namespace Go.Proofs.Ytalpknofimglbaa.V
open Go
def cnt (u : Nat) : List UInt8 := if u < 128 then [byt u] else byt (u % 128 + 128) :: cnt (u / 128)
termination_by u
decreasing_by omega
end Go.Proofs.Ytalpknofimglbaa.V
namespace Go.Proofs.Ytalpknofimglbaa.V
open Go
end Go.Proofs.Ytalpknofimglbaa.V
namespace Go.Proofs.Ytalpknofimglbaa.V
open Go
end Go.Proofs.Ytalpknofimglbaa.V
namespace Go.Proofs.Ytalpknofimglbaa.V
open Go
end Go.Proofs.Ytalpknofimglbaa.V
namespace Go.Proofs.Ytalpknofimglbaa.V
open Go
end Go.Proofs.Ytalpknofimglbaa.V
namespace Go.Proofs.Ytalpknofimglbaa.V
open Go
end Go.Proofs.Ytalpknofimglbaa.V
namespace Go.Proofs.Ytalpknofimglbaa.V
open Go
theorem rgtS_1 {f : Fld} (k : f.kind = 1) : rgtS f = (decide (0 ≤ f.id) && (decide (f.id ≤ 255) && (decide (-1099511627776 ≤ f.lo) && (decide (f.lo ≤ f.hi) && (decide (f.hi ≤ 1099511627776) && decide (f.most = 0)))))) := by
  simp [rgtS, k, Bool.and_assoc, Bool.decide_and]
theorem rgtS_2 {f : Fld} (k : f.kind = 2) : rgtS f = (decide (0 ≤ f.id) && (decide (f.id ≤ 255) && (decide (f.lo = 0) && (decide (f.hi = 0) && decide (f.most = 0))))) := by
  simp [rgtS, k, Bool.and_assoc, Bool.decide_and]
theorem rgtS_3 {f : Fld} (k : f.kind = 3) : rgtS f = (decide (0 ≤ f.id) && (decide (f.id ≤ 255) && (decide (f.lo = 0) && (decide (f.hi = 0) && (decide (1 ≤ f.most) && decide (f.most ≤ 1000)))))) := by
  simp [rgtS, k, Bool.and_assoc, Bool.decide_and]
theorem rgtS_4 {f : Fld} (k : f.kind = 4) : rgtS f = (decide (0 ≤ f.id) && (decide (f.id ≤ 255) && (decide (f.lo = 0) && (decide (f.hi = 0) && (decide (0 ≤ f.most) && decide (f.most ≤ 32)))))) := by
  simp [rgtS, k, Bool.and_assoc, Bool.decide_and]
theorem rgtS_0 {f : Fld} (k1 : f.kind ≠ 1) (k2 : f.kind ≠ 2) (k3 : f.kind ≠ 3) (k4 : f.kind ≠ 4) : rgtS f = false := by
  simp [rgtS, k1, k2, k3, k4]
theorem c_fRight (f : Fld) : tbl E0 89 [fldV f] [] = some ([.bool (rgtS f)], []) :=
  t_fRight f (by
    unfold s_fRight
    by_cases i0 : f.id < 0
    · have : rgtS f = false := by have : ¬ (0 ≤ f.id) := by omega
                                  simp [rgtS, this]
      simp [i0, this]
    · by_cases i1 : 255 < f.id
      · have : rgtS f = false := by have : ¬ (f.id ≤ 255) := by omega
                                    simp [rgtS, this]
        simp [i0, i1, this]
      · have j0 : 0 ≤ f.id := by omega
        have j1 : f.id ≤ 255 := by omega
        simp only [OA_chk, cond_true, OA_join, i0, decide_false, cond_false, show ¬ (f.id > 255) from i1, Option.bind_some, Tok.untok_tok, tok_cond]
        by_cases k1 : f.kind = 1
        · rw [rgtS_1 k1]
          by_cases a : -1099511627776 ≤ f.lo <;> by_cases b : f.lo ≤ f.hi <;> by_cases c : f.hi ≤ 1099511627776 <;> by_cases d : f.lo = 0 <;> by_cases e : f.most = 0 <;> simp [*]
        · by_cases k2 : f.kind = 2
          · rw [rgtS_2 k2]
            by_cases a : f.lo = 0 <;> by_cases b : f.hi = 0 <;> by_cases e : f.most = 0 <;> simp [*]
          · by_cases k3 : f.kind = 3
            · rw [rgtS_3 k3]
              by_cases a : f.lo = 0 <;> by_cases b : f.hi = 0 <;> by_cases c : 1 ≤ f.most <;> simp [*]
            · by_cases k4 : f.kind = 4
              · rw [rgtS_4 k4]
                by_cases a : f.lo = 0 <;> by_cases b : f.hi = 0 <;> by_cases c : 0 ≤ f.most <;> simp [*]
              · rw [rgtS_0 k1 k2 k3 k4]
                by_cases a : f.lo = 0 <;> simp [*])
theorem c_fbounds (f : Fld) (h : f.kind = 3 → rgtS f = true) : tbl E0 104 [fldV f] [] = some ([.int .i64 (loS f), .int .i64 (hiS f)], []) :=
  t_fbounds f (by
    unfold s_fbounds
    by_cases k1 : f.kind = 1
    · simp [k1, loS, hiS]
    · by_cases k2 : f.kind = 2
      · simp [k2, loS, hiS]
      · by_cases k3 : f.kind = 3
        · have h' := h k3
          rw [rgtS_3 k3] at h'
          simp only [Bool.and_eq_true, decide_eq_true_eq] at h'
          rw [wrap_i64 _ (by omega) (by omega)]
          simp [k3, loS, hiS]
        · simp [k1, k2, k3, loS, hiS])
theorem c_fwidthL (n : Nat) : ∀ (w : Nat), n < 9223372036854775808 → w + n < 9223372036854775808 → ltbl E0 110 0 2 [.int .i64 (n : Int), .int .i64 (w : Int)] [] = some (1, [.int .i64 ((w + wdS n : Nat) : Int)], []) := by
  induction n using wdS.induct with
  | case1 =>
    intro w hn hw
    exact t_fwidthL _ _ (by rw [wdS]; simp [s_fwidthL])
  | case2 n h ih =>
    intro w hn hw
    refine t_fwidthL _ _ ?_
    have h0 : (n : Int) > 0 := by omega
    have e : (n : Int).fdiv ((2 : Int) ^ (8 : Nat)) = ((n / 256 : Nat) : Int) := by rw [Int.fdiv_eq_ediv_of_nonneg _ (by decide)]; omega
    have e2 : IntKind.i64.wrap ((w : Int) + 1) = ((w + 1 : Nat) : Int) := by rw [wrap_i64 _ (by omega) (by omega)]; omega
    have e3 : wdS n = wdS (n / 256) + 1 := by rw [wdS]; simp [h]
    have := ih (w + 1) (by omega) (by omega)
    rw [e3, show w + (wdS (n / 256) + 1) = w + 1 + wdS (n / 256) by omega, ← this]
    simp only [s_fwidthL, h0, decide_true, cond_true, OA_chk, e, e2]
theorem c_fwidth (n : Int) (h : n < 9223372036854775808) : tbl E0 110 [.int .i64 n] [] = some ([.int .i64 (wdS n.toNat : Nat)], []) :=
  t_fwidth n (by
    by_cases h0 : 0 ≤ n
    · have := c_fwidthL n.toNat 0 (by omega) (by omega)
      rw [show (n.toNat : Int) = n by omega] at this
      simp only [Int.natCast_zero] at this
      simp [s_fwidth, this]
    · have e : ltbl E0 110 0 2 [.int .i64 n, .int .i64 0] [] = some (1, [.int .i64 0], []) := t_fwidthL _ _ (by
        have : ¬ (0 < n) := by omega
        simp [s_fwidthL, this])
      have e0 : n.toNat = 0 := by omega
      rw [e0, wdS]
      simp [s_fwidth, e])
theorem c_ywideL (n : Nat) : ∀ (w : Nat), n < 9223372036854775808 → w + n < 9223372036854775808 → ltbl E0 107 0 2 [.int .i64 (n : Int), .int .i64 (w : Int)] [] = some (1, [.int .i64 ((w + wdS n : Nat) : Int)], []) := by
  induction n using wdS.induct with
  | case1 =>
    intro w hn hw
    exact t_ywideL _ _ (by rw [wdS]; simp [s_ywideL])
  | case2 n h ih =>
    intro w hn hw
    refine t_ywideL _ _ ?_
    have h0 : (n : Int) > 0 := by omega
    have e : IntKind.i64.wrap ((n : Int).tdiv 256) = ((n / 256 : Nat) : Int) := by
      have e1 : (n : Int).tdiv 256 = ((n / 256 : Nat) : Int) := by rw [Int.tdiv_eq_ediv_of_nonneg (by omega)]; omega
      rw [e1, wrap_i64 _ (by omega) (by omega)]
    have e2 : IntKind.i64.wrap ((w : Int) + 1) = ((w + 1 : Nat) : Int) := by rw [wrap_i64 _ (by omega) (by omega)]; omega
    have e3 : wdS n = wdS (n / 256) + 1 := by rw [wdS]; simp [h]
    have := ih (w + 1) (by omega) (by omega)
    rw [e3, show w + (wdS (n / 256) + 1) = w + 1 + wdS (n / 256) by omega, ← this]
    simp only [s_ywideL, h0, decide_true, cond_true, OA_chk, e, e2]
theorem c_ywide (n : Int) (h : n < 9223372036854775808) : tbl E0 107 [.int .i64 n] [] = some ([.int .i64 (wdS n.toNat : Nat)], []) :=
  t_ywide n (by
    by_cases h0 : 0 ≤ n
    · have := c_ywideL n.toNat 0 (by omega) (by omega)
      rw [show (n.toNat : Int) = n by omega] at this
      simp only [Int.natCast_zero] at this
      simp [s_ywide, this]
    · have e : ltbl E0 107 0 2 [.int .i64 n, .int .i64 0] [] = some (1, [.int .i64 0], []) := t_ywideL _ _ (by
        have : ¬ (0 < n) := by omega
        simp [s_ywideL, this])
      have e0 : n.toNat = 0 := by omega
      rw [e0, wdS]
      simp [s_ywide, e])
theorem rgt_rng {f : Fld} (h : rgtS f = true) : 0 ≤ f.id ∧ f.id ≤ 255 ∧ (f.kind = 1 ∨ f.kind = 2 ∨ f.kind = 3 ∨ f.kind = 4) ∧ 0 ≤ hiS f - loS f ∧ hiS f - loS f ≤ 2199023255552 ∧ (f.kind ≠ 1 → f.lo = 0 ∧ f.hi = 0) ∧ (f.kind = 1 → -1099511627776 ≤ f.lo ∧ f.lo ≤ f.hi ∧ f.hi ≤ 1099511627776 ∧ f.most = 0) ∧ 0 ≤ f.most ∧ f.most ≤ 1000 ∧ (f.kind = 4 → f.most ≤ 32) ∧ (f.kind = 3 → 1 ≤ f.most) ∧ (f.kind = 2 → f.most = 0) := by
  by_cases k1 : f.kind = 1
  · rw [rgtS_1 k1] at h; simp [k1, loS, hiS] at h ⊢; omega
  · by_cases k2 : f.kind = 2
    · rw [rgtS_2 k2] at h; simp [k2, loS, hiS] at h ⊢; omega
    · by_cases k3 : f.kind = 3
      · rw [rgtS_3 k3] at h; simp [k3, loS, hiS] at h ⊢; omega
      · by_cases k4 : f.kind = 4
        · rw [rgtS_4 k4] at h; simp [k4, loS, hiS] at h ⊢; omega
        · rw [rgtS_0 k1 k2 k3 k4] at h; cases h
theorem c_fwide (f : Fld) (h : rgtS f = true) : tbl E0 108 [fldV f] [] = some ([.int .i64 (wdS (hiS f - loS f).toNat : Nat)], []) :=
  t_fwide f (by
    have r := rgt_rng h
    have e := c_fbounds f (fun _ => h)
    have e2 := c_fwidth (hiS f - loS f) (by omega)
    simp only [s_fwide, OA_chk, cond_true, OA_callx, e, Option.bind_some, u_asC, u_asI, u_asN, wrap_i64 (hiS f - loS f) (by omega) (by omega), e2])
theorem c_fSize (f : Fld) : tbl E0 103 [fldV f] [] = some ([.int .i64 (sizeS f)], []) :=
  t_fSize f (by
    have e := c_fRight f
    simp only [s_fSize, OA_chk, cond_true, OA_callx, e, Option.bind_some, u_asC, u_asB, u_asI, u_asN]
    cases h : rgtS f with
    | false => simp [sizeS, h]
    | true =>
      have r := rgt_rng h
      have e2 := c_fwide f h
      by_cases k4 : f.kind = 4
      · rw [wrap_i64 (f.most + 1) (by omega) (by omega)]
        simp [sizeS, h, k4]
      · by_cases k2 : f.kind = 2
        · simp [sizeS, h, k2, hiS, loS, wdS]
        · simp only [sizeS, h, k4, k2, beq_f k4, beq_f k2, if_true, if_false, Bool.not_true, cond_false, e2, Option.bind_some, u_asC, u_asI, u_asN])
theorem c_ySpan (f : Fld) : ∃ lo hi most, tbl E0 87 [fldV f] [] = some ([.int .i64 lo, .int .i64 hi, .int .i64 most, .bool (rgtS f)], []) ∧ (rgtS f = true → lo = loS f ∧ hi = hiS f ∧ most = if f.kind = 4 then f.most else 0) := by
  by_cases k1 : f.kind = 1
  · refine ⟨f.lo, f.hi, 0, t_ySpan f ?_, fun _ => by simp [k1, loS, hiS]⟩
    rw [rgtS_1 k1]
    simp only [s_ySpan]
    by_cases a : 0 ≤ f.id <;> by_cases b : f.id ≤ 255 <;> by_cases c : -1099511627776 ≤ f.lo <;> by_cases d : f.lo ≤ f.hi <;> by_cases e : f.hi ≤ 1099511627776 <;> by_cases e2 : f.most = 0 <;> simp [*]
  · by_cases k2 : f.kind = 2
    · refine ⟨0, 1, 0, t_ySpan f ?_, fun _ => by simp [k2, loS, hiS]⟩
      rw [rgtS_2 k2]
      simp only [s_ySpan]
      by_cases a : 0 ≤ f.id <;> by_cases b : f.id ≤ 255 <;> by_cases c : f.lo = 0 <;> by_cases d : f.hi = 0 <;> by_cases e2 : f.most = 0 <;> simp [*]
    · by_cases k3 : f.kind = 3
      · refine ⟨0, IntKind.i64.wrap (f.most - 1), 0, t_ySpan f ?_, fun h => ?_⟩
        · rw [rgtS_3 k3]
          simp only [s_ySpan]
          by_cases a : 0 ≤ f.id <;> by_cases b : f.id ≤ 255 <;> by_cases c : f.lo = 0 <;> by_cases d : f.hi = 0 <;> by_cases e : 1 ≤ f.most <;> simp [*]
        · have r := rgt_rng h
          rw [wrap_i64 _ (by omega) (by omega)]
          simp [k3, loS, hiS]
      · by_cases k4 : f.kind = 4
        · refine ⟨0, 0, f.most, t_ySpan f ?_, fun _ => by simp [k4, loS, hiS]⟩
          rw [rgtS_4 k4]
          simp only [s_ySpan]
          by_cases a : 0 ≤ f.id <;> by_cases b : f.id ≤ 255 <;> by_cases c : f.lo = 0 <;> by_cases d : f.hi = 0 <;> by_cases e : 0 ≤ f.most <;> simp [*]
        · refine ⟨0, 0, 0, t_ySpan f ?_, fun h => by rw [rgtS_0 k1 k2 k3 k4] at h; cases h⟩
          rw [rgtS_0 k1 k2 k3 k4]
          simp only [s_ySpan]
          by_cases a : 0 ≤ f.id <;> simp [*]
theorem c_yRight (f : Fld) : tbl E0 62 [fldV f] [] = some ([.bool (rgtS f)], []) := by
  obtain ⟨lo, hi, most, e, _⟩ := c_ySpan f
  exact t_yRight f (by simp only [s_yRight, OA_chk, cond_true, OA_callx, e, Option.bind_some, u_asC, u_asI, u_asB, u_asN])
theorem c_ySize (f : Fld) : tbl E0 102 [fldV f] [] = some ([.int .i64 (sizeS f)], []) := by
  obtain ⟨lo, hi, most, e, h⟩ := c_ySpan f
  refine t_ySize f ?_
  simp only [s_ySize, OA_chk, cond_true, OA_callx, e, Option.bind_some, u_asC, u_asI, u_asB, u_asN]
  cases hr : rgtS f with
  | false => simp [sizeS, hr]
  | true =>
    obtain ⟨rfl, rfl, rfl⟩ := h hr
    have r := rgt_rng hr
    by_cases k4 : f.kind = 4
    · rw [if_pos k4, wrap_i64 (1 + f.most) (by omega) (by omega)]
      simp [sizeS, hr, k4, Int.add_comm]
    · have e2 := c_ywide (hiS f - loS f) (by omega)
      simp only [sizeS, hr, k4, beq_f k4, if_true, if_false, Bool.not_true, cond_false, wrap_i64 (hiS f - loS f) (by omega) (by omega), e2, Option.bind_some, u_asC, u_asI, u_asN]
end Go.Proofs.Ytalpknofimglbaa.V
namespace Go.Proofs.Ytalpknofimglbaa.V
open Go
theorem drop_c {α : Type} {l r : List α} {i : Nat} {a : α} (h : l.drop i = a :: r) : i < l.length ∧ l[i]? = some a ∧ l.drop (i + 1) = r := by
  have hlt : i < l.length := by
    rcases Nat.lt_or_ge i l.length with h' | h'
    · exact h'
    · rw [List.drop_eq_nil_of_le h'] at h; cases h
  rw [List.drop_eq_getElem_cons hlt] at h
  injection h with h1 h2
  exact ⟨hlt, by rw [List.getElem?_eq_getElem hlt, h1], h2⟩
theorem i64_succ {i : Nat} (h : i < 9223372036854775807) : IntKind.i64.wrap ((i : Int) + 1) = ((i + 1 : Nat) : Int) := by rw [wrap_i64 _ (by omega) (by omega)]; omega
theorem wdS_le (k : Nat) : ∀ n, n < 256 ^ k → wdS n ≤ k := by
  induction k with
  | zero => intro n h; simp at h; subst h; rw [wdS]; simp
  | succ k ih =>
    intro n h
    rw [wdS]
    split
    · omega
    · have := ih (n / 256) (by rw [Nat.div_lt_iff_lt_mul (by omega)]; rw [Nat.pow_succ] at h; exact h)
      omega
theorem sizeS_rng (f : Fld) : 0 ≤ sizeS f ∧ sizeS f ≤ 33 := by
  unfold sizeS
  split
  · rename_i h
    have r := rgt_rng h
    split
    · rename_i k; have := r.2.2.2.2.2.2.2.2.2.1 k; omega
    · have := wdS_le 6 (hiS f - loS f).toNat (by have : (256 : Nat) ^ 6 = 281474976710656 := by decide
                                                 omega)
      omega
  · omega
theorem longS_cons (f : Fld) (l : List Fld) : longS (f :: l) = sizeS f + longS l := by simp [longS]
theorem c_sLongL (l : List Fld) (hl : l.length ≤ 211106232532992) : ∀ (r : List Fld) (i : Nat) (n : Int), l.drop i = r → 0 ≤ n → n ≤ 33 * i →
    ltbl E0 88 0 3 [.int .i64 n, fldsV l, .int .i64 l.length, .int .i64 i] [] = some (1, [.int .i64 (n + longS r)], []) := by
  intro r
  induction r with
  | nil =>
    intro i n hr h0 h1
    have h : l.length ≤ i := by simpa using hr
    refine t_sLongL _ _ _ _ ?_
    have : ¬ ((i : Int) < l.length) := by omega
    simp [s_sLongL, this, longS]
  | cons f r ih =>
    intro i n hr h0 h1
    obtain ⟨hlt, hget, hr2⟩ := drop_c hr
    have hs := sizeS_rng f
    have h2 : (i : Int) < l.length := by omega
    have e1 := i64_succ (i := i) (by omega)
    have e2 : IntKind.i64.wrap (n + sizeS f) = n + sizeS f := wrap_i64 _ (by omega) (by omega)
    have h := ih (i + 1) (n + sizeS f) hr2 (by omega) (by omega)
    have c := c_fSize f
    refine t_sLongL _ _ _ _ ?_
    rw [longS_cons, ← Int.add_assoc, ← h]
    simp only [s_sLongL, h2, decide_true, cond_true, OA_chk, Int.natCast_nonneg, nthE, Int.toNat_natCast, List.getElem?_map, hget, Option.map_some, u_asA, u_asC, u_asI, u_asN, OA_callx, c, Option.bind_some, e1, e2]
theorem c_sLong (f : Frm) (h : f.fields.length ≤ 211106232532992) : tbl E0 88 [frmV f] [] = some ([.int .i64 (longS f.fields)], []) :=
  t_sLong f (by
    have e := c_sLongL f.fields h f.fields 0 0 rfl (by omega) (by omega)
    simp only [Int.natCast_zero, Int.zero_add] at e
    simp [s_sLong, e])
theorem c_yLongL (f : Frm) (hl : f.fields.length ≤ 211106232532992) : ∀ (r : List Fld) (i : Nat) (n : Int), f.fields.drop i = r → 0 ≤ n → n ≤ 33 * i →
    ltbl E0 83 0 3 [.int .i64 n, .int .i64 i] [[.int .i64 f.id, fldsV f.fields]] = some (1, [.int .i64 (n + longS r)], []) := by
  intro r
  induction r with
  | nil =>
    intro i n hr h0 h1
    have h : f.fields.length ≤ i := by simpa using hr
    refine t_yLongL _ _ _ ?_
    have : ¬ ((i : Int) < f.fields.length) := by omega
    simp [s_yLongL, this, longS]
  | cons x r ih =>
    intro i n hr h0 h1
    obtain ⟨hlt, hget, hr2⟩ := drop_c hr
    have hs := sizeS_rng x
    have h2 : (i : Int) < f.fields.length := by omega
    have e1 := i64_succ (i := i) (by omega)
    have e2 : IntKind.i64.wrap (n + sizeS x) = n + sizeS x := wrap_i64 _ (by omega) (by omega)
    have h := ih (i + 1) (n + sizeS x) hr2 (by omega) (by omega)
    have c := c_ySize x
    refine t_yLongL _ _ _ ?_
    rw [longS_cons, ← Int.add_assoc, ← h]
    simp only [s_yLongL, OA_asm, List.length_map, h2, decide_true, cond_true, OA_chk, Int.natCast_nonneg, nthE, Int.toNat_natCast, List.getElem?_map, hget, Option.map_some, u_asA, u_asC, u_asI, u_asN, OA_callx, c, Option.bind_some, e1, e2]
theorem c_yLong (f : Frm) (h : f.fields.length ≤ 211106232532992) : tbl E0 83 [frmV f] [] = some ([.int .i64 (longS f.fields)], []) :=
  t_yLong f (by
    have e := c_yLongL f h f.fields 0 0 rfl (by omega) (by omega)
    simp only [Int.natCast_zero, Int.zero_add] at e
    simp [s_yLong, e])
def atS (l : List Fld) (id : Int) : Int := firstS (fun f : Fld => f.id == id) l
def fromS {α : Type} (p : α → Bool) (i : Nat) (l : List α) : LR := match l.findIdx? p with | some j => (0, [.int .i64 ((i + j : Nat) : Int)], []) | none => (1, [], [])
theorem fromS_nil {α : Type} (p : α → Bool) (i : Nat) : fromS p i [] = (1, [], []) := rfl
theorem fromS_cons {α : Type} (p : α → Bool) (i : Nat) (a : α) (l : List α) : fromS p i (a :: l) = if p a then (0, [.int .i64 (i : Int)], []) else fromS p (i + 1) l := by
  unfold fromS
  rw [List.findIdx?_cons]
  cases p a with
  | true => simp
  | false =>
    simp only [Bool.false_eq_true, if_false]
    cases l.findIdx? p with
    | none => rfl
    | some j => simp [Nat.add_assoc, Nat.add_comm 1 j]
theorem c_sAt1 (f : Fld) (id : Int) : tbl E0 94 [fldV f, .rp [.int .i64 id] 0] [] = some ([.bool (f.id == id)], []) := t_sAt1 f id (by simp [s_sAt1])
theorem c_IndexFuncL (l : List Fld) (id : Int) (hl : l.length ≤ 211106232532992) : ∀ (r : List Fld) (i : Nat), l.drop i = r →
    ltbl E0 93 0 2 [fldsV l, .clo 94 [.rp [.int .i64 id] 0], .int .i64 l.length, .int .i64 i] [] = some (fromS (fun f : Fld => f.id == id) i r) := by
  intro r
  induction r with
  | nil =>
    intro i hr
    have h : l.length ≤ i := by simpa using hr
    refine t_IndexFuncL _ _ _ _ ?_
    have : ¬ ((i : Int) < l.length) := by omega
    simp [s_IndexFuncL, this, fromS_nil]
  | cons f r ih =>
    intro i hr
    obtain ⟨hlt, hget, hr2⟩ := drop_c hr
    have h2 : (i : Int) < l.length := by omega
    have e1 := i64_succ (i := i) (by omega)
    have h := ih (i + 1) hr2
    have c := c_sAt1 f id
    refine t_IndexFuncL _ _ _ _ ?_
    rw [fromS_cons]
    simp only [s_IndexFuncL, h2, decide_true, cond_true, OA_chk, Int.natCast_nonneg, nthE, Int.toNat_natCast, List.getElem?_map, hget, Option.map_some, u_asA, u_asC, u_asI, u_asB, u_asN, OA_callx, c, Option.bind_some, e1, h]
    cases f.id == id <;> rfl
theorem c_sAt (f : Frm) (id : Int) (h : f.fields.length ≤ 211106232532992) : tbl E0 69 [frmV f, .int .i64 id] [] = some ([.int .i64 (atS f.fields id)], []) :=
  t_sAt f id (by
    have e : tbl E0 93 [fldsV f.fields, .clo 94 [.rp [.int .i64 id] 0]] [] = some ([.int .i64 (atS f.fields id)], []) := t_IndexFunc f.fields id (by
      have e := c_IndexFuncL f.fields id h f.fields 0 rfl
      simp only [Int.natCast_zero] at e
      simp only [s_IndexFunc, OA_asm, OA_loop, List.length_map, e, Option.bind_some, fromS, atS, firstS]
      cases f.fields.findIdx? (fun f : Fld => f.id == id) <;> simp)
    simp [s_sAt, e])
theorem c_yAtL (f : Frm) (id : Int) (hl : f.fields.length ≤ 211106232532992) : ∀ (r : List Fld) (i : Nat), f.fields.drop i = r →
    ltbl E0 42 0 2 [.int .i64 id, .int .i64 i] [[.int .i64 f.id, fldsV f.fields]] = some (fromS (fun f : Fld => f.id == id) i r) := by
  intro r
  induction r with
  | nil =>
    intro i hr
    have h : f.fields.length ≤ i := by simpa using hr
    refine t_yAtL _ _ _ ?_
    have : ¬ ((i : Int) < f.fields.length) := by omega
    simp [s_yAtL, this, fromS_nil]
  | cons x r ih =>
    intro i hr
    obtain ⟨hlt, hget, hr2⟩ := drop_c hr
    have h2 : (i : Int) < f.fields.length := by omega
    have e1 := i64_succ (i := i) (by omega)
    have h := ih (i + 1) hr2
    refine t_yAtL _ _ _ ?_
    rw [fromS_cons]
    simp only [s_yAtL, OA_asm, List.length_map, h2, decide_true, cond_true, OA_chk, Int.natCast_nonneg, nthE, Int.toNat_natCast, List.getElem?_map, hget, Option.map_some, u_asA, u_asC, u_asI, u_asB, u_asN, e1, h]
    cases x.id == id <;> rfl
theorem c_yAt (f : Frm) (id : Int) (h : f.fields.length ≤ 211106232532992) : tbl E0 42 [frmV f, .int .i64 id] [] = some ([.int .i64 (atS f.fields id)], []) :=
  t_yAt f id (by
    have e := c_yAtL f id h f.fields 0 rfl
    simp only [Int.natCast_zero] at e
    simp only [s_yAt, OA_chk, cond_true, OA_loop, e, Option.bind_some, fromS, atS, firstS]
    cases f.fields.findIdx? (fun f : Fld => f.id == id) <;> simp)
theorem setAt_bool (s : List Bool) (k : Nat) (b : Bool) : setAt (s.map AV.bool) k [AV.bool b] = (s.set k b).map AV.bool := by
  simp [setAt, List.map_set]
theorem all_flat_bool (s : List Bool) : (s.map AV.bool).all AV.flat1 = true := by
  simp [List.all_map, Function.comp_def, AV.flat1]
def freshS : List Bool → List Fld → Bool
  | _, [] => true
  | s, f :: l => rgtS f && !((s[f.id.toNat]?).getD false) && freshS (s.set f.id.toNat true) l
theorem c_sFineL (l : List Fld) (hl : l.length ≤ 211106232532992) : ∀ (r : List Fld) (i : Nat) (s : List Bool), l.drop i = r → s.length = 256 →
    ltbl E0 64 0 5 [fldsV l, .int .i64 l.length, .int .i64 i] [s.map AV.bool] = some (if freshS s r then (1, [], []) else (0, [.bool false], [])) := by
  intro r
  induction r with
  | nil =>
    intro i s hr hs
    have h : l.length ≤ i := by simpa using hr
    refine t_sFineL _ _ _ _ ?_
    have : ¬ ((i : Int) < l.length) := by omega
    simp [s_sFineL, this, freshS]
  | cons f r ih =>
    intro i s hr hs
    obtain ⟨hlt, hget, hr2⟩ := drop_c hr
    have h2 : (i : Int) < l.length := by omega
    have e1 := i64_succ (i := i) (by omega)
    have h := ih (i + 1) (s.set f.id.toNat true) hr2 (by simpa using hs)
    have c := c_fRight f
    refine t_sFineL _ _ _ _ ?_
    simp only [s_sFineL, h2, decide_true, cond_true, OA_chk, Int.natCast_nonneg, nthE, Int.toNat_natCast, List.getElem?_map, hget, Option.map_some, u_asA, u_asC, u_asI, u_asB, u_asN, OA_callx, OA_join, c, Option.bind_some, e1, freshS]
    by_cases hg : rgtS f = true
    · have rr := rgt_rng hg
      have hk : f.id.toNat < s.length := by omega
      have g : s[f.id.toNat]? = some s[f.id.toNat] := List.getElem?_eq_getElem hk
      have a1 : 0 ≤ f.id := rr.1
      have a2 : f.id < ((256 : Nat) : Int) := by omega
      have a3 : 0 + f.id.toNat * 1 = f.id.toNat := by omega
      have a4 : (f.id.toNat + 1).ble (List.map AV.bool s).length = true := by rw [Nat.ble_eq, List.length_map]; omega
      simp only [hg, a1, a2, a3, a4, decide_true, Bool.and_self, cond_true, g, Option.map_some, u_asB, Bool.not_true, cond_false, Option.bind_some, Tok.untok_tok, setAt_bool, all_flat_bool, h, Option.getD_some, Bool.true_and]
      by_cases hb : s[f.id.toNat] = true
      · simp [hb]
      · have hb : s[f.id.toNat] = false := by simpa using hb
        simp [hb]
    · have hg : rgtS f = false := by simpa using hg
      simp [hg]
theorem freshS_iff : ∀ (l : List Fld) (s : List Bool), s.length = 256 → (freshS s l = true ↔ (∀ f ∈ l, rgtS f = true ∧ s[f.id.toNat]? = some false) ∧ nodupI (l.map Fld.id) = true)
  | [], s, _ => by simp [freshS, nodupI]
  | f :: l, s, hs => by
    have ih := freshS_iff l (s.set f.id.toNat true) (by simpa using hs)
    simp only [freshS, Bool.and_eq_true, ih, List.map_cons, nodupI, Bool.not_eq_true', List.mem_cons, forall_eq_or_imp]
    have key : rgtS f = true → ((s[f.id.toNat]?).getD false = false ↔ s[f.id.toNat]? = some false) := by
      intro hg
      have rr := rgt_rng hg
      have hk : f.id.toNat < s.length := by omega
      rw [List.getElem?_eq_getElem hk]
      simp
    have key2 : rgtS f = true → ∀ g, rgtS g = true → ((s.set f.id.toNat true)[g.id.toNat]? = some false ↔ (s[g.id.toNat]? = some false ∧ g.id ≠ f.id)) := by
      intro hg g hgg
      have r1 := rgt_rng hg
      have r2 := rgt_rng hgg
      rw [List.getElem?_set]
      by_cases e : f.id.toNat = g.id.toNat
      · have e' : g.id = f.id := by omega
        rw [if_pos e, if_pos (by omega)]
        simp [e']
      · have e' : g.id ≠ f.id := by omega
        rw [if_neg e]
        simp [e']
    constructor
    · rintro ⟨⟨h1, h2⟩, h3, h4⟩
      refine ⟨⟨⟨h1, (key h1).1 h2⟩, fun g hg => ⟨(h3 g hg).1, ((key2 h1 g (h3 g hg).1).1 (h3 g hg).2).1⟩⟩, ?_, h4⟩
      simp only [List.any_map, List.any_eq_false, Function.comp_apply, beq_iff_eq]
      intro g hg
      exact ((key2 h1 g (h3 g hg).1).1 (h3 g hg).2).2
    · rintro ⟨⟨⟨h1, h2⟩, h3⟩, h4, h5⟩
      refine ⟨⟨h1, (key h1).2 h2⟩, fun g hg => ⟨(h3 g hg).1, (key2 h1 g (h3 g hg).1).2 ⟨(h3 g hg).2, ?_⟩⟩, h5⟩
      simp only [List.any_map, List.any_eq_false, Function.comp_apply, beq_iff_eq] at h4
      exact h4 g hg
theorem freshS_0 (l : List Fld) : freshS (List.replicate 256 false) l = (l.all rgtS && nodupI (l.map Fld.id)) := by
  rw [Bool.eq_iff_iff, freshS_iff _ _ List.length_replicate]
  simp only [Bool.and_eq_true, List.all_eq_true]
  constructor
  · rintro ⟨h1, h2⟩; exact ⟨fun f hf => (h1 f hf).1, h2⟩
  · rintro ⟨h1, h2⟩
    refine ⟨fun f hf => ⟨h1 f hf, ?_⟩, h2⟩
    have r := rgt_rng (h1 f hf)
    rw [List.getElem?_replicate, if_pos (by omega)]
set_option maxRecDepth 20000 in
theorem bools256 : (List.replicate 256 false).map AV.bool = [.bool false, .bool false, .bool false, .bool false, .bool false, .bool false, .bool false, .bool false, .bool false, .bool false, .bool false, .bool false, .bool false, .bool false, .bool false, .bool false, .bool false, .bool false, .bool false, .bool false, .bool false, .bool false, .bool false, .bool false, .bool false, .bool false, .bool false, .bool false, .bool false, .bool false, .bool false, .bool false, .bool false, .bool false, .bool false, .bool false, .bool false, .bool false, .bool false, .bool false, .bool false, .bool false, .bool false, .bool false, .bool false, .bool false, .bool false, .bool false, .bool false, .bool false, .bool false, .bool false, .bool false, .bool false, .bool false, .bool false, .bool false, .bool false, .bool false, .bool false, .bool false, .bool false, .bool false, .bool false, .bool false, .bool false, .bool false, .bool false, .bool false, .bool false, .bool false, .bool false, .bool false, .bool false, .bool false, .bool false, .bool false, .bool false, .bool false, .bool false, .bool false, .bool false, .bool false, .bool false, .bool false, .bool false, .bool false, .bool false, .bool false, .bool false, .bool false, .bool false, .bool false, .bool false, .bool false, .bool false, .bool false, .bool false, .bool false, .bool false, .bool false, .bool false, .bool false, .bool false, .bool false, .bool false, .bool false, .bool false, .bool false, .bool false, .bool false, .bool false, .bool false, .bool false, .bool false, .bool false, .bool false, .bool false, .bool false, .bool false, .bool false, .bool false, .bool false, .bool false, .bool false, .bool false, .bool false, .bool false, .bool false, .bool false, .bool false, .bool false, .bool false, .bool false, .bool false, .bool false, .bool false, .bool false, .bool false, .bool false, .bool false, .bool false, .bool false, .bool false, .bool false, .bool false, .bool false, .bool false, .bool false, .bool false, .bool false, .bool false, .bool false, .bool false, .bool false, .bool false, .bool false, .bool false, .bool false, .bool false, .bool false, .bool false, .bool false, .bool false, .bool false, .bool false, .bool false, .bool false, .bool false, .bool false, .bool false, .bool false, .bool false, .bool false, .bool false, .bool false, .bool false, .bool false, .bool false, .bool false, .bool false, .bool false, .bool false, .bool false, .bool false, .bool false, .bool false, .bool false, .bool false, .bool false, .bool false, .bool false, .bool false, .bool false, .bool false, .bool false, .bool false, .bool false, .bool false, .bool false, .bool false, .bool false, .bool false, .bool false, .bool false, .bool false, .bool false, .bool false, .bool false, .bool false, .bool false, .bool false, .bool false, .bool false, .bool false, .bool false, .bool false, .bool false, .bool false, .bool false, .bool false, .bool false, .bool false, .bool false, .bool false, .bool false, .bool false, .bool false, .bool false, .bool false, .bool false, .bool false, .bool false, .bool false, .bool false, .bool false, .bool false, .bool false, .bool false, .bool false, .bool false, .bool false, .bool false, .bool false, .bool false, .bool false, .bool false, .bool false, .bool false, .bool false, .bool false, .bool false, .bool false, .bool false, .bool false, .bool false] := rfl
set_option maxRecDepth 20000 in
theorem c_sFine (f : Frm) (h : f.fields.length ≤ 211106232532992) : tbl E0 64 [frmV f] [] = some ([.bool (fineS f)], []) :=
  t_sFine f (by
    have e := c_sFineL f.fields h f.fields 0 (List.replicate 256 false) rfl List.length_replicate
    simp only [Int.natCast_zero, freshS_0] at e
    rw [bools256] at e
    have c := c_sLong f h
    simp only [s_sFine, OA_chk, cond_true, OA_join, OA_asm, List.length_map, OA_callx, c, Option.bind_some, u_asC, u_asI, u_asB, u_asN, OA_loop, e]
    unfold fineS
    by_cases a1 : f.id < 0
    · have : ¬ (0 ≤ f.id) := by omega
      simp [a1, this]
    · by_cases a2 : f.id > 200
      · have : ¬ (f.id ≤ 200) := by omega
        simp [a1, a2, this]
      · by_cases a3 : (f.fields.length : Int) < 1
        · have : ¬ (1 ≤ f.fields.length) := by omega
          simp [a1, a2, a3, this]
        · by_cases a4 : (f.fields.length : Int) > 8
          · have : ¬ (f.fields.length ≤ 8) := by omega
            simp [a1, a2, a3, a4, this]
          · by_cases a5 : longS f.fields > 64
            · have : ¬ (longS f.fields ≤ 64) := by omega
              simp [a1, a2, a3, a4, a5, this]
            · have b1 : 0 ≤ f.id ∧ f.id ≤ 200 := by omega
              have b2 : 1 ≤ f.fields.length ∧ f.fields.length ≤ 8 := by omega
              have b3 : longS f.fields ≤ 64 := by omega
              simp only [a1, a2, a3, a4, a5, b1, b2, b3, decide_true, decide_false, cond_false, Option.bind_some, Tok.untok_tok, Bool.true_and, and_self]
              cases (f.fields.all rgtS && nodupI (f.fields.map Fld.id)) <;> simp)
def idxS (l : List Fld) : Nat → List Fld → Bool
  | _, [] => true
  | i, x :: r => rgtS x && decide (atS l x.id = i) && idxS l (i + 1) r
theorem atS_app (p r : List Fld) (x : Fld) : atS (p ++ x :: r) x.id = p.length ↔ ∀ f ∈ p, f.id ≠ x.id := by
  unfold atS firstS
  constructor
  · intro h f hf e
    have h1 : (p ++ x :: r).findIdx? (fun f : Fld => f.id == x.id) = (p.findIdx? (fun f : Fld => f.id == x.id)).or _ := List.findIdx?_append
    cases h2 : p.findIdx? (fun f : Fld => f.id == x.id) with
    | none =>
      rw [List.findIdx?_eq_none_iff] at h2
      have := h2 f hf
      simp [e] at this
    | some j =>
      rw [h1, h2] at h
      obtain ⟨hj, _⟩ := List.findIdx?_eq_some_iff_getElem.1 h2
      simp only [Option.some_or] at h
      omega
  · intro h
    have h2 : p.findIdx? (fun f : Fld => f.id == x.id) = none := by
      rw [List.findIdx?_eq_none_iff]
      intro f hf
      simpa using h f hf
    rw [List.findIdx?_append, h2, List.findIdx?_cons]
    simp
theorem idxS_iff : ∀ (r p : List Fld), idxS (p ++ r) p.length r = true ↔ (∀ x ∈ r, rgtS x = true ∧ ∀ f ∈ p, f.id ≠ x.id) ∧ nodupI (r.map Fld.id) = true
  | [], p => by simp [idxS, nodupI]
  | x :: r, p => by
    have ih := idxS_iff r (p ++ [x])
    simp only [List.append_assoc, List.singleton_append, List.length_append, List.length_singleton] at ih
    simp only [idxS, Bool.and_eq_true, ih, decide_eq_true_eq, atS_app, List.map_cons, nodupI, List.mem_cons, forall_eq_or_imp, Bool.not_eq_true', List.any_map, List.any_eq_false, Function.comp_apply, beq_iff_eq, List.mem_append, List.not_mem_nil, or_false]
    constructor
    · rintro ⟨⟨h1, h2⟩, h3, h4⟩
      refine ⟨⟨⟨h1, h2⟩, fun y hy => ⟨(h3 y hy).1, fun f hf => (h3 y hy).2 f (Or.inl hf)⟩⟩, fun y hy e => (h3 y hy).2 x (Or.inr rfl) e.symm, h4⟩
    · rintro ⟨⟨⟨h1, h2⟩, h3⟩, h4, h5⟩
      refine ⟨⟨h1, h2⟩, fun y hy => ⟨(h3 y hy).1, ?_⟩, h5⟩
      rintro f (hf | rfl)
      · exact (h3 y hy).2 f hf
      · exact fun e => h4 y hy e.symm
theorem idxS_0 (l : List Fld) : idxS l 0 l = (l.all rgtS && nodupI (l.map Fld.id)) := by
  rw [Bool.eq_iff_iff]
  have := idxS_iff l []
  simp only [List.nil_append, List.length_nil] at this
  rw [this]
  simp
theorem c_yFineL (f : Frm) (hl : f.fields.length ≤ 211106232532992) : ∀ (r : List Fld) (i : Nat), f.fields.drop i = r →
    ltbl E0 50 0 4 [.int .i64 i] [[.int .i64 f.id, fldsV f.fields]] = some (if idxS f.fields i r then (1, [], [[.int .i64 f.id, fldsV f.fields]]) else (0, [.bool false], [])) := by
  intro r
  induction r with
  | nil =>
    intro i hr
    have h : f.fields.length ≤ i := by simpa using hr
    refine t_yFineL _ _ ?_
    have : ¬ ((i : Int) < f.fields.length) := by omega
    simp [s_yFineL, this, idxS]
  | cons x r ih =>
    intro i hr
    obtain ⟨hlt, hget, hr2⟩ := drop_c hr
    have h2 : (i : Int) < f.fields.length := by omega
    have e1 := i64_succ (i := i) (by omega)
    have h := ih (i + 1) hr2
    have c := c_yRight x
    have c2 := c_yAt f x.id hl
    refine t_yFineL _ _ ?_
    simp only [s_yFineL, OA_asm, List.length_map, h2, decide_true, cond_true, OA_chk, Int.natCast_nonneg, nthE, Int.toNat_natCast, List.getElem?_map, hget, Option.map_some, u_asA, u_asC, u_asI, u_asB, u_asN, OA_callx, c, c2, Option.bind_some, e1, h, idxS]
    by_cases hg : rgtS x = true
    · by_cases ha : atS f.fields x.id = i
      · simp [hg, ha]
      · simp [hg, ha]
    · have hg : rgtS x = false := by simpa using hg
      simp [hg]
theorem c_yFine (f : Frm) (h : f.fields.length ≤ 211106232532992) : tbl E0 50 [frmV f] [] = some ([.bool (fineS f)], []) :=
  t_yFine f (by
    have e := c_yFineL f h f.fields 0 rfl
    simp only [Int.natCast_zero, idxS_0] at e
    have c := c_yLong f h
    simp only [s_yFine, OA_chk, cond_true, OA_join, OA_asm, List.length_map, OA_callx, c, Option.bind_some, u_asC, u_asI, u_asB, u_asL, u_asN, OA_loop, e]
    unfold fineS
    by_cases a1 : f.id < 0
    · have : ¬ (0 ≤ f.id) := by omega
      simp [a1, this]
    · by_cases a2 : f.id > 200
      · have : ¬ (f.id ≤ 200) := by omega
        simp [a1, a2, this]
      · by_cases a3 : (f.fields.length : Int) < 1
        · have : ¬ (1 ≤ f.fields.length) := by omega
          simp [a1, a2, a3, this]
        · by_cases a4 : (f.fields.length : Int) > 8
          · have : ¬ (f.fields.length ≤ 8) := by omega
            simp [a1, a2, a3, a4, this]
          · have b1 : 0 ≤ f.id ∧ f.id ≤ 200 := by omega
            have b2 : 1 ≤ f.fields.length ∧ f.fields.length ≤ 8 := by omega
            simp only [a1, a2, a3, a4, b1, b2, decide_true, decide_false, cond_false, Option.bind_some, Tok.untok_tok, Bool.true_and, and_self]
            cases f.fields.all rgtS <;> cases nodupI (f.fields.map Fld.id) <;> simp [c])
end Go.Proofs.Ytalpknofimglbaa.V
namespace Go.Proofs.Ytalpknofimglbaa.V
open Go
theorem bor (b : Bool) : b = true ∨ b = false := by cases b <;> simp
def Sml (s : Sch) : Prop := s.forms.length ≤ 211106232532992 ∧ ∀ f ∈ s.forms, f.fields.length ≤ 211106232532992
theorem mem_drop {α : Type} {l r : List α} {i : Nat} {a : α} (h : l.drop i = a :: r) : a ∈ l := List.mem_of_mem_drop (h ▸ List.mem_cons_self : a ∈ l.drop i)
theorem c_sRightL (l : List Frm) (hl : l.length ≤ 211106232532992) (hf : ∀ f ∈ l, f.fields.length ≤ 211106232532992) : ∀ (r : List Frm) (i : Nat) (last : Int), l.drop i = r →
    ltbl E0 32 0 5 [.int .i64 last, frmsV l, .int .i64 l.length, .int .i64 i] [] = some (if risingS last r then (1, [], []) else (0, [.bool false], [])) := by
  intro r
  induction r with
  | nil =>
    intro i last hr
    have h : l.length ≤ i := by simpa using hr
    refine t_sRightL _ _ _ _ ?_
    have : ¬ ((i : Int) < l.length) := by omega
    simp [s_sRightL, this, risingS]
  | cons f r ih =>
    intro i last hr
    obtain ⟨hlt, hget, hr2⟩ := drop_c hr
    have h2 : (i : Int) < l.length := by omega
    have e1 := i64_succ (i := i) (by omega)
    have h := ih (i + 1) f.id hr2
    have c := c_sFine f (hf f (mem_drop hr))
    refine t_sRightL _ _ _ _ ?_
    simp only [s_sRightL, h2, decide_true, cond_true, OA_chk, Int.natCast_nonneg, nthE, Int.toNat_natCast, List.getElem?_map, hget, Option.map_some, u_asA, u_asC, u_asI, u_asB, u_asL, u_asN, OA_callx, OA_join, c, Option.bind_some, e1, h, risingS]
    by_cases a : f.id ≤ last
    · have : ¬ (last < f.id) := by omega
      rcases bor (fineS f) with hb | hb <;> simp [hb, a, this]
    · have b : last < f.id := by omega
      rcases bor (fineS f) with hb | hb <;> simp [hb, a, b]
theorem c_sRight (s : Sch) (h : Sml s) : tbl E0 32 [schV s] [] = some ([.bool (schS s)], []) :=
  t_sRight s (by
    have e := c_sRightL s.forms h.1 h.2 s.forms 0 (-1) rfl
    simp only [Int.natCast_zero] at e
    simp only [s_sRight, OA_chk, cond_true, OA_join, OA_asm, List.length_map, Option.bind_some, u_asC, u_asI, u_asB, u_asN, OA_loop, e]
    unfold schS
    by_cases a1 : s.ver < 1
    · have : ¬ (1 ≤ s.ver) := by omega
      simp [a1, this]
    · by_cases a2 : s.ver > 65535
      · have : ¬ (s.ver ≤ 65535) := by omega
        simp [a1, a2, this]
      · by_cases a4 : (s.forms.length : Int) > 8
        · have : ¬ (s.forms.length ≤ 8) := by omega
          simp [a1, a2, a4, this]
        · have b1 : 1 ≤ s.ver ∧ s.ver ≤ 65535 := by omega
          have b2 : s.forms.length ≤ 8 := by omega
          simp only [a1, a2, a4, b1, b2, decide_true, decide_false, cond_false, Option.bind_some, Tok.untok_tok, Bool.true_and, and_self]
          rcases bor (risingS (-1) s.forms) with hb | hb <;> simp [hb])
def riseS (l : List Frm) : Nat → List Frm → Bool
  | _, [] => true
  | i, f :: r => fineS f && (i == 0 || (match l[i - 1]? with | some g => decide (g.id < f.id) | none => false)) && riseS l (i + 1) r
theorem riseS_eq : ∀ (r : List Frm) (p : List Frm) (g : Frm), riseS (p ++ g :: r) (p.length + 1) r = risingS g.id r
  | [], p, g => rfl
  | f :: r, p, g => by
    have ih := riseS_eq r (p ++ [g]) f
    simp only [List.append_assoc, List.singleton_append, List.length_append, List.length_singleton] at ih
    simp [riseS, risingS, ih]
theorem riseS_0 (l : List Frm) : riseS l 0 l = risingS (-1) l := by
  cases l with
  | nil => rfl
  | cons f r =>
    have h := riseS_eq r [] f
    simp only [List.nil_append, List.length_nil, Nat.zero_add] at h
    simp only [riseS, h, risingS, beq_self_eq_true, Bool.true_or, Bool.and_true, Nat.zero_add]
    by_cases hf : fineS f = true
    · have : -1 < f.id := by
        unfold fineS at hf
        simp only [Bool.and_eq_true, decide_eq_true_eq] at hf
        omega
      simp [this]
    · have hf : fineS f = false := by simpa using hf
      simp [hf]
theorem c_ysRightL (s : Sch) (hs : Sml s) : ∀ (r : List Frm) (i : Nat), s.forms.drop i = r →
    ltbl E0 17 0 4 [.int .i64 i] [[.int .i64 s.ver, frmsV s.forms]] = some (if riseS s.forms i r then (1, [], []) else (0, [.bool false], [])) := by
  have hl := hs.1
  intro r
  induction r with
  | nil =>
    intro i hr
    have h : s.forms.length ≤ i := by simpa using hr
    refine t_ysRightL _ _ ?_
    have : ¬ ((i : Int) < s.forms.length) := by omega
    simp [s_ysRightL, this, riseS]
  | cons f r ih =>
    intro i hr
    obtain ⟨hlt, hget, hr2⟩ := drop_c hr
    have h2 : (i : Int) < s.forms.length := by omega
    have e1 := i64_succ (i := i) (by omega)
    have h := ih (i + 1) hr2
    have c := c_yFine f (hs.2 f (mem_drop hr))
    refine t_ysRightL _ _ ?_
    by_cases i0 : i = 0
    · subst i0
      simp only [Int.natCast_zero] at h2
      simp only [s_ysRightL, OA_asm, List.length_map, Int.natCast_zero, h2, decide_true, cond_true, OA_chk, Int.natCast_nonneg, nthE, Int.toNat_natCast, Int.toNat_zero, Int.le_refl, List.getElem?_map, hget, Option.map_some, u_asA, u_asC, u_asI, u_asB, u_asL, u_asN, OA_callx, c, Option.bind_some, riseS]
      simp only [Int.natCast_zero] at e1
      rcases bor (fineS f) with hb | hb
      · simp only [Int.zero_add, Nat.zero_add] at e1 h
        simp [hb]
        rw [e1]
        exact h
      · simp [hb]
    · have g0 : (i : Int) > 0 := by omega
      have g1 : IntKind.i64.wrap ((i : Int) - 1) = ((i - 1 : Nat) : Int) := by rw [wrap_i64 _ (by omega) (by omega)]; omega
      have g2 : s.forms[i - 1]? = some (s.forms[i - 1]'(by omega)) := List.getElem?_eq_getElem _
      simp only [s_ysRightL, OA_asm, List.length_map, h2, decide_true, cond_true, OA_chk, Int.natCast_nonneg, nthE, Int.toNat_natCast, List.getElem?_map, hget, Option.map_some, u_asA, u_asC, u_asI, u_asB, u_asL, u_asN, OA_callx, c, Option.bind_some, riseS, g0, g1, g2, e1, h, beq_f i0, Bool.false_or]
      rcases bor (fineS f) with hb | hb
      rotate_left
      · simp [hb]
      · by_cases a : (s.forms[i - 1]'(by omega)).id ≥ f.id
        · have b : ¬ ((s.forms[i - 1]'(by omega)).id < f.id) := by omega
          simp [hb, a, b]
        · have b : (s.forms[i - 1]'(by omega)).id < f.id := by omega
          simp [hb, a, b]
theorem c_ysRight (s : Sch) (h : Sml s) : tbl E0 17 [schV s] [] = some ([.bool (schS s)], []) :=
  t_ysRight s (by
    have e := c_ysRightL s h s.forms 0 rfl
    simp only [Int.natCast_zero, riseS_0] at e
    simp only [s_ysRight, OA_chk, cond_true, OA_join, OA_asm, List.length_map, Option.bind_some, u_asC, u_asI, u_asB, u_asN, OA_loop, e]
    unfold schS
    by_cases a1 : s.ver < 1
    · have : ¬ (1 ≤ s.ver) := by omega
      simp [a1, this]
    · by_cases a2 : s.ver > 65535
      · have : ¬ (s.ver ≤ 65535) := by omega
        simp [a1, a2, this]
      · by_cases a4 : (s.forms.length : Int) > 8
        · have : ¬ (s.forms.length ≤ 8) := by omega
          simp [a1, a2, a4, this]
        · have b1 : 1 ≤ s.ver ∧ s.ver ≤ 65535 := by omega
          have b2 : s.forms.length ≤ 8 := by omega
          simp only [a1, a2, a4, b1, b2, decide_true, decide_false, cond_false, Option.bind_some, Tok.untok_tok, Bool.true_and, and_self]
          rcases bor (risingS (-1) s.forms) with hb | hb <;> simp [hb])
end Go.Proofs.Ytalpknofimglbaa.V
namespace Go.Proofs.Ytalpknofimglbaa.V
open Go
def big (f : Frm) : Bool := decide (40 < f.fields.length)
theorem c_yFindL (s : Sch) (id : Int) (hs : Sml s) : ∀ (r : List Frm) (i : Nat), s.forms.drop i = r →
    ltbl E0 18 0 2 [.int .i64 id, .int .i64 i] [[.int .i64 s.ver, frmsV s.forms]] = some (fromS (fun f : Frm => f.id == id) i r) := by
  have hl := hs.1
  intro r
  induction r with
  | nil =>
    intro i hr
    have h : s.forms.length ≤ i := by simpa using hr
    refine t_yFindL _ _ _ ?_
    have : ¬ ((i : Int) < s.forms.length) := by omega
    simp [s_yFindL, this, fromS_nil]
  | cons x r ih =>
    intro i hr
    obtain ⟨hlt, hget, hr2⟩ := drop_c hr
    have h2 : (i : Int) < s.forms.length := by omega
    have e1 := i64_succ (i := i) (by omega)
    have h := ih (i + 1) hr2
    refine t_yFindL _ _ _ ?_
    rw [fromS_cons]
    simp only [s_yFindL, OA_asm, List.length_map, h2, decide_true, cond_true, OA_chk, Int.natCast_nonneg, nthE, Int.toNat_natCast, List.getElem?_map, hget, Option.map_some, u_asA, u_asC, u_asI, u_asB, u_asL, u_asN, e1, h]
    cases x.id == id <;> rfl
def findS (l : List Frm) (id : Int) : Int := firstS (fun f : Frm => f.id == id) l
theorem c_yFind (s : Sch) (id : Int) (h : Sml s) : tbl E0 18 [schV s, .int .i64 id] [] = some ([.int .i64 (findS s.forms id)], []) :=
  t_yFind s id (by
    have e := c_yFindL s id h s.forms 0 rfl
    simp only [Int.natCast_zero] at e
    simp only [s_yFind, OA_chk, cond_true, OA_loop, e, Option.bind_some, fromS, findS, firstS]
    cases s.forms.findIdx? (fun f : Frm => f.id == id) <;> simp)
theorem c_sFormL (l : List Frm) (id : Int) (hl : l.length ≤ 211106232532992) : ∀ (r : List Frm) (i : Nat), l.drop i = r →
    ltbl E0 53 0 2 [.int .i64 id, frmsV l, .int .i64 l.length, .int .i64 i] [[.int .i64 0, fldsV []]] = some (match r.find? (fun f : Frm => f.id == id) with | some f => (0, [.bool true], [[.int .i64 f.id, fldsV f.fields]]) | none => (1, [], [[.int .i64 0, fldsV []]])) := by
  intro r
  induction r with
  | nil =>
    intro i hr
    have h : l.length ≤ i := by simpa using hr
    refine t_sFormL l ⟨0, []⟩ id _ _ ?_
    have : ¬ ((i : Int) < l.length) := by omega
    simp [s_sFormL, this]
  | cons x r ih =>
    intro i hr
    obtain ⟨hlt, hget, hr2⟩ := drop_c hr
    have h2 : (i : Int) < l.length := by omega
    have e1 := i64_succ (i := i) (by omega)
    have h := ih (i + 1) hr2
    refine t_sFormL l ⟨0, []⟩ id _ _ ?_
    rw [List.find?_cons]
    simp only [s_sFormL, h2, decide_true, cond_true, OA_chk, Int.natCast_nonneg, nthE, Int.toNat_natCast, List.getElem?_map, hget, Option.map_some, u_asA, u_asC, u_asI, u_asB, u_asL, u_asN, e1, h]
    rcases bor (x.id == id) with hb | hb <;> simp only [hb, cond_true, cond_false]
def formS (l : List Frm) (id : Int) : Option Frm := l.find? (fun f : Frm => f.id == id)
theorem c_sForm (s : Sch) (id : Int) (h : Sml s) : tbl E0 53 [schV s, .int .i64 id] [] = some (match formS s.forms id with | some f => [frmV f, .bool true] | none => [frmV ⟨0, []⟩, .bool false], []) :=
  t_sForm s id (by
    have e := c_sFormL s.forms id h.1 s.forms 0 rfl
    unfold formS
    cases hf : s.forms.find? (fun f : Frm => f.id == id) with
    | none =>
      rw [hf] at e
      simp only [fldsV, frmsV, List.map_nil, Int.natCast_zero] at e
      simp [s_sForm, e]
    | some f =>
      rw [hf] at e
      simp only [fldsV, frmsV, List.map_nil, Int.natCast_zero] at e
      simp [s_sForm, e])
theorem find_form (l : List Frm) (id : Int) : (∃ j f, formS l id = some f ∧ findS l id = (j : Nat) ∧ l[j]? = some f) ∨ (formS l id = none ∧ findS l id = -1) := by
  unfold formS findS firstS
  cases h : l.findIdx? (fun f : Frm => f.id == id) with
  | none =>
    right
    refine ⟨?_, rfl⟩
    rw [List.findIdx?_eq_none_iff] at h
    rw [List.find?_eq_none]
    intro x hx
    simp [h x hx]
  | some j =>
    left
    obtain ⟨hj, h1, h2⟩ := List.findIdx?_eq_some_iff_getElem.1 h
    refine ⟨j, l[j], ?_, rfl, List.getElem?_eq_getElem hj⟩
    rw [List.find?_eq_some_iff_getElem]
    exact ⟨h1, j, hj, rfl, fun k hk => by simpa using h2 k hk⟩
theorem fld_eq (a b : Fld) : (a.id == b.id && (a.kind == b.kind && (a.lo == b.lo && (a.hi == b.hi && (a.most == b.most && true))))) = decide (a = b) := by
  rw [Bool.eq_iff_iff]
  cases a; cases b
  simp
theorem c_EqualFL (a b : List Fld) (hl : a.length ≤ 211106232532992) (hab : a.length = b.length) : ∀ (r r' : List Fld) (i : Nat), a.drop i = r → b.drop i = r' →
    ltbl E0 85 0 4 [fldsV a, fldsV b, .int .i64 a.length, .int .i64 i] [] = some (if r = r' then (1, [], []) else (0, [.bool false], [])) := by
  intro r
  induction r with
  | nil =>
    intro r' i hr hr'
    have h : a.length ≤ i := by simpa using hr
    have : r' = [] := by rw [← hr']; simp; omega
    subst this
    refine t_EqualFL _ _ _ _ ?_
    have : ¬ ((i : Int) < a.length) := by omega
    simp [s_EqualFL, this]
  | cons x r ih =>
    intro r' i hr hr'
    obtain ⟨hlt, hget, hr2⟩ := drop_c hr
    cases r' with
    | nil => simp at hr'; omega
    | cons y r' =>
      obtain ⟨_, hget', hr2'⟩ := drop_c hr'
      have h2 : (i : Int) < a.length := by omega
      have e1 := i64_succ (i := i) (by omega)
      have h := ih r' (i + 1) hr2 hr2'
      refine t_EqualFL _ _ _ _ ?_
      simp only [s_EqualFL, OA_asm, List.length_map, h2, decide_true, cond_true, OA_chk, Int.natCast_nonneg, nthE, Int.toNat_natCast, List.getElem?_map, hget, hget', Option.map_some, u_asA, u_asC, u_asI, u_asB, u_asL, u_asN, e1, h, fld_eq]
      by_cases e : x = y
      · simp [e]
      · simp [e]
theorem c_EqualF (a b : List Fld) (h : a.length ≤ 211106232532992) : tbl E0 85 [fldsV a, fldsV b] [] = some ([.bool (decide (a = b))], []) :=
  t_EqualF a b (by
    simp only [s_EqualF, OA_asm, List.length_map, OA_loop]
    by_cases hab : a.length = b.length
    · have e := c_EqualFL a b h hab a b 0 rfl rfl
      simp only [Int.natCast_zero] at e
      have h' : ((a.length : Int) != (b.length : Int)) = false := by rw [hab]; simp
      rw [h', cond_false, e]
      by_cases e2 : a = b <;> simp [e2]
    · have : ¬ (a = b) := fun e => hab (by rw [e])
      have h' : ((a.length : Int) != (b.length : Int)) = true := bne_t (by omega)
      rw [h']
      simp [this])
end Go.Proofs.Ytalpknofimglbaa.V
namespace Go.Proofs.Ytalpknofimglbaa.V
open Go
end Go.Proofs.Ytalpknofimglbaa.V
namespace Go.Proofs.Ytalpknofimglbaa.V
open Go
theorem fineS_iff (f : Frm) : fineS f = true ↔ (0 ≤ f.id ∧ f.id ≤ 200) ∧ (1 ≤ f.fields.length ∧ f.fields.length ≤ 8) ∧ longS f.fields ≤ 64 ∧ (∀ x ∈ f.fields, rgtS x = true) ∧ nodupI (f.fields.map Fld.id) = true := by
  unfold fineS
  simp only [Bool.and_eq_true, decide_eq_true_eq, List.all_eq_true, and_assoc]
theorem risingS_all : ∀ (l : List Frm) (n : Int), risingS n l = true → ∀ f ∈ l, fineS f = true
  | [], n, _, f, hf => by cases hf
  | g :: l, n, h, f, hf => by
    simp only [risingS, Bool.and_eq_true] at h
    rcases List.mem_cons.1 hf with rfl | hf
    · exact h.1.1
    · exact risingS_all l _ h.2 f hf
end Go.Proofs.Ytalpknofimglbaa.V
namespace Go.Proofs.Ytalpknofimglbaa.V
open Go
end Go.Proofs.Ytalpknofimglbaa.V
namespace Go.Proofs.Ytalpknofimglbaa.V
open Go
def Stp.ok (x : Stp) : Prop := i64 x.op ∧ i64 x.form ∧ i64 x.field ∧ i64 x.place ∧ i64 x.to ∧ i64 x.a ∧ i64 x.b ∧ x.f.ok ∧ i64 x.n ∧ (∀ n ∈ x.t, i64 n) ∧ ∀ f ∈ x.fields, f.ok
def Stp.sml (x : Stp) : Prop := x.t.length ≤ 211106232532992 ∧ x.fields.length ≤ 211106232532992
def opsL : List Int := [1, 2, 3, 4, 5, 6, 7, 8, 9, 10, 21, 22, 23, 24, 25, 26, 27, 28, 29, 30]
def usesS (op : Int) : List Int :=
  if op = 1 then [0, 2, 6, 7] else if op = 22 then [0, 2, 6, 7] else if op = 2 then [0, 1, 7] else if op = 3 then [0, 1, 6] else if op = 23 then [0, 1, 6]
  else if op = 4 then [0, 1, 5] else if op = 24 then [0, 1, 5, 6] else if op = 5 then [0, 1, 4, 8] else if op = 25 then [0, 1, 8] else if op = 6 then [0, 1, 4, 3]
  else if op = 26 then [0, 1, 4, 3, 6] else if op = 7 then [0, 1, 2] else if op = 27 then [0, 1, 2] else if op = 8 then [0, 1, 3] else if op = 28 then [0, 1, 3]
  else if op = 9 then [0, 9] else if op = 30 then [0, 9] else if op = 10 then [0] else if op = 29 then [0] else if op = 21 then [0, 1] else []
def hasS (op p : Int) : Bool := (usesS op).contains p
def inS (n lo hi : Int) : Bool := decide (lo ≤ n) && decide (n ≤ hi)
def longestS (f : Fld) : Int := if f.kind = 4 then f.most else 0
def hasV (f : Fld) (n : Int) (s : List UInt8) : Bool := rgtS f && (inS n (loS f) (hiS f) && decide ((s.length : Int) ≤ longestS f))
def apartS (l : List Int) (below : Int) : Bool := (l.all fun n => inS n 0 (below - 1)) && nodupI l && decide (1 ≤ l.length ∧ l.length ≤ 64)
def fitsS (x : Stp) (p : Int) : Bool :=
  if p = 0 then inS x.form 0 200 else if p = 1 then inS x.field 0 255 else if p = 2 then inS x.place 0 8 else if p = 3 then inS x.to 0 255 && x.to != x.field
  else if p = 4 then (if x.op = 5 then inS x.a 1 1000 else inS x.a 2 1048576)
  else if p = 5 then inS x.a (-1048576) 1048576 && (x.a != 0 && inS x.b (-1099511627776) 1099511627776)
  else if p = 6 then rgtS x.f && (x.op == 1 || (x.op == 22 || x.f.id == x.field))
  else if p = 7 then (if x.op = 2 then inS x.n (-1099511627776) 1099511627776 && decide ((x.s.length : Int) ≤ 32) else hasV x.f x.n x.s)
  else if p = 8 then apartS x.t (if x.op = 5 then x.a else 1000)
  else fineS ⟨x.form, x.fields⟩
def fld0 : Fld := ⟨0, 0, 0, 0, 0⟩
def onlyS (x : Stp) : Stp :=
  ⟨x.op, if hasS x.op 0 then x.form else 0, if hasS x.op 1 then x.field else 0, if hasS x.op 2 then x.place else 0, if hasS x.op 3 then x.to else 0,
    if hasS x.op 4 || hasS x.op 5 then x.a else 0, if hasS x.op 5 then x.b else 0, if hasS x.op 6 then x.f else fld0, if hasS x.op 7 then x.n else 0, if hasS x.op 7 then x.s else [],
    if hasS x.op 8 then x.t else [], if hasS x.op 9 then x.fields else []⟩
def tRightS (x : Stp) : Bool := (usesS x.op).all (fitsS x) && (!(usesS x.op).isEmpty && decide (x = onlyS x))
def zeroS (x : Stp) : Bool :=
  (hasS x.op 1 || x.field == 0) && ((hasS x.op 2 || x.place == 0) && ((hasS x.op 3 || x.to == 0) && ((hasS x.op 4 || (hasS x.op 5 || x.a == 0)) && ((hasS x.op 5 || x.b == 0) &&
    ((hasS x.op 6 || decide (x.f = fld0)) && ((hasS x.op 7 || (x.n == 0 && x.s == [])) && ((hasS x.op 8 || x.t.isEmpty) && (hasS x.op 9 || x.fields.isEmpty))))))))
def numbersS (x : Stp) : Bool :=
  if x.op = 4 ∨ x.op = 24 then inS x.a (-1048576) 1048576 && (x.a != 0 && inS x.b (-1099511627776) 1099511627776)
  else if x.op = 6 ∨ x.op = 26 then inS x.a 2 1048576
  else if x.op = 5 then inS x.a 1 1000 && apartS x.t x.a
  else if x.op = 25 then apartS x.t 1000 else true
def ytRightS (x : Stp) : Bool :=
  !(usesS x.op).isEmpty && (zeroS x && (inS x.form 0 200 && (inS x.field 0 255 && (inS x.place 0 8 && (inS x.to 0 255 && (numbersS x &&
    (!(hasS x.op 3 && x.to == x.field) && (!(hasS x.op 6 && !rgtS x.f) && (!(hasS x.op 6 && (hasS x.op 1 && x.f.id != x.field)) &&
      (!(x.op == 2 && !(inS x.n (-1099511627776) 1099511627776 && decide ((x.s.length : Int) ≤ 32))) && (!(hasS x.op 2 && (hasS x.op 7 && !hasV x.f x.n x.s)) && (!hasS x.op 9 || fineS ⟨x.form, x.fields⟩))))))))))))
theorem op_in (op : Int) : op ∈ opsL ∨ (op ∉ opsL ∧ usesS op = []) := by
  by_cases h : op ∈ opsL
  · exact .inl h
  · refine .inr ⟨h, ?_⟩
    simp only [opsL, List.mem_cons, List.not_mem_nil, or_false, not_or] at h
    obtain ⟨h1, h2, h3, h4, h5, h6, h7, h8, h9, h10, h11, h12, h13, h14, h15, h16, h17, h18, h19, h20⟩ := h
    simp only [usesS, h1, h2, h3, h4, h5, h6, h7, h8, h9, h10, h11, h12, h13, h14, h15, h16, h17, h18, h19, h20, if_false]
theorem op_all {p : Int → Prop} (op : Int) (h : ∀ o ∈ opsL, p o) (h0 : op ∉ opsL → usesS op = [] → p op) : p op := by
  rcases op_in op with h1 | ⟨h1, h2⟩
  · exact h op h1
  · exact h0 h1 h2
theorem tRight_eq (x : Stp) : tRightS x = ytRightS x := by
  obtain ⟨op, form, field, place, to, a, b, f, n, s, t, fields⟩ := x
  refine op_all (p := fun op => tRightS ⟨op, form, field, place, to, a, b, f, n, s, t, fields⟩ = ytRightS ⟨op, form, field, place, to, a, b, f, n, s, t, fields⟩) op ?_ ?_
  · intro o ho
    simp only [opsL, List.mem_cons, List.not_mem_nil, or_false] at ho
    rcases ho with rfl | rfl | rfl | rfl | rfl | rfl | rfl | rfl | rfl | rfl | rfl | rfl | rfl | rfl | rfl | rfl | rfl | rfl | rfl | rfl <;>
    · simp [tRightS, ytRightS, usesS, fitsS, onlyS, zeroS, numbersS, hasS, inS, List.isEmpty_iff]
      rw [Bool.eq_iff_iff]
      simp only [Bool.and_eq_true, Bool.or_eq_true, decide_eq_true_eq, Bool.not_eq_true', beq_iff_eq, bne_iff_ne, ne_eq]
      constructor <;> (intro h; simp_all) <;> (try omega) <;> grind
  · intro _ h
    simp [tRightS, ytRightS, h]
theorem uses_bound (x : Stp) : ∀ (i : Nat) (p : Int), (usesS x.op)[i]? = some p → p = 8 → ((usesS x.op).take i).all (fitsS x) = true → 1 ≤ (if x.op = 5 then x.a else 1000) ∧ (if x.op = 5 then x.a else 1000) ≤ 1000 := by
  intro i p h1 h2 h3
  by_cases ho : x.op = 5
  · subst h2
    have hu : usesS x.op = [0, 1, 4, 8] := by rw [ho]; rfl
    rw [hu] at h1 h3
    match i, h1, h3 with
    | 3, _, h3 =>
      simp [fitsS, ho, inS] at h3
      simp only [ho, if_true]
      omega
    | 0, h1, _ => simp at h1
    | 1, h1, _ => simp at h1
    | 2, h1, _ => simp at h1
    | n + 4, h1, _ => simp at h1
  · simp [ho]
theorem uses_len (op : Int) : (usesS op).length ≤ 5 := by
  refine op_all (p := fun op => (usesS op).length ≤ 5) op ?_ ?_
  · decide
  · intro _ h; simp [h]
end Go.Proofs.Ytalpknofimglbaa.V
namespace Go.Proofs.Ytalpknofimglbaa.V
open Go
theorem fineS_fld {x : Stp} (h : fineS ⟨x.form, x.fields⟩ = true) : x.fields.length ≤ 8 ∧ ∀ f ∈ x.fields, rgtS f = true := by
  obtain ⟨_, h2, _, h4, _⟩ := (fineS_iff _).1 h
  exact ⟨h2.2, h4⟩
def Fits (x : Stp) (p : Int) : Prop := (0 ≤ p ∧ p ≤ 9) ∧ fitsS x p = true ∧ (p = 8 → (if x.op = 5 then x.a else 1000) ≤ 1000)
theorem uses_rng (op : Int) : ∀ p ∈ usesS op, 0 ≤ p ∧ p ≤ 9 := by
  refine op_all (p := fun op => ∀ p ∈ usesS op, 0 ≤ p ∧ p ≤ 9) op ?_ ?_
  · decide
  · intro _ h; simp [h]
theorem right_fits {x : Stp} (h : tRightS x = true) : (∀ p ∈ usesS x.op, Fits x p) ∧ x.op ∈ opsL ∧ x = onlyS x := by
  simp only [tRightS, Bool.and_eq_true, List.all_eq_true, decide_eq_true_eq, Bool.not_eq_true', List.isEmpty_eq_false_iff] at h
  obtain ⟨h1, h2, h3⟩ := h
  refine ⟨fun p hp => ⟨uses_rng _ p hp, h1 p hp, fun h8 => ?_⟩, ?_, h3⟩
  · obtain ⟨i, hi, e⟩ := List.mem_iff_getElem.1 hp
    exact (uses_bound x i p (by rw [← e]; exact List.getElem?_eq_getElem hi) h8 (List.all_eq_true.2 fun q hq => h1 q (List.mem_of_mem_take hq))).2
  · rcases op_in x.op with h | ⟨_, h⟩
    · exact h
    · exact absurd h h2
end Go.Proofs.Ytalpknofimglbaa.V
namespace Go.Proofs.Ytalpknofimglbaa.V
open Go
set_option maxRecDepth 20000 in
theorem c_tuses (op : Int) : tbl E0 65 [.int .i64 op] [] = some ([intsV (usesS op)], []) := by
  refine op_all (p := fun op => tbl E0 65 [.int .i64 op] [] = some ([intsV (usesS op)], [])) op ?_ ?_
  · intro o ho
    simp only [opsL, List.mem_cons, List.not_mem_nil, or_false] at ho
    rcases ho with rfl | rfl | rfl | rfl | rfl | rfl | rfl | rfl | rfl | rfl | rfl | rfl | rfl | rfl | rfl | rfl | rfl | rfl | rfl | rfl <;> exact tbl_iff.2 ⟨12, by kernel_rfl⟩
  · intro h hu
    simp only [opsL, List.mem_cons, List.not_mem_nil, or_false, not_or] at h
    obtain ⟨h1, h2, h3, h4, h5, h6, h7, h8, h9, h10, h11, h12, h13, h14, h15, h16, h17, h18, h19, h20⟩ := h
    have cB : ltbl E0 65 0 1000009 [.int .i64 op, .bool false] [] = some (50001, [], []) := t_tusesB op false (by simp [s_tusesB, h1, h2, h3, h4, h5, h6, h7, h8, h9, h10, h11, h12, h13, h14, h15, h16, h17, h18, h19, h20])
    have cA : ltbl E0 65 0 1000004 [.int .i64 op, .bool false] [] = some (50001, [], []) := t_tusesA op false (by
      have : (op == 23) = false := beq_f h13
      simp [s_tusesA, h1, h2, h3, this, cB])
    have : (op == 22) = false := beq_f h12
    exact t_tuses op (by simp [s_tuses, h1, this, cA, hu])
set_option maxRecDepth 20000 in
theorem c_yuses (op : Int) : ∃ s : List UInt8, tbl E0 57 [.int .i64 op] [] = some ([.str s], []) ∧ s = (usesS op).map (fun p => if p = 0 then 102 else if p = 1 then 100 else if p = 2 then 112 else if p = 3 then 116 else if p = 4 then 97 else if p = 5 then 98 else if p = 6 then 70 else if p = 7 then 86 else if p = 8 then 84 else 76) := by
  refine ⟨_, ?_, rfl⟩
  refine op_all (p := fun op => tbl E0 57 [.int .i64 op] [] = some ([.str ((usesS op).map (fun p => if p = 0 then 102 else if p = 1 then 100 else if p = 2 then 112 else if p = 3 then 116 else if p = 4 then 97 else if p = 5 then 98 else if p = 6 then 70 else if p = 7 then 86 else if p = 8 then 84 else 76))], [])) op ?_ ?_
  · intro o ho
    simp only [opsL, List.mem_cons, List.not_mem_nil, or_false] at ho
    rcases ho with rfl | rfl | rfl | rfl | rfl | rfl | rfl | rfl | rfl | rfl | rfl | rfl | rfl | rfl | rfl | rfl | rfl | rfl | rfl | rfl <;> exact tbl_iff.2 ⟨12, by kernel_rfl⟩
  · intro h hu
    simp only [opsL, List.mem_cons, List.not_mem_nil, or_false, not_or] at h
    obtain ⟨h1, h2, h3, h4, h5, h6, h7, h8, h9, h10, h11, h12, h13, h14, h15, h16, h17, h18, h19, h20⟩ := h
    have cB : ltbl E0 57 0 1000009 [.int .i64 op, .bool false] [] = some (50001, [], []) := t_yusesB op false (by simp [s_yusesB, h1, h2, h3, h4, h5, h6, h7, h8, h9, h10, h11, h12, h13, h14, h15, h16, h17, h18, h19, h20])
    have cA : ltbl E0 57 0 1000004 [.int .i64 op, .bool false] [] = some (50001, [], []) := t_yusesA op false (by
      have : (op == 23) = false := beq_f h13
      simp [s_yusesA, h1, h2, h3, this, cB])
    have : (op == 22) = false := beq_f h12
    exact t_yuses op (by simp [s_yuses, h1, this, cA, hu])
theorem c_tin (n lo hi : Int) : tbl E0 90 [.int .i64 n, .int .i64 lo, .int .i64 hi] [] = some ([.bool (inS n lo hi)], []) := t_tin n lo hi (by
  by_cases h : lo ≤ n <;> simp [s_tin, inS, h])
theorem c_ybetween (n lo hi : Int) : tbl E0 59 [.int .i64 n, .int .i64 lo, .int .i64 hi] [] = some ([.bool (inS n lo hi)], []) := t_ybetween n lo hi (by
  by_cases h : lo ≤ n <;> simp [s_ybetween, inS, h])
theorem c_fboundsG (f : Fld) : ∃ hi, tbl E0 104 [fldV f] [] = some ([.int .i64 (loS f), .int .i64 hi], []) ∧ (rgtS f = true → hi = hiS f) := by
  by_cases h : f.kind = 3 → rgtS f = true
  · exact ⟨_, c_fbounds f h, fun _ => rfl⟩
  · rw [Classical.not_imp] at h
    refine ⟨_, t_fbounds f (by simp [s_fbounds, h.1, loS]; rfl), fun hr => absurd hr h.2⟩
theorem c_fHas (f : Fld) (n : Int) (s : List UInt8) : tbl E0 91 [fldV f, .agg [.int .i64 n, .str s]] [] = some ([.bool (hasV f n s)], []) := by
  obtain ⟨hi, hb, hh⟩ := c_fboundsG f
  have c := c_fRight f
  refine t_fHas f n s ?_
  simp only [s_fHas, OA_chk, cond_true, OA_callx, hb, c, Option.bind_some, u_asC, u_asI, u_asB, u_asN, OA_join, OA_asm, hasV, longestS, inS]
  by_cases hr : rgtS f = true
  · have := hh hr
    subst this
    by_cases k : f.kind = 4 <;> by_cases a : loS f ≤ n <;> by_cases b : n ≤ hiS f <;> simp [hr, k, a, b]
  · have hr : rgtS f = false := by simpa using hr
    by_cases k : f.kind = 4 <;> simp [hr, k]
theorem c_yHas (f : Fld) (n : Int) (s : List UInt8) : tbl E0 63 [fldV f, .agg [.int .i64 n, .str s]] [] = some ([.bool (hasV f n s)], []) := by
  obtain ⟨lo, hi, most, hb, hh⟩ := c_ySpan f
  refine t_yHas f n s ?_
  simp only [s_yHas, OA_chk, cond_true, OA_callx, hb, Option.bind_some, u_asC, u_asI, u_asB, u_asN, OA_join, OA_asm, hasV, longestS, inS]
  by_cases hr : rgtS f = true
  · obtain ⟨rfl, rfl, rfl⟩ := hh hr
    by_cases k : f.kind = 4 <;> by_cases a : loS f ≤ n <;> by_cases b : n ≤ hiS f <;> simp [hr, k, a, b]
  · have hr : rgtS f = false := by simpa using hr
    simp [hr]
theorem c_EqualIL (a b : List Int) (hl : a.length ≤ 211106232532992) (hab : a.length = b.length) : ∀ (r r' : List Int) (i : Nat), a.drop i = r → b.drop i = r' →
    ltbl E0 84 0 4 [intsV a, intsV b, .int .i64 a.length, .int .i64 i] [] = some (if r = r' then (1, [], []) else (0, [.bool false], [])) := by
  intro r
  induction r with
  | nil =>
    intro r' i hr hr'
    have h : a.length ≤ i := by simpa using hr
    have : r' = [] := by rw [← hr']; simp; omega
    subst this
    refine t_EqualIL _ _ _ _ ?_
    have : ¬ ((i : Int) < a.length) := by omega
    simp [s_EqualIL, this]
  | cons x r ih =>
    intro r' i hr hr'
    obtain ⟨hlt, hget, hr2⟩ := drop_c hr
    cases r' with
    | nil => simp at hr'; omega
    | cons y r' =>
      obtain ⟨_, hget', hr2'⟩ := drop_c hr'
      have h2 : (i : Int) < a.length := by omega
      have e1 := i64_succ (i := i) (by omega)
      have h := ih r' (i + 1) hr2 hr2'
      refine t_EqualIL _ _ _ _ ?_
      simp only [s_EqualIL, OA_asm, List.length_map, h2, decide_true, cond_true, OA_chk, Int.natCast_nonneg, nthE, Int.toNat_natCast, List.getElem?_map, hget, hget', Option.map_some, u_asA, u_asC, u_asI, u_asB, u_asL, u_asN, e1, h]
      by_cases e : x = y
      · simp [e]
      · simp [e]
theorem c_EqualI (a b : List Int) (h : a.length ≤ 211106232532992) : tbl E0 84 [intsV a, intsV b] [] = some ([.bool (decide (a = b))], []) :=
  t_EqualI a b (by
    simp only [s_EqualI, OA_asm, List.length_map, OA_loop]
    by_cases hab : a.length = b.length
    · have e := c_EqualIL a b h hab a b 0 rfl rfl
      simp only [Int.natCast_zero] at e
      have h' : ((a.length : Int) != (b.length : Int)) = false := by rw [hab]; simp
      rw [h', cond_false, e]
      by_cases e2 : a = b <;> simp [e2]
    · have : ¬ (a = b) := fun e => hab (by rw [e])
      have h' : ((a.length : Int) != (b.length : Int)) = true := bne_t (by omega)
      rw [h']
      simp [this])
def freshI (below : Int) : List Bool → List Int → Bool
  | _, [] => true
  | s, n :: l => inS n 0 (below - 1) && !((s[n.toNat]?).getD false) && freshI below (s.set n.toNat true) l
theorem c_tapartL (l : List Int) (below : Int) (hb : 1 ≤ below ∧ below ≤ 1000) (hl : l.length ≤ 211106232532992) : ∀ (r : List Int) (i : Nat) (s : List Bool), l.drop i = r → s.length = 1000 →
    ltbl E0 92 0 3 [intsV l, .int .i64 below, intsV l, .int .i64 l.length, .int .i64 i] [s.map AV.bool] = some (if freshI below s r then (1, [intsV l], []) else (0, [.bool false], [])) := by
  intro r
  induction r with
  | nil =>
    intro i s hr hs
    have h : l.length ≤ i := by simpa using hr
    refine t_tapartL _ _ _ _ _ ?_
    have : ¬ ((i : Int) < l.length) := by omega
    simp [s_tapartL, this, freshI]
  | cons f r ih =>
    intro i s hr hs
    obtain ⟨hlt, hget, hr2⟩ := drop_c hr
    have h2 : (i : Int) < l.length := by omega
    have e1 := i64_succ (i := i) (by omega)
    have h := ih (i + 1) (s.set f.toNat true) hr2 (by simpa using hs)
    have w : IntKind.i64.wrap (below - 1) = below - 1 := wrap_i64 _ (by omega) (by omega)
    have c := c_tin f 0 (below - 1)
    refine t_tapartL _ _ _ _ _ ?_
    simp only [s_tapartL, h2, decide_true, cond_true, OA_chk, Int.natCast_nonneg, nthE, Int.toNat_natCast, List.getElem?_map, hget, Option.map_some, u_asA, u_asC, u_asI, u_asB, u_asN, OA_callx, OA_join, w, c, Option.bind_some, e1, freshI]
    by_cases hg : inS f 0 (below - 1) = true
    · have rr : 0 ≤ f ∧ f ≤ below - 1 := by simpa [inS] using hg
      have hk : f.toNat < s.length := by omega
      have g : s[f.toNat]? = some s[f.toNat] := List.getElem?_eq_getElem hk
      have a1 : 0 ≤ f := rr.1
      have a2 : f < ((1000 : Nat) : Int) := by omega
      have a3 : 0 + f.toNat * 1 = f.toNat := by omega
      have a4 : (f.toNat + 1).ble (List.map AV.bool s).length = true := by rw [Nat.ble_eq, List.length_map]; omega
      simp only [hg, a1, a2, a3, a4, decide_true, Bool.and_self, cond_true, g, Option.map_some, u_asB, Bool.not_true, cond_false, Option.bind_some, Tok.untok_tok, setAt_bool, all_flat_bool, h, Option.getD_some, Bool.true_and]
      by_cases hb : s[f.toNat] = true
      · simp [hb]
      · have hb : s[f.toNat] = false := by simpa using hb
        simp [hb]
    · have hg : inS f 0 (below - 1) = false := by simpa using hg
      simp [hg]
theorem freshI_iff (below : Int) (hb : below ≤ 1000) : ∀ (l : List Int) (s : List Bool), s.length = 1000 → (freshI below s l = true ↔ (∀ n ∈ l, inS n 0 (below - 1) = true ∧ s[n.toNat]? = some false) ∧ nodupI l = true)
  | [], s, _ => by simp [freshI, nodupI]
  | f :: l, s, hs => by
    have ih := freshI_iff below hb l (s.set f.toNat true) (by simpa using hs)
    simp only [freshI, Bool.and_eq_true, ih, nodupI, Bool.not_eq_true', List.mem_cons, forall_eq_or_imp]
    have rng : ∀ {n : Int}, inS n 0 (below - 1) = true → 0 ≤ n ∧ n < 1000 := fun {n} h => by
      have : 0 ≤ n ∧ n ≤ below - 1 := by simpa [inS] using h
      omega
    have key : inS f 0 (below - 1) = true → ((s[f.toNat]?).getD false = false ↔ s[f.toNat]? = some false) := by
      intro hg
      have rr := rng hg
      have hk : f.toNat < s.length := by omega
      rw [List.getElem?_eq_getElem hk]
      simp
    have key2 : inS f 0 (below - 1) = true → ∀ g, inS g 0 (below - 1) = true → ((s.set f.toNat true)[g.toNat]? = some false ↔ (s[g.toNat]? = some false ∧ g ≠ f)) := by
      intro hg g hgg
      have r1 := rng hg
      have r2 := rng hgg
      rw [List.getElem?_set]
      by_cases e : f.toNat = g.toNat
      · have e' : g = f := by omega
        rw [if_pos e, if_pos (by omega)]
        simp [e']
      · have e' : g ≠ f := by omega
        rw [if_neg e]
        simp [e']
    constructor
    · rintro ⟨⟨h1, h2⟩, h3, h4⟩
      refine ⟨⟨⟨h1, (key h1).1 h2⟩, fun g hg => ⟨(h3 g hg).1, ((key2 h1 g (h3 g hg).1).1 (h3 g hg).2).1⟩⟩, ?_, h4⟩
      simp only [List.any_eq_false, beq_iff_eq]
      intro g hg
      exact ((key2 h1 g (h3 g hg).1).1 (h3 g hg).2).2
    · rintro ⟨⟨⟨h1, h2⟩, h3⟩, h4, h5⟩
      refine ⟨⟨h1, (key h1).2 h2⟩, fun g hg => ⟨(h3 g hg).1, (key2 h1 g (h3 g hg).1).2 ⟨(h3 g hg).2, ?_⟩⟩, h5⟩
      simp only [List.any_eq_false, beq_iff_eq] at h4
      exact h4 g hg
theorem freshI_0 (below : Int) (hb : below ≤ 1000) (l : List Int) : freshI below (List.replicate 1000 false) l = ((l.all fun n => inS n 0 (below - 1)) && nodupI l) := by
  rw [Bool.eq_iff_iff, freshI_iff _ hb _ _ List.length_replicate]
  simp only [Bool.and_eq_true, List.all_eq_true]
  constructor
  · rintro ⟨h1, h2⟩; exact ⟨fun f hf => (h1 f hf).1, h2⟩
  · rintro ⟨h1, h2⟩
    refine ⟨fun f hf => ⟨h1 f hf, ?_⟩, h2⟩
    have r : 0 ≤ f ∧ f ≤ below - 1 := by simpa [inS] using h1 f hf
    rw [List.getElem?_replicate, if_pos (by omega)]
theorem c_tapart (l : List Int) (below : Int) (hb : 1 ≤ below ∧ below ≤ 1000) (hl : l.length ≤ 211106232532992) : tbl E0 92 [intsV l, .int .i64 below] [] = some ([.bool (apartS l below)], []) :=
  t_tapart l below (by
    have e := c_tapartL l below hb hl l 0 (List.replicate 1000 false) rfl List.length_replicate
    simp only [Int.natCast_zero, freshI_0 _ hb.2] at e
    have c := c_tin (l.length : Int) 1 64
    have e2 : inS (l.length : Int) 1 64 = decide (1 ≤ l.length ∧ l.length ≤ 64) := by
      simp only [inS, Bool.decide_and]
      congr 1 <;> exact decide_eq_decide.2 (by omega)
    simp only [List.map_replicate] at e
    simp only [s_tapart, OA_asm, OA_chk, cond_true, OA_loop, List.length_map, e]
    · unfold apartS
      cases hx : ((l.all fun n => inS n 0 (below - 1)) && nodupI l) with
      | true => simp [c, e2]
      | false => simp)
end Go.Proofs.Ytalpknofimglbaa.V
namespace Go.Proofs.Ytalpknofimglbaa.V
open Go
set_option maxRecDepth 20000 in
theorem c_tonly (x : Stp) : tbl E0 67 [stpV x] [] = some ([stpV (onlyS x)], []) := by
  obtain ⟨op, form, field, place, to, a, b, f, n, s, t, fields⟩ := x
  refine op_all (p := fun op => tbl E0 67 [stpV ⟨op, form, field, place, to, a, b, f, n, s, t, fields⟩] [] = some ([stpV (onlyS ⟨op, form, field, place, to, a, b, f, n, s, t, fields⟩)], [])) op ?_ ?_
  · intro o ho
    simp only [opsL, List.mem_cons, List.not_mem_nil, or_false] at ho
    rcases ho with rfl | rfl | rfl | rfl | rfl | rfl | rfl | rfl | rfl | rfl | rfl | rfl | rfl | rfl | rfl | rfl | rfl | rfl | rfl | rfl <;> exact tbl_iff.2 ⟨20, by kernel_rfl⟩
  · intro h hu
    have c := c_tuses op
    rw [hu] at c
    have e2 : ltbl E0 67 0 3 [intsV [], .int .i64 0, .int .i64 0] [stpC ⟨op, form, field, place, to, a, b, f, n, s, t, fields⟩, stpC ⟨0, 0, 0, 0, 0, 0, 0, fld0, 0, [], [], []⟩, stpC ⟨op, 0, 0, 0, 0, 0, 0, fld0, 0, [], [], []⟩] = some (1, [], [stpC ⟨0, 0, 0, 0, 0, 0, 0, fld0, 0, [], [], []⟩, stpC ⟨op, 0, 0, 0, 0, 0, 0, fld0, 0, [], [], []⟩]) := t_tonlyL _ _ _ [] 0 0 (by simp [s_tonlyL])
    refine t_tonly _ ?_
    simp only [s_tonly, OA_chk, cond_true, OA_callx, c, Option.bind_some, u_asC, u_asL, u_asN, OA_asm, OA_loop, List.map_nil, List.length_nil, Int.natCast_zero, stpC, fld0, intsV, fldsV] at e2 ⊢
    rw [e2]
    simp [onlyS, hasS, hu, fld0]
theorem wrap0 {a b : Int} (ha : i64 a) (hb : i64 b) : (IntKind.i64.wrap (a - b) == 0) = (a == b) := by
  have : IntKind.i64.wrap (a - b) = (a - b + 9223372036854775808) % 18446744073709551616 - 9223372036854775808 := by rw [IntKind.wrap_i64]
  rw [this, Bool.eq_iff_iff, beq_iff_eq, beq_iff_eq]
  unfold i64 at ha hb
  omega
theorem stp_eq (x y : Stp) : decide (x = y) = ((decide (x.t = y.t) && decide (x.fields = y.fields)) && ((x.op == y.op && (x.form == y.form && (x.field == y.field && (x.place == y.place && (x.to == y.to && (x.a == y.a && x.b == y.b)))))) && (decide (x.f = y.f) && (x.n == y.n && x.s == y.s)))) := by
  obtain ⟨op, form, field, place, to, a, b, f, n, s, t, fields⟩ := x
  obtain ⟨op', form', field', place', to', a', b', f', n', s', t', fields'⟩ := y
  rw [Bool.eq_iff_iff]
  simp only [decide_eq_true_eq, Bool.and_eq_true, beq_iff_eq, Stp.mk.injEq]
  constructor
  · rintro ⟨rfl, rfl, rfl, rfl, rfl, rfl, rfl, rfl, rfl, rfl, rfl, rfl⟩; simp
  · rintro ⟨⟨rfl, rfl⟩, ⟨rfl, rfl, rfl, rfl, rfl, rfl, rfl⟩, rfl, rfl, rfl⟩; simp
theorem c_tSame (x y : Stp) (hx : x.ok) (hy : y.ok) (hs : x.sml) : tbl E0 56 [stpV x, stpV y] [] = some ([.bool (decide (x = y))], []) :=
  t_tSame x y (by
    obtain ⟨h1, h2, h3, h4, h5, h6, h7, _⟩ := hx
    obtain ⟨g1, g2, g3, g4, g5, g6, g7, _⟩ := hy
    have c1 := c_EqualI x.t y.t hs.1
    have c2 := c_EqualF x.fields y.fields hs.2
    simp only [s_tSame, OA_chk, cond_true, OA_callx, c1, c2, Option.bind_some, u_asC, u_asB, u_asN, OA_join, wrap0 h1 g1, wrap0 h2 g2, wrap0 h3 g3, wrap0 h4 g4, wrap0 h5 g5, wrap0 h6 g6, wrap0 h7 g7, fld_eq]
    simp only [Bool.and_true, stp_eq]
    generalize (x.op == y.op && (x.form == y.form && (x.field == y.field && (x.place == y.place && (x.to == y.to && (x.a == y.a && x.b == y.b)))))) = p
    generalize (x.n == y.n && x.s == y.s) = q
    cases decide (x.t = y.t) <;> cases decide (x.fields = y.fields) <;> cases p <;> cases decide (x.f = y.f) <;> simp)
theorem c_tfits (x : Stp) (p : Int) (hp : p = 8 → 1 ≤ (if x.op = 5 then x.a else 1000) ∧ (if x.op = 5 then x.a else 1000) ≤ 1000) (hs : x.sml) : tbl E0 66 [stpV x, .int .i64 p] [] = some ([.bool (fitsS x p)], []) := by
  have i1 := c_tin
  have i2 := c_fRight x.f
  have i3 := c_fHas x.f x.n x.s
  have i4 := c_sFine ⟨x.form, x.fields⟩ hs.2
  refine t_tfits x p ?_
  unfold s_tfits fitsS
  simp only [OA_chk, cond_true, cond_beq, OA_callx, OA_join, OA_asm]
  by_cases h0 : p = 0
  · simp only [h0, if_true, i1, Option.bind_some, u_asC, u_asB, u_asN]
  by_cases h1 : p = 1
  · simp [h1, i1]
  by_cases h2 : p = 2
  · simp [h2, i1]
  by_cases h3 : p = 3
  · simp only [h3, i1]
    cases inS x.to 0 255 <;> by_cases e : x.to = x.field <;> simp [e]
  by_cases h4 : p = 4
  · by_cases ho : x.op = 5
    · cases hi : inS x.a 1 1000 <;> simp [h4, i1, ho, hi]
    · simp [h4, i1, ho]
  by_cases h5 : p = 5
  · cases hi : inS x.a (-1048576) 1048576
    · simp [h5, i1, hi]
    · by_cases ha : x.a = 0
      · rw [ha] at hi; simp [h5, i1, hi, ha]
      · simp [h5, i1, hi, ha]
  by_cases h6 : p = 6
  · by_cases o1 : x.op = 1
    · cases hr : rgtS x.f <;> simp [h6, o1, i2, hr]
    · by_cases o2 : x.op = 22
      · cases hr : rgtS x.f <;> simp [h6, o2, i2, hr]
      · cases hr : rgtS x.f <;> simp [h6, o1, o2, beq_f o2, i2, hr]
  by_cases h7 : p = 7
  · by_cases ho : x.op = 2
    · cases hi : inS x.n (-1099511627776) 1099511627776 <;> simp [h7, ho, i1, hi]
    · simp [h7, ho, i3]
  by_cases h8 : p = 8
  · have hb := hp h8
    simp only [h8]
    by_cases ho : x.op = 5
    · simp only [ho, if_true] at hb ⊢
      have c := c_tapart x.t x.a hb hs.1
      simp [c]
    · simp only [ho, if_false] at hb ⊢
      have c := c_tapart x.t 1000 (by omega) hs.1
      simp [c]
  · simp [h0, h1, h2, h3, h4, h5, h6, h7, h8, i4]
end Go.Proofs.Ytalpknofimglbaa.V
namespace Go.Proofs.Ytalpknofimglbaa.V
open Go
theorem c_tRightL (x : Stp) (hs : x.sml) (l : List Int) (q : List Int) (hl : l.length ≤ 5) (hb : ∀ (i : Nat) (p : Int), l[i]? = some p → p = 8 → (l.take i).all (fitsS x) = true → 1 ≤ (if x.op = 5 then x.a else 1000) ∧ (if x.op = 5 then x.a else 1000) ≤ 1000) : ∀ (r : List Int) (i : Nat), l.drop i = r → (l.take i).all (fitsS x) = true →
    ltbl E0 33 0 3 [intsV q, intsV l, .int .i64 l.length, .int .i64 i] [stpC x] = some (if r.all (fitsS x) then (1, [intsV q], [stpC x]) else (0, [.bool false], [])) := by
  intro r
  induction r with
  | nil =>
    intro i hr ht
    have h : l.length ≤ i := by simpa using hr
    refine t_tRightL _ _ _ _ _ ?_
    have : ¬ ((i : Int) < l.length) := by omega
    simp [s_tRightL, this]
  | cons p r ih =>
    intro i hr ht
    obtain ⟨hlt, hget, hr2⟩ := drop_c hr
    have h2 : (i : Int) < l.length := by omega
    have e1 := i64_succ (i := i) (by omega)
    have c := c_tfits x p (fun h8 => hb i p hget h8 ht) hs
    refine t_tRightL _ _ _ _ _ ?_
    simp only [s_tRightL, h2, decide_true, cond_true, OA_chk, Int.natCast_nonneg, nthE, Int.toNat_natCast, List.getElem?_map, hget, Option.map_some, u_asA, u_asC, u_asI, u_asB, u_asN, OA_callx, c, Option.bind_some, e1]
    cases hf : fitsS x p with
    | false => simp [hf]
    | true =>
      have ht2 : (l.take (i + 1)).all (fitsS x) = true := by
        rw [List.take_add_one, hget]
        simp [hf]
        simpa using ht
      have h := ih (i + 1) hr2 ht2
      simp only [Bool.not_true, cond_false, h, List.all_cons, hf, Bool.true_and]
theorem only_ok {x : Stp} (hx : x.ok) : (onlyS x).ok := by
  obtain ⟨h1, h2, h3, h4, h5, h6, h7, h8, h9, h10, h11⟩ := hx
  have z : i64 0 := by unfold i64; omega
  unfold onlyS
  refine ⟨h1, ?_, ?_, ?_, ?_, ?_, ?_, ?_, ?_, ?_, ?_⟩ <;> dsimp only <;> split
  all_goals first
    | assumption
    | exact ⟨z, z, z, z, z⟩
    | simp
theorem c_tRight (x : Stp) (hx : x.ok) (hs : x.sml) : tbl E0 33 [stpV x] [] = some ([.bool (tRightS x)], []) := by
  have c := c_tuses x.op
  have e := c_tRightL x hs (usesS x.op) (usesS x.op) (uses_len _) (uses_bound x) (usesS x.op) 0 rfl rfl
  have c2 := c_tonly x
  have c3 := c_tSame x (onlyS x) hx (only_ok hx) hs
  simp only [Int.natCast_zero] at e
  refine t_tRight x ?_
  simp only [s_tRight, OA_chk, cond_true, OA_callx, c, Option.bind_some, u_asC, u_asL, u_asN, OA_asm, OA_loop, List.length_map, tRightS]
  simp only [stpC] at e
  rw [e]
  cases hf : (usesS x.op).all (fitsS x) with
  | false => simp
  | true =>
    cases hu : usesS x.op with
    | nil => simp
    | cons p l =>
      simp only [stpV, stpC] at c2 c3
      simp [c2, c3]
end Go.Proofs.Ytalpknofimglbaa.V
namespace Go.Proofs.Ytalpknofimglbaa.V
open Go
def letterS (p : Int) : Int := if p = 0 then 102 else if p = 1 then 100 else if p = 2 then 112 else if p = 3 then 116 else if p = 4 then 97 else if p = 5 then 98 else if p = 6 then 70 else if p = 7 then 86 else if p = 8 then 84 else 76
set_option maxRecDepth 50000 in
theorem yhas_all : (opsL.map fun o => [(0 : Int), 1, 2, 3, 4, 5, 6, 7, 8, 9].map fun p => (G E0 12).1 61 [.int .i64 o, .int .u8 (letterS p)] []) = (opsL.map fun o => [(0 : Int), 1, 2, 3, 4, 5, 6, 7, 8, 9].map fun p => some ([.bool (hasS o p)], [])) := by kernel_rfl
theorem c_yhas (op p : Int) (hp : p ∈ [(0 : Int), 1, 2, 3, 4, 5, 6, 7, 8, 9]) : tbl E0 61 [.int .i64 op, .int .u8 (letterS p)] [] = some ([.bool (hasS op p)], []) := by
  refine op_all (p := fun op => tbl E0 61 [.int .i64 op, .int .u8 (letterS p)] [] = some ([.bool (hasS op p)], [])) op ?_ ?_
  · intro o ho
    have h1 := List.map_inj_left.1 yhas_all o ho
    exact tbl_iff.2 ⟨12, List.map_inj_left.1 h1 p hp⟩
  · intro h hu
    obtain ⟨s, c, hs⟩ := c_yuses op
    rw [hu] at hs
    simp only [List.map_nil] at hs
    subst hs
    have e : ltbl E0 61 0 3 [.int .u8 (letterS p), .str [], .int .i64 0] [] = some (1, [], []) := t_yhasL _ _ _ (by simp [s_yhasL])
    exact t_yhas _ _ (by simp [s_yhas, c, e, hasS, hu])
theorem c_yh (op : Int) : (tbl E0 61 [.int .i64 op, .int .u8 100] [] = some ([.bool (hasS op 1)], []) ∧ tbl E0 61 [.int .i64 op, .int .u8 112] [] = some ([.bool (hasS op 2)], []) ∧ tbl E0 61 [.int .i64 op, .int .u8 116] [] = some ([.bool (hasS op 3)], [])) ∧
    (tbl E0 61 [.int .i64 op, .int .u8 97] [] = some ([.bool (hasS op 4)], []) ∧ tbl E0 61 [.int .i64 op, .int .u8 98] [] = some ([.bool (hasS op 5)], []) ∧ tbl E0 61 [.int .i64 op, .int .u8 70] [] = some ([.bool (hasS op 6)], [])) ∧
    (tbl E0 61 [.int .i64 op, .int .u8 86] [] = some ([.bool (hasS op 7)], []) ∧ tbl E0 61 [.int .i64 op, .int .u8 84] [] = some ([.bool (hasS op 8)], []) ∧ tbl E0 61 [.int .i64 op, .int .u8 76] [] = some ([.bool (hasS op 9)], [])) :=
  ⟨⟨c_yhas op 1 (by simp), c_yhas op 2 (by simp), c_yhas op 3 (by simp)⟩, ⟨c_yhas op 4 (by simp), c_yhas op 5 (by simp), c_yhas op 6 (by simp)⟩, ⟨c_yhas op 7 (by simp), c_yhas op 8 (by simp), c_yhas op 9 (by simp)⟩⟩
theorem cond_tt (a b : Bool) : (bif a then true else b) = (a || b) := by cases a <;> rfl
theorem cond_ff (a b : Bool) : (bif a then b else false) = (a && b) := by cases a <;> rfl
theorem cond_or (a b x : Bool) : (bif a then x else (b && x)) = ((a || b) && x) := by cases a <;> simp
theorem cond_nt (a b : Bool) : (bif !a then true else b) = (!a || b) := by cases a <;> rfl
theorem c_yzero (x : Stp) : tbl E0 58 [stpV x] [] = some ([.bool (zeroS x)], []) := by
  obtain ⟨⟨h1, h2, h3⟩, ⟨h4, h5, h6⟩, ⟨h7, h8, h9⟩⟩ := c_yh x.op
  refine t_yzero x ?_
  have ft : decide (x.f = fld0) = (x.f.id == 0 && (x.f.kind == 0 && (x.f.lo == 0 && (x.f.hi == 0 && (x.f.most == 0 && true))))) := (fld_eq x.f fld0).symm
  simp only [s_yzero, OA_chk, cond_true, OA_callx, h1, h2, h3, h4, h5, h6, h7, h8, h9, Option.bind_some, u_asC, u_asB, u_asN, OA_join, OA_asm, List.length_map, zeroS, ft]
  generalize (x.f.id == 0 && (x.f.kind == 0 && (x.f.lo == 0 && (x.f.hi == 0 && (x.f.most == 0 && true))))) = bf
  have ht : ((x.t.length : Int) == 0) = x.t.isEmpty := by cases x.t <;> simp; omega
  have hl : ((x.fields.length : Int) == 0) = x.fields.isEmpty := by cases x.fields <;> simp; omega
  simp only [tok_cond, Option.bind_some, Tok.untok_tok, cond_tt, cond_ff, cond_or, ht, hl, Bool.and_true, Bool.and_assoc]
end Go.Proofs.Ytalpknofimglbaa.V
namespace Go.Proofs.Ytalpknofimglbaa.V
open Go
theorem c_ytableK (l : List Int) (below : Int) (i : Nat) (n : Int) (hn : l[i]? = some n) (hl : l.length ≤ 211106232532992) : ∀ (d k : Nat), k + d = i →
    ltbl E0 86 0 7 [intsV l, .int .i64 below, .int .i64 i, .int .i64 k] [] = some (if ((l.take i).drop k).any (fun y => y == n) then (0, [.bool false], []) else (3, [intsV l, .int .i64 below, .int .i64 i], [])) := by
  obtain ⟨hi, _⟩ := List.getElem?_eq_some_iff.1 hn
  intro d
  induction d with
  | zero =>
    intro k hk
    have h1 : ¬ ((k : Int) < i) := by omega
    have h2 : (l.take i).drop k = [] := by rw [List.drop_eq_nil_iff, List.length_take]; omega
    exact t_ytableK _ _ _ _ (by simp [s_ytableK, h1, h2])
  | succ d ih =>
    intro k hk
    have h := ih (k + 1) (by omega)
    have h1 : (k : Int) < i := by omega
    have hk2 : k < l.length := by omega
    have e1 := i64_succ (i := k) (by omega)
    have hg : l[k]? = some l[k] := List.getElem?_eq_getElem hk2
    have h2 : (l.take i).drop k = l[k] :: (l.take i).drop (k + 1) := by
      rw [List.drop_eq_getElem_cons (by rw [List.length_take]; omega), List.getElem_take]
    refine t_ytableK _ _ _ _ ?_
    simp only [s_ytableK, h1, decide_true, cond_true, OA_chk, Int.natCast_nonneg, nthE, Int.toNat_natCast, List.getElem?_map, hg, hn, Option.map_some, u_asI, e1, h, h2, List.any_cons]
    by_cases hq : l[k] = n <;> simp [hq]
def idxI (below : Int) (l : List Int) : Nat → List Int → Bool
  | _, [] => true
  | i, n :: r => (inS n 0 (below - 1) && !((l.take i).any fun y => y == n)) && idxI below l (i + 1) r
theorem c_ytableL (l : List Int) (below : Int) (hb : 1 ≤ below ∧ below ≤ 1000) (hl : l.length ≤ 211106232532992) : ∀ (r : List Int) (i : Nat), l.drop i = r →
    ltbl E0 86 0 2 [intsV l, .int .i64 below, .int .i64 i] [] = some (if idxI below l i r then (1, [intsV l], []) else (0, [.bool false], [])) := by
  intro r
  induction r with
  | nil =>
    intro i hr
    have h : l.length ≤ i := by simpa using hr
    refine t_ytableL _ _ _ ?_
    have : ¬ ((i : Int) < l.length) := by omega
    simp [s_ytableL, this, idxI]
  | cons n r ih =>
    intro i hr
    obtain ⟨hlt, hget, hr2⟩ := drop_c hr
    have h2 : (i : Int) < l.length := by omega
    have e1 := i64_succ (i := i) (by omega)
    have h := ih (i + 1) hr2
    have ew : IntKind.i64.wrap (below - 1) = below - 1 := wrap_i64 _ (by omega) (by omega)
    have c := c_ybetween n 0 (below - 1)
    have c2 := c_ytableK l below i n hget hl i 0 (by omega)
    simp only [Int.natCast_zero, List.drop_zero] at c2
    refine t_ytableL _ _ _ ?_
    simp only [s_ytableL, OA_asm, List.length_map, h2, decide_true, cond_true, OA_chk, Int.natCast_nonneg, nthE, Int.toNat_natCast, List.getElem?_map, hget, Option.map_some, u_asC, u_asI, u_asB, u_asN, OA_callx, c, ew, Option.bind_some, OA_loop, c2, e1, h, idxI]
    rcases bor (inS n 0 (below - 1)) with hq | hq
    · rcases bor ((l.take i).any (fun y => y == n)) with hp | hp
      · simp [hq, hp]
      · simpa [hq, hp, e1] using h
    · simp [hq]
theorem idxI_iff (below : Int) : ∀ (r p : List Int), idxI below (p ++ r) p.length r = true ↔ (∀ n ∈ r, inS n 0 (below - 1) = true ∧ ∀ y ∈ p, y ≠ n) ∧ nodupI r = true
  | [], p => by simp [idxI, nodupI]
  | n :: r, p => by
    have ih := idxI_iff below r (p ++ [n])
    simp only [List.append_assoc, List.singleton_append, List.length_append, List.length_singleton] at ih
    simp only [idxI, Bool.and_eq_true, ih, nodupI, List.mem_cons, forall_eq_or_imp, Bool.not_eq_true', List.any_eq_false, beq_iff_eq, List.mem_append, List.not_mem_nil, or_false, List.take_left']
    constructor
    · rintro ⟨⟨h1, h2⟩, h3, h4⟩
      refine ⟨⟨⟨h1, h2⟩, fun y hy => ⟨(h3 y hy).1, fun f hf => (h3 y hy).2 f (Or.inl hf)⟩⟩, fun y hy e => (h3 y hy).2 n (Or.inr rfl) e.symm, h4⟩
    · rintro ⟨⟨⟨h1, h2⟩, h3⟩, h4, h5⟩
      refine ⟨⟨h1, h2⟩, fun y hy => ⟨(h3 y hy).1, ?_⟩, h5⟩
      rintro f (hf | rfl)
      · exact (h3 y hy).2 f hf
      · exact fun e => h4 y hy e.symm
theorem idxI_0 (below : Int) (l : List Int) : idxI below l 0 l = ((l.all fun n => inS n 0 (below - 1)) && nodupI l) := by
  rw [Bool.eq_iff_iff]
  have := idxI_iff below l []
  simp only [List.nil_append, List.length_nil] at this
  rw [this]
  simp
theorem c_ytable (l : List Int) (below : Int) (hb : 1 ≤ below ∧ below ≤ 1000) (hl : l.length ≤ 211106232532992) : tbl E0 86 [intsV l, .int .i64 below] [] = some ([.bool (apartS l below)], []) :=
  t_ytable l below (by
    have e := c_ytableL l below hb hl l 0 rfl
    simp only [Int.natCast_zero, idxI_0] at e
    simp only [s_ytable, OA_loop, e, apartS]
    cases ((l.all fun n => inS n 0 (below - 1)) && nodupI l) with
    | false => simp
    | true =>
      by_cases a : 1 ≤ l.length
      · have a2 : (l.length : Int) ≥ 1 := by omega
        by_cases b : l.length ≤ 64
        · have b2 : (l.length : Int) ≤ 64 := by omega
          simp [a, a2, b, b2]
        · have b2 : ¬ ((l.length : Int) ≤ 64) := by omega
          simp [a, a2, b, b2]
      · have a2 : ¬ ((l.length : Int) ≥ 1) := by omega
        simp [a, a2])
theorem c_ynumbers (x : Stp) (hs : x.t.length ≤ 211106232532992) : tbl E0 60 [stpV x] [] = some ([.bool (numbersS x)], []) :=
  t_ynumbers x (by
    have i1 := c_ybetween
    have i3 := c_ytable x.t 1000 (by omega) hs
    simp only [s_ynumbers, OA_chk, cond_true, OA_callx, OA_join, i1, i3, Option.bind_some, u_asC, u_asB, u_asN, numbersS]
    by_cases h4 : x.op = 4
    · simp only [h4]
      cases inS x.a (-1048576) 1048576 <;> cases inS x.b (-1099511627776) 1099511627776 <;> by_cases ha : x.a = 0 <;> simp [ha]
    · by_cases h24 : x.op = 24
      · simp only [h24]
        cases inS x.a (-1048576) 1048576 <;> cases inS x.b (-1099511627776) 1099511627776 <;> by_cases ha : x.a = 0 <;> simp [ha]
      · have f4 : (x.op == 4) = false := beq_f h4
        have f24 : (x.op == 24) = false := beq_f h24
        by_cases h6 : x.op = 6
        · simp [h6]
        · have f6 : (x.op == 6) = false := beq_f h6
          by_cases h26 : x.op = 26
          · simp [h26]
          · have f26 : (x.op == 26) = false := beq_f h26
            by_cases h5 : x.op = 5
            · cases hi : inS x.a 1 1000 with
              | false => simp [h5, hi]
              | true =>
                have hb : 1 ≤ x.a ∧ x.a ≤ 1000 := by simpa [inS] using hi
                have i2 := c_ytable x.t x.a hb hs
                simp [h5, hi, i2]
            · have f5 : (x.op == 5) = false := beq_f h5
              by_cases h25 : x.op = 25 <;> simp [h4, h24, h6, h26, h5, h25, f4, f24, f6, f26, f5])
theorem ret_ff (p q : Bool) : (bif p then some ([AV.bool false], []) else some ([AV.bool q], []) : Option CR) = some ([AV.bool (!p && q)], []) := by cases p <;> rfl
theorem cond_or2 (p a b : Bool) : (bif p then a || b else b) = ((p && a) || b) := by cases p <;> rfl
theorem c_ytRight (x : Stp) (hs : x.sml) : tbl E0 31 [stpV x] [] = some ([.bool (ytRightS x)], []) := by
  obtain ⟨⟨h1, h2, h3⟩, ⟨h4, h5, h6⟩, ⟨h7, h8, h9⟩⟩ := c_yh x.op
  obtain ⟨s, cu, hu⟩ := c_yuses x.op
  have cz := c_yzero x
  have cn := c_ynumbers x hs.1
  have cr := c_yRight x.f
  have ch := c_yHas x.f x.n x.s
  have cf := c_yFine ⟨x.form, x.fields⟩ hs.2
  have he : (s == []) = (usesS x.op).isEmpty := by rw [hu]; cases usesS x.op <;> simp
  refine t_ytRight x ?_
  simp only [stpV, stpC, fldV, fldC, frmV, intsV, fldsV] at cz cn cr ch cf
  simp only [s_ytRight, OA_chk, cond_true, OA_callx, cu, cz, cn, cr, ch, cf, h1, h2, h3, h4, h5, h6, h7, h8, h9, c_ybetween, Option.bind_some, u_asC, u_asB, u_asS, u_asN, OA_join, OA_asm, he, ytRightS]
  simp only [tok_cond, Option.bind_some, Tok.untok_tok, cond_tt, cond_ff, cond_or, cond_nt]
  have e32 : decide ((x.s.length : Int) > 32) = !decide ((x.s.length : Int) ≤ 32) := by
    rw [← decide_not]; exact decide_eq_decide.2 (by omega)
  simp only [cond_or2, e32, ret_ff, Bool.not_or, Bool.not_not, Bool.and_assoc, Bool.not_and]
theorem c_ytSameK (x y : Stp) (hl : x.fields.length ≤ 211106232532992) (he : x.fields.length = y.fields.length) : ∀ (r q : List Fld) (i : Nat), x.fields.drop i = r → y.fields.drop i = q →
    ltbl E0 27 0 9 [.int .i64 i] [stpC x, stpC y] = some (if r = q then (3, [], []) else (0, [.bool false], [])) := by
  intro r
  induction r with
  | nil =>
    intro q i hr hq
    have h : x.fields.length ≤ i := by simpa using hr
    have h3 : q = [] := by rw [← hq, List.drop_eq_nil_iff]; omega
    have : ¬ ((i : Int) < x.fields.length) := by omega
    subst h3
    exact t_ytSameK _ _ _ (by simp [s_ytSameK, this])
  | cons f r ih =>
    intro q i hr hq
    obtain ⟨hlt, hget, hr2⟩ := drop_c hr
    have hlt' : i < y.fields.length := by omega
    rw [List.drop_eq_getElem_cons hlt'] at hq
    subst hq
    have hg2 : y.fields[i]? = some y.fields[i] := List.getElem?_eq_getElem hlt'
    generalize y.fields[i] = g at *
    have h2 : (i : Int) < x.fields.length := by omega
    have e1 := i64_succ (i := i) (by omega)
    have h := ih _ (i + 1) hr2 rfl
    have hf := fld_eq f g
    refine t_ytSameK _ _ _ ?_
    simp only [s_ytSameK, OA_asm, List.length_map, h2, decide_true, cond_true, OA_chk, Int.natCast_nonneg, nthE, Int.toNat_natCast, List.getElem?_map, hget, hg2, Option.map_some, u_asA, u_asC, u_asI, u_asB, u_asN, e1, hf]
    by_cases e : f = g
    · simp only [e, decide_true, Bool.not_true, cond_false, h, List.cons.injEq, true_and]
    · simp [e]
theorem c_ytSameL (x y : Stp) (hl : x.t.length ≤ 211106232532992) (he : x.t.length = y.t.length) : ∀ (r q : List Int) (i : Nat), x.t.drop i = r → y.t.drop i = q →
    ltbl E0 27 0 4 [.int .i64 i] [stpC x, stpC y] = some (if r = q then (1, [], [stpC x, stpC y]) else (0, [.bool false], [])) := by
  intro r
  induction r with
  | nil =>
    intro q i hr hq
    have h : x.t.length ≤ i := by simpa using hr
    have h3 : q = [] := by rw [← hq, List.drop_eq_nil_iff]; omega
    have : ¬ ((i : Int) < x.t.length) := by omega
    subst h3
    exact t_ytSameL _ _ _ (by simp [s_ytSameL, this])
  | cons f r ih =>
    intro q i hr hq
    obtain ⟨hlt, hget, hr2⟩ := drop_c hr
    have hlt' : i < y.t.length := by omega
    rw [List.drop_eq_getElem_cons hlt'] at hq
    subst hq
    have hg2 : y.t[i]? = some y.t[i] := List.getElem?_eq_getElem hlt'
    generalize y.t[i] = g at *
    have h2 : (i : Int) < x.t.length := by omega
    have e1 := i64_succ (i := i) (by omega)
    have h := ih _ (i + 1) hr2 rfl
    refine t_ytSameL _ _ _ ?_
    simp only [s_ytSameL, OA_asm, List.length_map, h2, decide_true, cond_true, OA_chk, Int.natCast_nonneg, nthE, Int.toNat_natCast, List.getElem?_map, hget, hg2, Option.map_some, u_asA, u_asC, u_asI, u_asB, u_asN, e1]
    by_cases e : f = g
    · simp only [e, bne_self_eq_false, cond_false, h, List.cons.injEq, true_and]
    · simp [e]
theorem c_ytSame (x y : Stp) (hs : x.sml) : tbl E0 27 [stpV x, stpV y] [] = some ([.bool (decide (x = y))], []) := by
  refine t_ytSame x y ?_
  have hv : (x.n == y.n && (x.s == y.s && true)) = (x.n == y.n && x.s == y.s) := by simp
  simp only [s_ytSame, OA_chk, cond_true, Option.bind_some, u_asC, u_asB, u_asN, OA_join, OA_asm, List.length_map, fld_eq, hv]
  simp only [tok_cond, Option.bind_some, Tok.untok_tok, cond_tt]
  have ha : decide (x = y) = (!(x.op != y.op || (x.form != y.form || (x.field != y.field || (x.place != y.place || (x.to != y.to || (x.a != y.a || (x.b != y.b || (!decide (x.f = y.f) || (!(x.n == y.n && x.s == y.s) || ((x.t.length : Int) != y.t.length || (x.fields.length : Int) != y.fields.length)))))))))) && (decide (x.t = y.t) && decide (x.fields = y.fields))) := by
    rw [stp_eq, Bool.eq_iff_iff]
    have h1 : x.t = y.t → (x.t.length : Int) = y.t.length := fun h => by rw [h]
    have h2 : x.fields = y.fields → (x.fields.length : Int) = y.fields.length := fun h => by rw [h]
    simp only [Bool.and_eq_true, Bool.or_eq_true, Bool.not_eq_true', Bool.or_eq_false_iff, Bool.and_eq_false_iff, decide_eq_true_eq, decide_eq_false_iff_not, beq_iff_eq, bne_eq_false_iff_eq, Bool.not_eq_false']
    grind
  rw [ha]
  generalize hq : (x.op != y.op || (x.form != y.form || (x.field != y.field || (x.place != y.place || (x.to != y.to || (x.a != y.a || (x.b != y.b || (!decide (x.f = y.f) || (!(x.n == y.n && x.s == y.s) || ((x.t.length : Int) != y.t.length || (x.fields.length : Int) != y.fields.length)))))))))) = q
  rcases bor q with hb | hb
  · subst hb; rfl
  · rw [hb] at hq
    simp only [Bool.or_eq_false_iff, bne_eq_false_iff_eq] at hq
    have h1 : x.t.length = y.t.length := by have := hq.2.2.2.2.2.2.2.2.2.1; omega
    have h2 : x.fields.length = y.fields.length := by have := hq.2.2.2.2.2.2.2.2.2.2; omega
    have e1 := c_ytSameL x y hs.1 h1 x.t y.t 0 rfl rfl
    have e2 := c_ytSameK x y hs.2 h2 x.fields y.fields 0 rfl rfl
    simp only [Int.natCast_zero] at e1 e2
    subst hb
    simp only [cond_false, OA_loop, stpC] at e1 e2 ⊢
    rw [e1]
    by_cases c1 : x.t = y.t
    · simp only [c1, if_true, Option.bind_some, Nat.beq, cond_false, cond_true, u_asC, u_asI, u_asS, u_asL, u_asN, OA_loop] at e2 ⊢
      rw [e2]
      by_cases c2 : x.fields = y.fields <;> simp [c2]
    · simp [c1]
def bigT (x : Stp) : Bool := decide (100 < x.t.length) || decide (40 < x.fields.length)
theorem c_yGreatL (l : List Stp) : ∀ (m : Nat) (r : List Stp) (i : Nat), l.drop i = r → i + m = 61 →
    ltbl E0 21 0 2 [stpsV l, .int .i64 i] [] = some (if (r.take m).any bigT then (0, [.bool true], []) else (1, [stpsV l], [])) := by
  intro d
  induction d with
  | zero =>
    intro r i hr hm
    have : ¬ ((i : Int) < 61) := by omega
    refine t_yGreatL _ _ ?_
    by_cases h : (i : Int) < l.length <;> simp [s_yGreatL, this, h]
  | succ d ih =>
    intro r i hr hm
    cases r with
    | nil =>
      have h : l.length ≤ i := by simpa using hr
      have : ¬ ((i : Int) < l.length) := by omega
      exact t_yGreatL _ _ (by simp [s_yGreatL, this])
    | cons x r =>
      obtain ⟨hlt, hget, hr2⟩ := drop_c hr
      have h2 : (i : Int) < l.length := by omega
      have h3 : (i : Int) < 61 := by omega
      have e1 := i64_succ (i := i) (by omega)
      have h := ih r (i + 1) hr2 (by omega)
      refine t_yGreatL _ _ ?_
      simp only [s_yGreatL, OA_asm, OA_join, List.length_map, h2, h3, decide_true, cond_true, OA_chk, Int.natCast_nonneg, nthE, Int.toNat_natCast, List.getElem?_map, hget, Option.map_some, u_asA, u_asC, u_asI, u_asS, u_asL, u_asB, u_asN, Option.bind_some, Tok.untok_tok, e1, h, List.take_succ_cons, List.any_cons]
      by_cases a : 100 < x.t.length
      · have a2 : (x.t.length : Int) > 100 := by omega
        simp [a2, bigT, a]
      · have a2 : ¬ ((x.t.length : Int) > 100) := by omega
        by_cases b : 40 < x.fields.length
        · have b2 : (x.fields.length : Int) > 40 := by omega
          simp [a2, b2, bigT, a, b]
        · have b2 : ¬ ((x.fields.length : Int) > 40) := by omega
          have : bigT x = false := by simp [bigT, a, b]
          simp [a2, b2, this]
def greatT (l : List Stp) : Bool := (l.take 61).any bigT || decide (60 < l.length)
theorem c_yGreat (l : List Stp) : tbl E0 21 [stpsV l] [] = some ([.bool (greatT l)], []) :=
  t_yGreat l (by
    have e := c_yGreatL l 61 l 0 rfl rfl
    simp only [Int.natCast_zero] at e
    simp only [s_yGreat, OA_loop, e, greatT]
    rcases bor ((l.take 61).any bigT) with hb | hb
    · simp [hb]
    · by_cases h : 60 < l.length
      · have : (l.length : Int) > 60 := by omega
        simp [hb, h, this]
      · have : ¬ ((l.length : Int) > 60) := by omega
        simp [hb, h, this])
end Go.Proofs.Ytalpknofimglbaa.V
namespace Go.Proofs.Ytalpknofimglbaa.V
open Go
end Go.Proofs.Ytalpknofimglbaa.V
namespace Go.Proofs.Ytalpknofimglbaa.V
open Go
theorem flat_flds (l : List Fld) : (l.map fldV).all AV.flat = true := by
  rw [List.all_eq_true]
  intro x hx
  obtain ⟨f, _, rfl⟩ := List.mem_map.1 hx
  rfl
theorem flat_frms (l : List Frm) : (l.map frmV).all AV.flat = true := by
  rw [List.all_eq_true]
  intro x hx
  obtain ⟨f, _, rfl⟩ := List.mem_map.1 hx
  rfl
theorem flat_ints (l : List Int) : (l.map fun n => AV.int .i64 n).all AV.flat = true := by
  rw [List.all_eq_true]
  intro x hx
  obtain ⟨f, _, rfl⟩ := List.mem_map.1 hx
  rfl
theorem fit_mad (x : Stp) (v : Int) (l : List Frm) (p e : Int) : fitI [((0 : Nat), madO x v l p e)] = true := by
  have h1 := flat_frms l
  have h2 := flat_flds x.fields
  have h3 := flat_ints x.t
  simp only [fitI, fitC, AV.flat, AV.flat1, h1, List.all_cons, List.all_nil, Bool.and_self, Bool.and_true]
  rfl
theorem c_gClone (l : List Fld) (h : l.length ≤ 1000) : tbl E0 37 [fldsV l] [] = some ([fldsU l], []) := t_gClone l (by
  have hf := flat_flds l
  have h2 : (0 + (l.map fldV).length) * 40 ≤ 211106232532992 := by rw [List.length_map]; omega
  cases l with
  | nil =>
    simp only [s_gClone, List.map_nil]
    exact OA_amb_same (fun b => by cases b <;> rfl)
  | cons f l =>
    simp only [List.map_cons] at hf h2
    simp only [s_gClone, List.map_cons, u_nil_cons, cond_false, h2, decide_true, OA_chk, cond_true, List.nil_append, hf]
    rfl)
theorem oshE : (nodupN (List.map (fun x => x.fst) (oshOf T0 0 [AV.ref 0 0] Try.f68.params.toList)) && (oshOf T0 0 [AV.ref 0 0] Try.f68.params.toList).all fun p => p.fst.blt 64) = true := by kernel_rfl
def posS (id : Int) : List Frm → Nat
  | [] => 0
  | f :: l => if f.id < id then posS id l + 1 else 0
theorem pos_le (id : Int) : ∀ l : List Frm, posS id l ≤ l.length
  | [] => Nat.le_refl _
  | f :: l => by
    have := pos_le id l
    unfold posS
    split <;> simp only [List.length_cons] <;> omega
def hereS (id : Int) (l : List Frm) : Bool := match l[posS id l]? with | some f => f.id == id | none => false
theorem c_gcopiedL (l : List Frm) (v : Int) (hl : l.length ≤ 1000) (hf : ∀ f ∈ l, f.fields.length ≤ 1000) : ∀ (r : List Frm) (i : Nat) (d : List Frm), l.drop i = r → d.length = i →
    ltbl E0 34 0 3 [frmsV l, .int .i64 l.length, .int .i64 i] [[.int .i64 0, frmsV []], [.int .i64 v, frmsU d]] = some (1, [], [[.int .i64 0, frmsV []], [.int .i64 v, frmsU (d ++ r)]]) := by
  intro r
  induction r with
  | nil =>
    intro i d hr hd
    have h : l.length ≤ i := by simpa using hr
    refine t_gcopiedL _ _ _ _ _ ?_
    have : ¬ ((i : Int) < l.length) := by omega
    have := flat_frms d
    simp [s_gcopiedL, *]
  | cons f r ih =>
    intro i d hr hd
    obtain ⟨hlt, hget, hr2⟩ := drop_c hr
    have h2 : (i : Int) < l.length := by omega
    have e1 := i64_succ (i := i) (by omega)
    have h := ih (i + 1) (d ++ [f]) hr2 (by simp [hd])
    have c := c_gClone f.fields (hf f (mem_drop hr))
    have q1 := flat_flds f.fields
    have q2 := flat_frms (d ++ [f])
    have q3 : ((d.map frmV).length + 1) * 32 ≤ 211106232532992 := by rw [List.length_map]; omega
    refine t_gcopiedL _ _ _ _ _ ?_
    have e3 : d.map frmV ++ [frmV f] = (d ++ [f]).map frmV := by simp
    have e4 : d ++ f :: r = d ++ [f] ++ r := by simp
    simp only [frmV, fldsV, fldsU, frmsV, frmsU, List.map_nil] at c h e3 q2 ⊢
    simp only [s_gcopiedL, h2, decide_true, cond_true, OA_chk, Int.natCast_nonneg, nthE, Int.toNat_natCast, List.getElem?_map, hget, Option.map_some, u_asA, u_asC, u_asI, u_asB, u_asL, u_asUq, u_asN, OA_call, c, Option.bind_some, q1, List.length_cons, List.length_nil, Nat.zero_add, q3, e3, q2, e1, h, e4, OA_dbl, OA_both_id]
theorem c_gcopied (s : Sch) (hl : s.forms.length ≤ 1000) (hf : ∀ f ∈ s.forms, f.fields.length ≤ 1000) : tbl E0 34 [schV s] [] = some ([.agg [.int .i64 s.ver, frmsU s.forms]], []) := t_gcopied s (by
  have h := c_gcopiedL s.forms s.ver hl hf s.forms 0 [] rfl rfl
  have q := flat_frms s.forms
  simp only [Int.natCast_zero, frmsV, frmsU, List.map_nil, List.nil_append] at h
  simp only [s_gcopied, OA_chk, cond_true, OA_asm, List.length_map, OA_loop, h, Option.bind_some, nbeq, decide_true, u_asN, u_asC, u_asI, u_asL, u_asUq, q])
theorem bin_lss {α : Type} {A : Alg α} (td : TD) (a b : Int) (k : AV → α) : bin A td .lss (.int .i64 a) (.int .i64 b) k = k (.bool (decide (a < b))) := Eq.trans rfl rfl
theorem bin_eql {α : Type} {A : Alg α} (td : TD) (a b : Int) (k : AV → α) : bin A td .eql (.int .i64 a) (.int .i64 b) k = k (.bool (a == b)) := Eq.trans rfl rfl
theorem c_gfindL (x : Stp) (v : Int) (l : List Frm) (e : Int) (hl : l.length ≤ 1000) : ∀ (r : List Frm) (i : Nat), l.drop i = r →
    ltbl E0 68 0 2 [] [madO x v l i e] = some (1, [], [madO x v l (i + posS x.form r : Nat) e]) := by
  intro r
  have q := flat_frms l
  induction r with
  | nil =>
    intro i hr
    have h : l.length ≤ i := by simpa using hr
    refine t_gfindL _ _ _ _ _ ?_
    have h2 : ¬ ((i : Int) < l.length) := by omega
    simp only [s_gfindL, OA_join, OA_asm, List.length_map, h2, decide_false, cond_false, Option.bind_some, Tok.untok_tok, q, cond_true, posS, Nat.add_zero]
  | cons f r ih =>
    intro i hr
    obtain ⟨hlt, hget, hr2⟩ := drop_c hr
    have h2 : (i : Int) < l.length := by omega
    have e1 := i64_succ (i := i) (by omega)
    have h := ih (i + 1) hr2
    refine t_gfindL _ _ _ _ _ ?_
    simp only [s_gfindL, OA_join, OA_asm, List.length_map, h2, Int.natCast_nonneg, decide_true, cond_true, Bool.and_self, OA_chk, nthE, Int.toNat_natCast, List.getElem?_map, hget, Option.map_some, AV.cells, List.getElem?_cons_zero, u_asB, Option.bind_some, Tok.untok_tok, q, e1, h, bin_lss]
    by_cases c : f.id < x.form
    · simp [c, posS, Nat.add_assoc, Nat.add_comm 1]
    · simp [c, posS]
theorem pos_get {id : Int} {l : List Frm} (h : posS id l < l.length) : ∃ f, l[posS id l]? = some f := ⟨_, List.getElem?_eq_getElem h⟩
theorem c_gfind (x : Stp) (v : Int) (l : List Frm) (p e : Int) (hl : l.length ≤ 1000) : tbl E0 68 [.ref 0 0] [(0, madO x v l p e)] = some ([.bool (hereS x.form l)], [(0, madO x v l (posS x.form l) e)]) := t_gfind x v l p e (by
  have q := flat_frms l
  have h := c_gfindL x v l e hl l 0 rfl
  have hp := pos_le x.form l
  have o := oshE
  simp only [Int.natCast_zero, Nat.zero_add] at h
  rw [Bool.and_eq_true] at o
  simp only [s_gfind, fit_mad, o.1, o.2, List.all_cons, List.all_nil, fitA, Bool.and_self, cond_true, OA_chk, q, OA_loop, h, Option.bind_some, nbeq, decide_true, u_asN, u_asC, u_asI, u_asS, u_asL, u_asUq, OA_join, OA_asm, List.length_map]
  by_cases c : posS x.form l < l.length
  · obtain ⟨f, hf⟩ := pos_get c
    have c2 : ((posS x.form l : Nat) : Int) < l.length := by omega
    simp only [c2, decide_true, cond_true, Int.natCast_nonneg, Bool.and_self, nthE, Int.toNat_natCast, List.getElem?_map, hf, Option.map_some, AV.cells, List.getElem?_cons_zero, bin_eql, u_asB, Option.bind_some, Tok.untok_tok, hereS]
  · have c2 : ¬ (((posS x.form l : Nat) : Int) < l.length) := by omega
    have c3 : l[posS x.form l]? = none := List.getElem?_eq_none (by omega)
    simp only [c2, decide_false, cond_false, Option.bind_some, Tok.untok_tok, hereS, c3])
theorem oshE2 : (nodupN (List.map (fun x => x.fst) (oshOf T0 0 [AV.ref 0 0] Try.f72.params.toList)) && (oshOf T0 0 [AV.ref 0 0] Try.f72.params.toList).all fun p => p.fst.blt 64) = true := by kernel_rfl
theorem oshE3 : (nodupN (List.map (fun x => x.fst) (oshOf T0 0 [AV.ref 0 0] Try.f73.params.toList)) && (oshOf T0 0 [AV.ref 0 0] Try.f73.params.toList).all fun p => p.fst.blt 64) = true := by kernel_rfl
theorem exp0_lst {α : Type} {A : Alg α} (w : Nat) (nm : Nm) (l : List AV) (cl : Cl) (k : AV → Cl → α) : exp0 A (.lst w) nm (.lst .ro w l) cl k = k (.lst .ro w l) cl := by simp [exp0, lit]
theorem c_gfields (x : Stp) (v : Int) (l : List Frm) (p : Nat) (e : Int) (g : Frm) (hg : l[p]? = some g) : tbl E0 72 [.ref 0 0] [(0, madO x v l p e)] = some ([fldsV g.fields], [(0, madO x v l p e)]) := t_gfields x v l p e (by
  have q := flat_frms l
  have hp : p < l.length := (List.getElem?_eq_some_iff.1 hg).1
  have hp2 : (p : Int) < l.length := by omega
  have o := oshE2
  rw [Bool.and_eq_true] at o
  simp only [s_gfields, fit_mad, o.1, o.2, List.all_cons, List.all_nil, fitA, Bool.and_self, cond_true, OA_chk, q, List.length_map, hp2, decide_true, Int.natCast_nonneg, nthE, Int.toNat_natCast, List.getElem?_map, hg, Option.map_some, AV.cells, List.getElem?_cons_succ, List.getElem?_cons_zero, exp0_lst])
theorem c_gown (x : Stp) (v : Int) (l : List Frm) (p e : Nat) (g : Frm) (f : Fld) (hg : l[p]? = some g) (hf : g.fields[e]? = some f) : tbl E0 73 [.ref 0 0] [(0, madO x v l p e)] = some ([fldV f], [(0, madO x v l p e)]) := t_gown x v l p e (by
  have q := flat_frms l
  have c := c_gfields x v l p e g hg
  have o := oshE3
  rw [Bool.and_eq_true] at o
  simp only [s_gown, s_gown_k1, fit_mad, o.1, o.2, List.all_cons, List.all_nil, fitA, Bool.and_self, cond_true, OA_chk, q, OA_call, c, Option.bind_some, nbeq, decide_true, u_asN, u_asC, u_asI, u_asS, u_asL, u_asUq, Int.natCast_nonneg, nthE, Int.toNat_natCast, List.getElem?_map, hf, Option.map_some, u_asA, OA_both_id])
def widerS (f g : Fld) : Bool := rgtS f && rgtS g && f.kind == g.kind && decide (loS g ≤ loS f) && decide (hiS f ≤ hiS g) && decide (f.most ≤ g.most)
theorem c_gWider (f g : Fld) : tbl E0 98 [fldV f, fldV g] [] = some ([.bool (widerS f g)], []) := t_gWider f g (by
  have c1 := c_fRight f
  have c2 := c_fRight g
  simp only [s_gWider, OA_chk, cond_true, OA_join, OA_callx, c1, c2, Option.bind_some, u_asC, u_asB, u_asN]
  rcases bor (rgtS f) with h1 | h1
  · have d1 := c_fbounds f (fun _ => h1)
    rcases bor (rgtS g) with h2 | h2
    · have d2 := c_fbounds g (fun _ => h2)
      simp only [h1, h2, Bool.not_true, cond_false, Option.bind_some, Tok.untok_tok]
      rcases bor (f.kind != g.kind) with h3 | h3
      · have : (f.kind == g.kind) = false := by simpa using h3
        simp [h3, widerS, h1, h2, this]
      · have : (f.kind == g.kind) = true := by simpa using h3
        simp only [h3, cond_false, OA_chk, cond_true, OA_callx, d1, d2, Option.bind_some, u_asC, u_asI, u_asN, OA_join]
        by_cases a : loS g ≤ loS f <;> by_cases b : hiS f ≤ hiS g <;> simp [widerS, h1, h2, this, a, b]
    · simp [h1, h2, widerS]
  · simp [h1, widerS])
end Go.Proofs.Ytalpknofimglbaa.V
namespace Go.Proofs.Ytalpknofimglbaa.V
open Go
def minS (a b : Int) : Int := if b < a then b else a
def maxS (a b : Int) : Int := if a < b then b else a
def affS (a b n : Int) : Int := IntKind.i64.wrap (IntKind.i64.wrap (a * n) + b)
def scaledS (f : Fld) (a b : Int) : Fld := ⟨f.id, f.kind, minS (affS a b f.lo) (affS a b f.hi), maxS (affS a b f.lo) (affS a b f.hi), f.most⟩
def scaleS (f : Fld) (a b : Int) : Fld := ⟨f.id, 1, minS (affS a b f.lo) (affS a b f.hi), maxS (affS a b f.lo) (affS a b f.hi), 0⟩
def typesS (f : Fld) (x : Stp) : List Fld × Bool :=
  if x.op = 2 then ([], hasV f x.n x.s)
  else if x.op = 3 then ([x.f], widerS f x.f)
  else if x.op = 4 then ([scaleS f x.a x.b], f.kind == 1 && rgtS (scaleS f x.a x.b))
  else if x.op = 5 then ([⟨f.id, 3, 0, 0, x.a⟩], f.kind == 3 && f.most == (x.t.length : Int))
  else if x.op = 6 then ([⟨f.id, 1, 0, IntKind.i64.wrap (f.hi.tdiv x.a), 0⟩, ⟨x.to, 1, 0, minS f.hi (IntKind.i64.wrap (x.a - 1)), 0⟩], f.kind == 1 && f.lo == 0)
  else if x.op = 8 then ([⟨x.to, f.kind, f.lo, f.hi, f.most⟩], true) else ([f], true)
def turnedS (f : Fld) (x : Stp) : List Fld × Bool :=
  if x.op = 2 then ([], hasV f x.n x.s)
  else if x.op = 3 then ([x.f], widerS f x.f)
  else if x.op = 4 then (if f.kind = 1 then ([scaledS f x.a x.b], rgtS (scaledS f x.a x.b)) else ([f], false))
  else if x.op = 5 then ([⟨f.id, f.kind, f.lo, f.hi, x.a⟩], f.kind == 3 && f.most == (x.t.length : Int))
  else if x.op = 6 then ([⟨f.id, f.kind, f.lo, IntKind.i64.wrap (f.hi.tdiv x.a), f.most⟩, ⟨x.to, 1, 0, minS (IntKind.i64.wrap (x.a - 1)) f.hi, 0⟩], f.kind == 1 && f.lo == 0)
  else ([⟨x.to, f.kind, f.lo, f.hi, f.most⟩], true)
theorem minS_comm (a b : Int) : minS a b = minS b a := by unfold minS; split <;> split <;> omega
theorem rgt1 {f : Fld} (h : rgtS f = true) (k : f.kind = 1) : f.most = 0 := by
  simp only [rgtS, k, if_true, Bool.and_eq_true, decide_eq_true_eq] at h
  omega
theorem rgt3 {f : Fld} (h : rgtS f = true) (k : f.kind = 3) : f.lo = 0 ∧ f.hi = 0 := by
  simp [rgtS, k] at h
  omega
theorem turned_types {f : Fld} {x : Stp} (h : rgtS f = true) (h7 : x.op ≠ 7) (hop : x.op = 2 ∨ x.op = 3 ∨ x.op = 4 ∨ x.op = 5 ∨ x.op = 6 ∨ x.op = 8) : (turnedS f x).2 = (typesS f x).2 ∧ ((typesS f x).2 = true → (turnedS f x).1 = (typesS f x).1) := by
  rcases hop with h1 | h1 | h1 | h1 | h1 | h1
  · simp [turnedS, typesS, h1]
  · simp [turnedS, typesS, h1]
  · by_cases k : f.kind = 1
    · have := rgt1 h k
      simp [turnedS, typesS, h1, k, scaledS, scaleS, this]
    · simp [turnedS, typesS, h1, k]
  · by_cases k : f.kind = 3
    · obtain ⟨k1, k2⟩ := rgt3 h k
      simp [turnedS, typesS, h1, k, k1, k2]
    · simp [turnedS, typesS, h1, k]
  · by_cases k : f.kind = 1
    · have := rgt1 h k
      by_cases k2 : f.lo = 0
      · simp [turnedS, typesS, h1, k, k2, this, minS_comm]
      · simp [turnedS, typesS, h1, k, k2]
    · simp [turnedS, typesS, h1, k]
  · simp [turnedS, typesS, h1]
def fieldS (op : Int) : Bool := op != 1 && (op != 9 && op != 10)
def namesS (s : Sch) (x : Stp) : Int :=
  if x.op = 9 then (if 0 ≤ findS s.forms x.form then 9 else 0)
  else if findS s.forms x.form < 0 then 8
  else match s.forms[(findS s.forms x.form).toNat]? with
    | none => 0
    | some f =>
      if fieldS x.op && decide (atS f.fields x.field < 0) then 8
      else if (x.op == 1 && decide (0 ≤ atS f.fields x.f.id)) || ((x.op == 6 || x.op == 8) && decide (0 ≤ atS f.fields x.to)) then 9
      else if (x.op == 1 && decide ((f.fields.length : Int) < x.place)) || (x.op == 7 && decide ((f.fields.length : Int) ≤ x.place)) then 3 else 0
def putS (l : List Fld) (n : Nat) (m : List Fld) : List Fld := l.take n ++ m ++ l.drop n
def cutS (l : List Fld) (n : Nat) : List Fld := l.take n ++ l.drop (n + 1)
def bodyS (f : Frm) : Bool → List Frm → List Frm
  | _, [] => []
  | b, g :: l => (if !b && decide (f.id ≤ g.id) then [f] else []) ++ ((if g.id ≠ f.id then [g] else []) ++ bodyS f (b || decide (f.id ≤ g.id)) l)
def doneS (f : Frm) : Bool → List Frm → Bool
  | b, [] => b
  | b, g :: l => doneS f (b || decide (f.id ≤ g.id)) l
def formsS (f : Frm) (b : Bool) (l : List Frm) : List Frm := bodyS f b l ++ (if doneS f b l then [] else [f])
theorem body_len (f : Frm) : ∀ (l : List Frm) (b : Bool), (bodyS f b l).length ≤ 2 * l.length
  | [], b => by simp [bodyS]
  | g :: l, b => by
    have := body_len f l (b || decide (f.id ≤ g.id))
    simp only [bodyS, List.length_append, List.length_cons]
    split <;> split <;> simp <;> omega
def sch0 : Sch := ⟨0, []⟩
def outS (s : Sch) (f : Frm) : Sch × Int :=
  if schS ⟨s.ver, formsS f f.fields.isEmpty s.forms⟩ then (⟨s.ver, formsS f f.fields.isEmpty s.forms⟩, 0) else (sch0, 7)
def oldS (s : Sch) (x : Stp) : List Fld := match s.forms[(findS s.forms x.form).toNat]? with | some g => g.fields | none => []
def newS (l : List Fld) (x : Stp) (more : List Fld) : List Fld := putS (cutS l (atS l x.field).toNat) (if x.op = 7 then x.place.toNat else (atS l x.field).toNat) more
def onS (s : Sch) (x : Stp) : Sch × Int :=
  if !(schS s) || (!(tRightS x) || decide (10 < x.op)) then (sch0, 2)
  else if namesS s x ≠ 0 then (sch0, namesS s x)
  else if x.op = 9 then outS s ⟨x.form, x.fields⟩
  else if x.op = 1 then outS s ⟨x.form, putS (oldS s x) x.place.toNat [x.f]⟩
  else if x.op = 10 then outS s ⟨x.form, []⟩
  else match (oldS s x)[(atS (oldS s x) x.field).toNat]? with
    | none => (sch0, 17)
    | some g => if (typesS g x).2 then (if (newS (oldS s x) x (typesS g x).1).isEmpty then (sch0, 7) else outS s ⟨x.form, newS (oldS s x) x (typesS g x).1⟩) else (sch0, 17)
def allS (s : Sch) : Nat → List Stp → Sch × Nat × Int
  | _, [] => (s, 0, 0)
  | i, x :: l => if (onS s x).2 = 0 then allS (onS s x).1 (i + 1) l else (sch0, i, (onS s x).2)
end Go.Proofs.Ytalpknofimglbaa.V
namespace Go.Proofs.Ytalpknofimglbaa.V
open Go
theorem c_zWider (f g : Fld) (hf : f.kind = 3 → rgtS f = true) : tbl E0 79 [fldV f, fldV g] [] = some ([.bool (widerS f g)], []) := by
  obtain ⟨lo, hi, most, hb, hh⟩ := c_ySpan f
  obtain ⟨lo2, hi2, most2, hb2, hh2⟩ := c_ySpan g
  refine t_zWider f g ?_
  simp only [s_zWider, OA_chk, cond_true, OA_join, OA_callx, hb, hb2, Option.bind_some, u_asC, u_asI, u_asB, u_asN]
  rcases bor (rgtS f) with h1 | h1
  · rcases bor (rgtS g) with h2 | h2
    · obtain ⟨rfl, rfl, rfl⟩ := hh h1
      obtain ⟨rfl, rfl, rfl⟩ := hh2 h2
      by_cases k : f.kind = g.kind
      · have key : ((decide (loS g ≤ loS f) && (decide (hiS f ≤ hiS g) && decide ((if f.kind = 4 then f.most else 0) ≤ (if g.kind = 4 then g.most else 0)))) = (decide (loS g ≤ loS f) && (decide (hiS f ≤ hiS g) && decide (f.most ≤ g.most)))) := by
          have q1 := h1
          have q2 := h2
          simp only [rgtS, ← k, Bool.and_eq_true, decide_eq_true_eq] at q1 q2
          by_cases k1 : f.kind = 1
          · simp only [k1, if_true, decide_eq_true_eq] at q1 q2
            have : f.most ≤ g.most := by omega
            simp [k1, ← k, this]
          · by_cases k2 : f.kind = 2
            · simp [k2] at q1 q2
              have : f.most ≤ g.most := by omega
              simp [k2, ← k, this]
            · by_cases k3 : f.kind = 3
              · have : (hiS f ≤ hiS g) ↔ f.most ≤ g.most := by simp [hiS, k3, ← k]
                simp [k3, ← k, this]
              · by_cases k4 : f.kind = 4
                · simp [k4, ← k]
                · simp [k1, k2, k3, k4] at q1
        have k' : (f.kind == g.kind) = true := by simpa using k
        simp only [widerS, h1, h2, k', cond_true, Bool.true_and, Bool.and_assoc, ← key]
        by_cases a : loS g ≤ loS f <;> by_cases b : hiS f ≤ hiS g <;> simp [a, b]
      · simp [h1, h2, widerS, k]
    · simp [h1, h2, widerS]
  · simp [h1, widerS]
theorem c_zput (l : List Fld) (n : Nat) (f : Fld) (hn : n ≤ l.length) (hl : l.length ≤ 1000) : tbl E0 41 [fldsV l, .int .i64 n, fldV f] [] = some ([fldsV (putS l n [f])], []) := t_zput l n f (by
  have h1 : (n : Int) ≤ l.length := by omega
  have h2 : (((l.map fldV).take n).length) * 40 ≤ 211106232532992 := by rw [List.length_take, List.length_map]; omega
  have h3 : (((l.map fldV).take n).length + 1) * 40 ≤ 211106232532992 := by rw [List.length_take, List.length_map]; omega
  have h4 : (((l.map fldV).take n ++ [fldV f]).length + ((l.map fldV).drop n).length) * 40 ≤ 211106232532992 := by rw [List.length_append, List.length_take, List.length_drop, List.length_map]; simp; omega
  have h5 : ((l.map fldV).take l.length) = l.map fldV := List.take_of_length_le (by simp)
  simp only [fldV, fldC] at h2 h3 h4 h5
  simp only [s_zput, OA_chk, List.length_map, Int.le_refl, Int.natCast_nonneg, h1, decide_true, Bool.and_self, cond_true, List.drop_zero, Int.toNat_natCast, List.length_cons, List.length_nil, Nat.zero_add, h2, h3, h4, h5]
  simp only [fldsV, fldV, fldC, putS, List.map_append, List.map_take, List.map_drop, List.map_cons, List.map_nil])
theorem c_zcut (l : List Fld) (n : Nat) (hn : n < l.length) (hl : l.length ≤ 1000) : tbl E0 44 [fldsV l, .int .i64 n] [] = some ([fldsV (cutS l n)], []) := t_zcut l n (by
  have h1 : (n : Int) ≤ l.length := by omega
  have e1 := i64_succ (i := n) (by omega)
  have h0 : ((n + 1 : Nat) : Int) ≤ l.length := by omega
  have h2 : (0 + ((l.map fldV).take n).length) * 40 ≤ 211106232532992 := by rw [List.length_take, List.length_map]; omega
  have h4 : (((l.map fldV).take n).length + ((l.map fldV).drop (n + 1)).length) * 40 ≤ 211106232532992 := by rw [List.length_take, List.length_drop, List.length_map]; omega
  have h5 : ((l.map fldV).take l.length) = l.map fldV := List.take_of_length_le (by simp)
  simp only [s_zcut, OA_chk, List.length_map, Int.le_refl, Int.natCast_nonneg, h1, h0, e1, decide_true, Bool.and_self, cond_true, List.drop_zero, Int.toNat_natCast, h2, h4, h5]
  simp only [fldsV, fldV, fldC, cutS, List.map_append, List.map_take, List.map_drop])
theorem c_zfield (op : Int) : tbl E0 78 [.int .i64 op] [] = some ([.bool (fieldS op)], []) := t_zfield op (by
  simp only [s_zfield, OA_join]
  by_cases h1 : op = 1
  · simp [h1, fieldS]
  · have h1' := bne_t h1
    by_cases h2 : op = 9
    · simp [h2, fieldS]
    · have h2' := bne_t h2
      simp only [h1', h2', cond_true, Option.bind_some, Tok.untok_tok, fieldS, Bool.true_and])
def Few (s : Sch) : Prop := s.forms.length ≤ 1000 ∧ ∀ f ∈ s.forms, f.fields.length ≤ 1000
theorem Few.sml {s : Sch} (h : Few s) : Sml s := ⟨by have := h.1; omega, fun f hf => by have := h.2 f hf; omega⟩
theorem first_get {α : Type} {p : α → Bool} {l : List α} : (∃ (j : Nat) (f : α), firstS p l = (j : Int) ∧ l[j]? = some f ∧ p f = true) ∨ firstS p l = -1 := by
  unfold firstS
  cases h : l.findIdx? p with
  | none => exact .inr rfl
  | some j =>
    obtain ⟨h1, h2, h3⟩ := List.findIdx?_eq_some_iff_getElem.1 h
    exact .inl ⟨j, l[j], rfl, List.getElem?_eq_getElem h1, h2⟩
theorem c_znames (s : Sch) (x : Stp) (hs : Few s) : tbl E0 40 [schV s, stpV x] [] = some ([.int .i64 (namesS s x)], []) := t_znames s x (by
  have c := c_yFind s x.form hs.sml
  simp only [s_znames, OA_chk, cond_true, OA_callx, c, Option.bind_some, u_asC, u_asI, u_asN]
  by_cases h9 : x.op = 9
  · by_cases h : 0 ≤ findS s.forms x.form <;> simp [namesS, h9, h]
  · have h9' : (x.op == 9) = false := by simpa using h9
    rcases first_get (p := fun f : Frm => f.id == x.form) (l := s.forms) with ⟨j, f, e1, e2, e3⟩ | e1
    · have e1 : findS s.forms x.form = (j : Int) := e1
      have hf : f.fields.length ≤ 1000 := hs.2 f (List.mem_of_getElem? e2)
      have a1 := c_yAt f x.field (by omega)
      have a2 := c_yAt f x.f.id (by omega)
      have a3 := c_yAt f x.to (by omega)
      have n1 : ¬ ((j : Int) < 0) := by omega
      simp only [h9', cond_false, e1, n1, decide_false, Int.natCast_nonneg, decide_true, OA_chk, cond_true, nthE, Int.toNat_natCast, List.getElem?_map, e2, Option.map_some, u_asA, u_asC, u_asI, u_asL, u_asN, OA_join, OA_callx, c_zfield, Option.bind_some, u_asB, a1, a2, a3, OA_asm, List.length_map, s_znames_k1]
      have en : namesS s x = (if fieldS x.op && decide (atS f.fields x.field < 0) then 8
        else if (x.op == 1 && decide (0 ≤ atS f.fields x.f.id)) || ((x.op == 6 || x.op == 8) && decide (0 ≤ atS f.fields x.to)) then 9
        else if (x.op == 1 && decide ((f.fields.length : Int) < x.place)) || (x.op == 7 && decide ((f.fields.length : Int) ≤ x.place)) then 3 else 0) := by
        simp only [namesS, h9, if_false, e1, n1, Int.toNat_natCast, e2]
      rw [en]
      have key : ∀ A B : Bool, (bif A then some ([AV.int .i64 9], []) else bif B then some ([AV.int .i64 3], []) else some ([AV.int .i64 0], [])) = (some ([AV.int .i64 (if A = true then 9 else if B = true then 3 else 0)], []) : Option CR) := by
        intro A B
        cases A <;> cases B <;> rfl
      simp only [tok_cond, Option.bind_some, Tok.untok_tok, cond_tt, cond_ff, cond_or, cond_nt]
      rcases bor (fieldS x.op) with g1 | g1 <;> by_cases g2 : atS f.fields x.field < 0 <;> simp only [g1, g2, decide_true, decide_false, cond_true, cond_false, Option.bind_some, Tok.untok_tok, Bool.and_true, Bool.and_false, Bool.true_and, Bool.false_and, if_true, if_false]
      all_goals try (simp only [Bool.false_eq_true, if_false]; done)
      all_goals simp only [cond_or2, ge_iff_le, gt_iff_lt, Bool.false_eq_true, if_false]
      all_goals exact key _ _
    · have e1 : findS s.forms x.form = -1 := e1
      simp [h9', e1, namesS, h9])
theorem c_zTypes (f : Fld) (x : Stp) (hf : f.kind = 3 → rgtS f = true) (hx : x.op = 6 → x.a ≠ 0) : tbl E0 43 [fldV f, stpV x] [] = some ([fldsV (typesS f x).1, .bool (typesS f x).2], []) := t_zTypes f x (by
  have c1 := c_yHas f x.n x.s
  have c2 := c_zWider f x.f hf
  have c3 := c_yRight (scaleS f x.a x.b)
  simp only [fldV, fldC, stpV, stpC] at c1 c2
  have e4 : x.op = 4 → typesS f x = ([scaleS f x.a x.b], f.kind == 1 && rgtS (scaleS f x.a x.b)) := fun h => by simp [typesS, h]
  have m1 : (if IntKind.i64.wrap (IntKind.i64.wrap (x.a * f.hi) + x.b) < IntKind.i64.wrap (IntKind.i64.wrap (x.a * f.lo) + x.b) then IntKind.i64.wrap (IntKind.i64.wrap (x.a * f.hi) + x.b) else IntKind.i64.wrap (IntKind.i64.wrap (x.a * f.lo) + x.b)) = minS (affS x.a x.b f.lo) (affS x.a x.b f.hi) := rfl
  have m2 : (if IntKind.i64.wrap (IntKind.i64.wrap (x.a * f.lo) + x.b) < IntKind.i64.wrap (IntKind.i64.wrap (x.a * f.hi) + x.b) then IntKind.i64.wrap (IntKind.i64.wrap (x.a * f.hi) + x.b) else IntKind.i64.wrap (IntKind.i64.wrap (x.a * f.lo) + x.b)) = maxS (affS x.a x.b f.lo) (affS x.a x.b f.hi) := rfl
  simp only [fldV, fldC, scaleS] at c3
  by_cases h2 : x.op = 2
  · simp only [s_zTypes, h2, beq_self_eq_true, OA_chk, cond_true, OA_callx, c1, Option.bind_some, u_asC, u_asB, u_asN]
    simp [typesS, h2]
  · have g2 := beq_f h2
    by_cases h3 : x.op = 3
    · simp only [s_zTypes, s_zTypes_k5, h3, g2, beq_self_eq_true, OA_chk, cond_true, cond_false, OA_callx, c2, Option.bind_some, u_asC, u_asB, u_asN, OA_both_id, OA_dbl, (by decide : ((3 : Int) == 2) = false)]
      simp [typesS, h3]
    · have g3 := beq_f h3
      by_cases h4 : x.op = 4
      · rcases bor (f.kind == 1) with k | k
        · simp only [s_zTypes, s_zTypes_k2, s_zTypes_k3, s_zTypes_k4, h4, k, beq_self_eq_true, OA_chk, cond_true, cond_false, OA_callx, m1, m2, c3, Option.bind_some, u_asC, u_asB, u_asN, OA_both_id, OA_dbl, (by decide : ((4 : Int) == 2) = false), (by decide : ((4 : Int) == 3) = false)]
          rw [e4 h4, k]
          rfl
        · simp only [s_zTypes, s_zTypes_k2, s_zTypes_k3, s_zTypes_k4, h4, k, beq_self_eq_true, OA_chk, cond_true, cond_false, OA_callx, m1, m2, c3, Option.bind_some, u_asC, u_asB, u_asN, OA_both_id, OA_dbl, (by decide : ((4 : Int) == 2) = false), (by decide : ((4 : Int) == 3) = false)]
          rw [e4 h4, k]
          rfl
      · have g4 := beq_f h4
        by_cases h5 : x.op = 5
        · rcases bor (f.kind == 3) with k | k
          · simp only [s_zTypes, h5, k, beq_self_eq_true, OA_chk, OA_asm, cond_true, cond_false, OA_both_id, OA_dbl, List.length_map, (by decide : ((5 : Int) == 2) = false), (by decide : ((5 : Int) == 3) = false), (by decide : ((5 : Int) == 4) = false)]
            simp [typesS, h5, (by simpa using k : f.kind = 3)]
          · simp only [s_zTypes, h5, k, beq_self_eq_true, OA_chk, OA_asm, cond_true, cond_false, OA_both_id, OA_dbl, List.length_map, (by decide : ((5 : Int) == 2) = false), (by decide : ((5 : Int) == 3) = false), (by decide : ((5 : Int) == 4) = false)]
            simp [typesS, h5, (by simpa using k : f.kind ≠ 3)]
        · have g5 := beq_f h5
          by_cases h6 : x.op = 6
          · have ha : (!(x.a == (0 : Int))) = true := by simpa using hx h6
            rcases bor (f.kind == 1) with k | k
            · simp only [s_zTypes, s_zTypes_k1, h6, ha, k, beq_self_eq_true, OA_chk, OA_asm, cond_true, cond_false, OA_both_id, OA_dbl, (by decide : ((6 : Int) == 2) = false), (by decide : ((6 : Int) == 3) = false), (by decide : ((6 : Int) == 4) = false), (by decide : ((6 : Int) == 5) = false)]
              simp [typesS, h6, (by simpa using k : f.kind = 1), minS]
            · simp only [s_zTypes, s_zTypes_k1, h6, ha, k, beq_self_eq_true, OA_chk, OA_asm, cond_true, cond_false, OA_both_id, OA_dbl, (by decide : ((6 : Int) == 2) = false), (by decide : ((6 : Int) == 3) = false), (by decide : ((6 : Int) == 4) = false), (by decide : ((6 : Int) == 5) = false)]
              simp [typesS, h6, (by simpa using k : f.kind ≠ 1), minS]
          · have g6 := beq_f h6
            by_cases h8 : x.op = 8
            · simp [s_zTypes, typesS, h8]
            · simp [s_zTypes, typesS, h2, h3, h4, h5, h6, h8])
theorem q32 {n : Nat} (h : n ≤ 3000) : n * 32 ≤ 211106232532992 := by omega
theorem c_zformsL (s : Sch) (f : Frm) (v : Int) (hs : Few s) : ∀ (r : List Frm) (i : Nat) (b : Bool) (d : List Frm), s.forms.drop i = r → d.length ≤ 2 * i →
    ltbl E0 45 0 4 [.bool b, .int .i64 i] [[.int .i64 s.ver, frmsV s.forms], [.int .i64 f.id, fldsV f.fields], [.int .i64 0, frmsV []], [.int .i64 v, .lst (.own (.O 1005 1)) 2 (d.map frmV)]] =
      some (1, [.bool (doneS f b r)], [[.int .i64 f.id, fldsV f.fields], [.int .i64 0, frmsV []], [.int .i64 v, .lst (.own (.O 1005 1)) 2 ((d ++ bodyS f b r).map frmV)]]) := by
  intro r
  have hl := hs.1
  induction r with
  | nil =>
    intro i b d hr hd
    have h : s.forms.length ≤ i := by simpa using hr
    refine t_zformsL _ _ _ _ _ _ ?_
    have : ¬ ((i : Int) < s.forms.length) := by omega
    simp [s_zformsL, this, bodyS, doneS]
  | cons g r ih =>
    intro i b d hr hd
    obtain ⟨hlt, hget, hr2⟩ := drop_c hr
    have h2 : (i : Int) < s.forms.length := by omega
    have e1 := i64_succ (i := i) (by omega)
    have q0 : d.length + 1 ≤ 3000 ∧ d.length + 1 + 1 ≤ 3000 := by omega
    have q1 := q32 q0.1
    have q2 := q32 q0.2
    have m : ∀ (x : Frm) (d : List Frm), d.map frmV ++ [frmV x] = (d ++ [x]).map frmV := fun x d => by simp
    simp only [frmV, fldsV] at m
    refine t_zformsL _ _ _ _ _ _ ?_
    simp only [s_zformsL, OA_asm, List.length_map, h2, decide_true, cond_true, OA_join, OA_chk, Int.natCast_nonneg, nthE, Int.toNat_natCast, List.getElem?_map, hget, Option.map_some, u_asA, u_asC, u_asI, u_asB, u_asL, u_asN, e1, OA_dbl, List.length_cons, List.length_nil, List.length_append, Nat.zero_add]
    cases b with
    | true =>
      simp only [Bool.not_true, cond_false, Option.bind_some, Tok.untok_tok]
      by_cases n : g.id = f.id
      · have n' : (g.id != f.id) = false := by simpa using n
        have h := ih (i + 1) true d hr2 (by omega)
        simp only [frmV, fldsV, frmsV, List.map_nil] at h ⊢
        simp only [n', cond_false, h]
        simp [bodyS, doneS, n]
      · have n' := bne_t n
        have h := ih (i + 1) true (d ++ [g]) hr2 (by simp; omega)
        simp only [frmV, fldsV, frmsV, List.map_nil] at h ⊢
        simp only [n', cond_true, q1, decide_true, m, h]
        simp [bodyS, doneS, n]
    | false =>
      simp only [Bool.not_false, cond_true, Option.bind_some, Tok.untok_tok, ge_iff_le]
      by_cases a : f.id ≤ g.id
      · simp only [a, decide_true, cond_true, q1]
        by_cases n : g.id = f.id
        · have n' : (g.id != f.id) = false := by simpa using n
          have h := ih (i + 1) true (d ++ [f]) hr2 (by simp; omega)
          simp only [frmV, fldsV, frmsV, List.map_nil] at h ⊢
          simp only [n', cond_false, m, h]
          simp [bodyS, doneS, n, a]
        · have n' := bne_t n
          have h := ih (i + 1) true (d ++ [f] ++ [g]) hr2 (by simp; omega)
          simp only [frmV, fldsV, frmsV, List.map_nil] at h ⊢
          simp only [n', cond_true, q2, decide_true, m, h]
          simp [bodyS, doneS, n, a]
      · simp only [a, decide_false, cond_false]
        by_cases n : g.id = f.id
        · omega
        · have n' := bne_t n
          have h := ih (i + 1) false (d ++ [g]) hr2 (by simp; omega)
          simp only [frmV, fldsV, frmsV, List.map_nil] at h ⊢
          simp only [n', cond_true, q1, decide_true, m, h]
          simp [bodyS, doneS, n, a]
theorem c_zforms (s : Sch) (f : Frm) (hs : Few s) : tbl E0 45 [schV s, frmV f] [] = some ([schV ⟨s.ver, formsS f f.fields.isEmpty s.forms⟩], []) := t_zforms s f (by
  have h := c_zformsL s f s.ver hs s.forms 0 f.fields.isEmpty [] rfl (by simp)
  have e : ((f.fields.length : Int) == 0) = f.fields.isEmpty := by cases f.fields <;> simp; omega
  have hb := body_len f s.forms f.fields.isEmpty
  have hl := hs.1
  have q1 : ((bodyS f f.fields.isEmpty s.forms).length + 1) * 32 ≤ 211106232532992 := by omega
  simp only [Int.natCast_zero, List.map_nil, List.nil_append, frmV, fldsV, frmsV] at h
  simp only [s_zforms, OA_chk, cond_true, OA_asm, List.length_map, e, OA_loop, h, Option.bind_some, nbeq, decide_true, u_asN, u_asC, u_asI, u_asL, u_asB, u_asOwn, Nm_beq_self, List.length_cons, List.length_nil, Nat.zero_add, q1]
  rcases bor (doneS f f.fields.isEmpty s.forms) with d | d
  · simp [d, formsS]
  · simp [d, formsS])
end Go.Proofs.Ytalpknofimglbaa.V
namespace Go.Proofs.Ytalpknofimglbaa.V
open Go
theorem right_op {x : Stp} (h : tRightS x = true) (p : Int) (hp : p ∈ usesS x.op) : fitsS x p = true := ((right_fits h).1 p hp).2.1
theorem right_1 {x : Stp} (h : tRightS x = true) (o : x.op = 1) : (0 ≤ x.place ∧ x.place ≤ 8) ∧ rgtS x.f = true := by
  have h2 := right_op h 2 (by rw [o]; decide)
  have h6 := right_op h 6 (by rw [o]; decide)
  simp [fitsS, inS] at h2 h6
  exact ⟨h2, h6.1⟩
theorem right_6 {x : Stp} (h : tRightS x = true) (o : x.op = 6) : (2 ≤ x.a ∧ x.a ≤ 1048576) ∧ 0 ≤ x.to := by
  have h2 := right_op h 4 (by rw [o]; decide)
  have h6 := right_op h 3 (by rw [o]; decide)
  simp [fitsS, inS, o] at h2 h6
  exact ⟨h2, h6.1.1⟩
theorem right_8 {x : Stp} (h : tRightS x = true) (o : x.op = 8) : 0 ≤ x.to := by
  have h6 := right_op h 3 (by rw [o]; decide)
  simp [fitsS, inS] at h6
  exact h6.1.1
theorem right_7 {x : Stp} (h : tRightS x = true) (o : x.op = 7) : 0 ≤ x.place ∧ x.place ≤ 8 := by
  have h6 := right_op h 2 (by rw [o]; decide)
  simpa [fitsS, inS] using h6
theorem right_9 {x : Stp} (h : tRightS x = true) (o : x.op = 9) : fineS ⟨x.form, x.fields⟩ = true := by
  have h6 := right_op h 9 (by rw [o]; decide)
  simpa [fitsS] using h6
theorem right_10 {x : Stp} (h : tRightS x = true) (h10 : x.op ≤ 10) : x.op = 1 ∨ x.op = 2 ∨ x.op = 3 ∨ x.op = 4 ∨ x.op = 5 ∨ x.op = 6 ∨ x.op = 7 ∨ x.op = 8 ∨ x.op = 9 ∨ x.op = 10 := by
  have := (right_fits h).2.1
  simp only [opsL, List.mem_cons, List.not_mem_nil, or_false] at this
  omega
theorem bor' (b : Bool) : b = false ∨ b = true := by cases b <;> simp
theorem put_put (l t : List Fld) (n : Nat) (x : Fld) (hn : n ≤ l.length) : putS (putS l n t) (n + t.length) [x] = putS l n (t ++ [x]) := by
  have e1 : (l.take n ++ t).length = n + t.length := by simp; omega
  unfold putS
  rw [List.take_append_of_le_length (by omega), List.drop_append_of_le_length (by omega), ← e1, List.take_length, List.drop_length]
  simp
theorem put_len (l t : List Fld) (n : Nat) : (putS l n t).length = l.length + t.length := by
  unfold putS
  simp
  omega
theorem c_zOnL (s : Sch) (l : List Fld) (n id : Int) (k : Nat) (hn : n = k) (more : List Fld) (hk : k ≤ l.length) (hl : l.length ≤ 500) (hm : more.length ≤ 8) : ∀ (r : List Fld) (i : Nat), more.drop i = r →
    ltbl E0 12 0 17 [.int .i64 n, fldsV more, .int .i64 i] [[.int .i64 s.ver, frmsV s.forms], [.int .i64 0, frmsV []], [.int .i64 id, fldsV (putS l k (more.take i))]] =
      some (2, [], [[.int .i64 s.ver, frmsV s.forms], [.int .i64 0, frmsV []], [.int .i64 id, fldsV (putS l k more)]]) := by
  intro r
  subst hn
  induction r with
  | nil =>
    intro i hr
    have h : more.length ≤ i := by simpa using hr
    refine t_zOnL _ _ _ _ ⟨id, putS l k (more.take i)⟩ ?_
    have : ¬ ((i : Int) < more.length) := by omega
    simp [s_zOnL, this, List.take_of_length_le h]
  | cons f r ih =>
    intro i hr
    obtain ⟨hlt, hget, hr2⟩ := drop_c hr
    have h2 : (i : Int) < more.length := by omega
    have e1 := i64_succ (i := i) (by omega)
    have e2 : IntKind.i64.wrap ((k : Int) + i) = ((k + i : Nat) : Int) := by rw [wrap_i64 _ (by omega) (by omega)]; omega
    have hlen : (more.take i).length = i := by rw [List.length_take]; omega
    have h := ih (i + 1) hr2
    have c := c_zput (putS l k (more.take i)) (k + i) f (by rw [put_len]; omega) (by rw [put_len]; omega)
    have e3 : putS (putS l k (more.take i)) (k + i) [f] = putS l k (more.take (i + 1)) := by
      have := put_put l (more.take i) k f hk
      rw [hlen] at this
      rw [this, List.take_add_one, hget]
      rfl
    rw [e3] at c
    refine t_zOnL _ _ _ _ ⟨id, putS l k (more.take i)⟩ ?_
    simp only [fldV, fldC, fldsV, frmsV, List.map_nil] at c h ⊢
    simp only [s_zOnL, OA_asm, List.length_map, h2, decide_true, cond_true, OA_chk, Int.natCast_nonneg, nthE, Int.toNat_natCast, List.getElem?_map, hget, Option.map_some, u_asA, u_asC, u_asI, u_asL, u_asN, OA_callx, e2, c, Option.bind_some, e1, h]
theorem c_zOnM (s : Sch) (f : Frm) (hs : Few s) (hf : f.fields.length ≤ 1000) : ltbl E0 12 0 1000028 [] [[.int .i64 s.ver, frmsV s.forms], [.int .i64 0, frmsV []], [.int .i64 f.id, fldsV f.fields]] =
    some (0, [.int .i64 (outS s f).2], [[.int .i64 (outS s f).1.ver, frmsV (outS s f).1.forms]]) := by
  have c := c_zforms s f hs
  have hb := body_len f s.forms f.fields.isEmpty
  have hl := hs.1
  have mem : ∀ (l : List Frm) (b : Bool), ∀ g ∈ bodyS f b l, g = f ∨ g ∈ l := by
    intro l
    induction l with
    | nil => intro b g hg; simp [bodyS] at hg
    | cons a l ih =>
      intro b g hg
      simp only [bodyS, List.mem_append] at hg
      rcases hg with hg | hg | hg
      · split at hg
        · simp at hg; exact .inl hg
        · simp at hg
      · split at hg
        · simp at hg; exact .inr (by simp [hg])
        · simp at hg
      · rcases ih _ g hg with h | h
        · exact .inl h
        · exact .inr (by simp [h])
  have sm : Sml ⟨s.ver, formsS f f.fields.isEmpty s.forms⟩ := by
    refine ⟨?_, fun g hg => ?_⟩
    · have : (formsS f f.fields.isEmpty s.forms).length ≤ 3000 := by
        unfold formsS
        rw [List.length_append]
        split <;> simp <;> omega
      exact Nat.le_trans this (by decide)
    · have : g = f ∨ g ∈ s.forms := by
        simp only [formsS, List.mem_append] at hg
        rcases hg with hg | hg
        · exact mem _ _ g hg
        · split at hg
          · simp at hg
          · simp at hg; exact .inl hg
      rcases this with rfl | h
      · exact Nat.le_trans hf (by decide)
      · exact Nat.le_trans (hs.2 g h) (by decide)
  have d := c_ysRight _ sm
  refine t_zOnM s f ?_
  simp only [frmV, fldsV, frmsV, schV] at c d ⊢
  simp only [s_zOnM, OA_chk, cond_true, OA_callx, c, d, Option.bind_some, u_asC, u_asA, u_asI, u_asL, u_asB, u_asN, outS]
  rcases bor (schS ⟨s.ver, formsS f f.fields.isEmpty s.forms⟩) with b | b
  · simp [b]
  · simp [b, sch0]
theorem names0 {s : Sch} {x : Stp} (h : namesS s x = 0) (h9 : x.op ≠ 9) : ∃ (j : Nat) (g : Frm), findS s.forms x.form = (j : Int) ∧ s.forms[j]? = some g ∧ g.id = x.form ∧ oldS s x = g.fields ∧
    (fieldS x.op = true → ∃ (k : Nat) (f : Fld), atS g.fields x.field = (k : Int) ∧ g.fields[k]? = some f) ∧ (x.op = 1 → x.place ≤ g.fields.length ∧ atS g.fields x.f.id < 0) ∧ (x.op = 7 → x.place < g.fields.length) ∧ (x.op = 6 ∨ x.op = 8 → atS g.fields x.to < 0) := by
  rcases first_get (p := fun f : Frm => f.id == x.form) (l := s.forms) with ⟨j, g, e1, e2, e3⟩ | e1
  · have e1 : findS s.forms x.form = (j : Int) := e1
    refine ⟨j, g, e1, e2, by simpa using e3, by simp [oldS, e1, e2], ?_⟩
    have n1 : ¬ ((j : Int) < 0) := by omega
    simp only [namesS, h9, if_false, e1, n1, Int.toNat_natCast, e2] at h
    have a1 : ¬ ((fieldS x.op && decide (atS g.fields x.field < 0)) = true) := by
      intro a; simp [a] at h
    rw [if_neg a1] at h
    have a2 : ¬ (((x.op == 1 && decide (0 ≤ atS g.fields x.f.id)) || ((x.op == 6 || x.op == 8) && decide (0 ≤ atS g.fields x.to))) = true) := by
      intro a; simp [a] at h
    rw [if_neg a2] at h
    have a3 : ¬ (((x.op == 1 && decide ((g.fields.length : Int) < x.place)) || (x.op == 7 && decide ((g.fields.length : Int) ≤ x.place))) = true) := by
      intro a; simp [a] at h
    refine ⟨fun hf => ?_, fun o => ?_, fun o => ?_, fun o => ?_⟩
    · rcases first_get (p := fun f : Fld => f.id == x.field) (l := g.fields) with ⟨k, f, q1, q2, q3⟩ | q1
      · exact ⟨k, f, q1, q2⟩
      · exfalso
        have q1 : atS g.fields x.field = -1 := q1
        apply a1
        simp [hf, q1]
    · simp [o] at a2 a3
      omega
    · simp [o] at a3
      omega
    · simp at a2
      have := a2.2 o
      omega
  · have e1 : findS s.forms x.form = -1 := e1
    simp [namesS, h9, e1] at h
theorem cut_len {l : List Fld} {n : Nat} (h : n < l.length) : (cutS l n).length + 1 = l.length := by
  unfold cutS
  simp
  omega
theorem schS_few {s : Sch} (h : schS s = true) : s.forms.length ≤ 8 ∧ ∀ f ∈ s.forms, f.fields.length ≤ 8 ∧ ∀ x ∈ f.fields, rgtS x = true := by
  simp only [schS, Bool.and_eq_true, decide_eq_true_eq] at h
  refine ⟨h.1.2, fun f hf => ?_⟩
  have := risingS_all _ _ h.2 f hf
  rw [fineS_iff] at this
  exact ⟨this.2.1.2, this.2.2.2.1⟩
theorem types_len (f : Fld) (x : Stp) : (typesS f x).1.length ≤ 2 := by
  unfold typesS
  repeat' split
  all_goals simp
theorem c_zOn (s : Sch) (x : Stp) (hs : Few s) (hx : x.sml) : tbl E0 12 [schV s, stpV x] [] = some ([schV (onS s x).1, .int .i64 (onS s x).2], []) := t_zOn s x (by
  have c1 := c_ysRight s hs.sml
  have c2 := c_ytRight x hx
  rw [← tRight_eq] at c2
  have cn := c_znames s x hs
  have cF := c_yFind s x.form hs.sml
  simp only [schV, stpV, stpC, intsV, frmsV, fldsV] at c1 c2 cn cF
  have gate : onS s x = if !(schS s) || (!(tRightS x) || decide (10 < x.op)) then (sch0, 2) else onS s x := by
    by_cases h : (!(schS s) || (!(tRightS x) || decide (10 < x.op))) = true
    · rw [if_pos h]; unfold onS; rw [if_pos h]
    · rw [if_neg h]
  simp only [s_zOn, OA_chk, cond_true, OA_join, OA_callx, c1, Option.bind_some, u_asC, u_asB, u_asN]
  rcases bor' (schS s) with h1 | h1
  · simp [h1, gate, sch0]
  simp only [h1, Bool.not_true, cond_false, c2, Option.bind_some, u_asC, u_asB, u_asN]
  rcases bor' (tRightS x) with h2 | h2
  · simp [h1, h2, gate, sch0]
  simp only [h2, Bool.not_true, cond_false, Option.bind_some, Tok.untok_tok, gt_iff_lt]
  by_cases h3 : 10 < x.op
  · simp [h1, h2, h3, gate, sch0]
  simp only [h3, decide_false, cond_false, cn, Option.bind_some, u_asC, u_asI, u_asN]
  have g0 : ¬ ((!(schS s) || (!(tRightS x) || decide (10 < x.op))) = true) := by simp [h1, h2, h3]
  by_cases h4 : ¬ (namesS s x = 0)
  · have h4' := bne_t h4
    simp only [h4', cond_true, onS, if_neg g0, ne_eq, h4, not_false_eq_true, if_true, sch0, schV, frmsV, List.map_nil]
  have h4 : namesS s x = 0 := Classical.not_not.1 h4
  have h4' : (namesS s x != 0) = false := by simp [h4]
  simp only [h4', cond_false]
  have M := fun (f : Frm) (hf : f.fields.length ≤ 1000) => c_zOnM s f hs hf
  simp only [frmsV, fldsV, List.map_nil] at M
  by_cases h9 : x.op = 9
  · have f9 := right_9 h2 h9
    have l9 : x.fields.length ≤ 8 := (fineS_fld f9).1
    have q : (0 + (x.fields.map fldV).length) * 40 ≤ 211106232532992 := by rw [List.length_map]; omega
    have m := M ⟨x.form, x.fields⟩ (by simp; omega)
    simp only at m
    simp only [h9, beq_self_eq_true, cond_true, q, decide_true, OA_loop, m, Option.bind_some, s_zOn_k1, nbeq, u_asN, u_asC, u_asI, u_asL, OA_chk]
    have eo : onS s x = outS s ⟨x.form, x.fields⟩ := by unfold onS; rw [if_neg g0, if_neg (by simp [h4]), if_pos h9]
    rw [eo]
  have h9' : (x.op == 9) = false := by simpa using h9
  simp only [h9', cond_false]
  obtain ⟨j, g, e1, e2, e3, e4, e5, e6, e7, e8⟩ := names0 h4 h9
  have hg : g.fields.length ≤ 8 := ((schS_few h1).2 g (List.mem_of_getElem? e2)).1
  rw [e1] at cF
  by_cases o1 : x.op = 1
  · obtain ⟨p1, p2⟩ := right_1 h2 o1
    have p3 := (e6 o1).1
    obtain ⟨k, hk⟩ : ∃ k : Nat, x.place = (k : Int) := ⟨x.place.toNat, by omega⟩
    have c := c_zput g.fields k x.f (by omega) (by omega)
    have m := M ⟨x.form, putS g.fields k [x.f]⟩ (by rw [put_len]; simp; omega)
    simp only [fldsV, fldV, fldC] at c
    simp only at m
    simp only [o1, beq_self_eq_true, cond_true, OA_callx, cF, Option.bind_some, u_asC, u_asI, u_asN, u_asA, u_asL, Int.natCast_nonneg, decide_true, nthE, Int.toNat_natCast, List.getElem?_map, e2, Option.map_some, hk, c, OA_loop, m, s_zOn_k1, nbeq, OA_chk]
    have eo : onS s x = outS s ⟨x.form, putS g.fields k [x.f]⟩ := by unfold onS; rw [if_neg g0, if_neg (by simp [h4]), if_neg h9, if_pos o1, e4, hk, Int.toNat_natCast]
    rw [eo]
  have o1' : (x.op == 1) = false := by simpa using o1
  simp only [o1', cond_false]
  by_cases o10 : x.op = 10
  · have m := M ⟨x.form, []⟩ (by simp)
    simp only [List.map_nil] at m
    simp only [o10, beq_self_eq_true, cond_true, OA_loop, m, Option.bind_some, s_zOn_k1, nbeq, u_asN, u_asC, u_asI, u_asL, OA_chk, decide_true]
    have eo : onS s x = outS s ⟨x.form, []⟩ := by unfold onS; rw [if_neg g0, if_neg (by simp [h4]), if_neg h9, if_neg o1, if_pos o10]
    rw [eo]
  have o10' : (x.op == 10) = false := by simpa using o10
  have hfield : fieldS x.op = true := by simp [fieldS, o1, h9, o10]
  obtain ⟨k, f, q1, q2⟩ := e5 hfield
  have hk : k < g.fields.length := (List.getElem?_eq_some_iff.1 q2).1
  have hf : rgtS f = true := ((schS_few h1).2 g (List.mem_of_getElem? e2)).2 f (List.mem_of_getElem? q2)
  have cA := c_yAt ⟨0, g.fields⟩ x.field (by simp; omega)
  simp only [frmV, fldsV, q1] at cA
  have cT := c_zTypes f x (fun _ => hf) (fun o6 => by have := right_6 h2 o6; omega)
  have cC := c_zcut g.fields k hk (by omega)
  have hC := cut_len hk
  have hT := types_len f x
  simp only [fldV, fldC, stpV, stpC, intsV, fldsV] at cT cC
  simp only [o10', cond_false, OA_callx, cF, cA, Option.bind_some, u_asC, u_asI, u_asN, u_asA, u_asL, Int.natCast_nonneg, decide_true, nthE, Int.toNat_natCast, List.getElem?_map, e2, q2, Option.map_some, cT, cond_true, u_asB, OA_chk]
  have eo : onS s x = if (typesS f x).2 then (if (newS g.fields x (typesS f x).1).isEmpty then (sch0, 7) else outS s ⟨x.form, newS g.fields x (typesS f x).1⟩) else (sch0, 17) := by
    simp only [onS, if_neg g0, ne_eq, h4, not_true_eq_false, if_false, h9, o1, o10, e4, q1, Int.toNat_natCast, q2]
  rw [eo]
  rcases bor' ((typesS f x).2) with t | t
  · simp [t, sch0]
  simp only [t, Bool.not_true, cond_false, OA_callx, cC, Option.bind_some, u_asC, u_asL, u_asN, OA_chk, cond_true, if_true]
  have fin : ∀ (n : Nat), n ≤ (cutS g.fields k).length → newS g.fields x (typesS f x).1 = putS (cutS g.fields k) n (typesS f x).1 →
      ltbl E0 12 0 17 [.int .i64 n, .lst .ro 5 ((typesS f x).1.map fldV), .int .i64 0] [[.int .i64 s.ver, .lst .ro 2 (s.forms.map frmV)], [.int .i64 0, .lst .ro 2 []], [.int .i64 x.form, .lst .ro 5 ((cutS g.fields k).map fldV)]] =
        some (2, [], [[.int .i64 s.ver, .lst .ro 2 (s.forms.map frmV)], [.int .i64 0, .lst .ro 2 []], [.int .i64 x.form, .lst .ro 5 ((newS g.fields x (typesS f x).1).map fldV)]]) := by
    intro n hn e
    have h := c_zOnL s (cutS g.fields k) (n : Int) x.form n rfl (typesS f x).1 hn (by omega) (by omega) (typesS f x).1 0 rfl
    have z : putS (cutS g.fields k) n ((typesS f x).1.take 0) = cutS g.fields k := by simp [putS]
    rw [z] at h
    rw [e]
    simpa only [Int.natCast_zero, fldsV, frmsV, List.map_nil] using h
  have fm := M ⟨x.form, newS g.fields x (typesS f x).1⟩ (by
    unfold newS
    rw [put_len, q1, Int.toNat_natCast]
    omega)
  have tail : ∀ (j0 : Nat) (a : List AV) (b : List (List AV)), (j0, a, b) = (2, [], [[AV.int .i64 s.ver, AV.lst .ro 2 (s.forms.map frmV)], [AV.int .i64 0, AV.lst .ro 2 []], [AV.int .i64 x.form, AV.lst .ro 5 ((newS g.fields x (typesS f x).1).map fldV)]]) →
      s_zOn_k2 (OA (tbl E0) (ltbl E0 12 0)) s x (fun r o => some (r, o)) j0 a b = some ([schV (if (newS g.fields x (typesS f x).1).isEmpty then (sch0, 7) else outS s ⟨x.form, newS g.fields x (typesS f x).1⟩).1, .int .i64 (if (newS g.fields x (typesS f x).1).isEmpty then (sch0, 7) else outS s ⟨x.form, newS g.fields x (typesS f x).1⟩).2], []) := by
    intro j0 a b e
    injection e with a1 e
    injection e with a2 a3
    subst a1 a2 a3
    simp only [s_zOn_k2, nbeq, decide_true, cond_true, u_asN, u_asC, u_asI, u_asL, OA_asm, List.length_map]
    cases hN : newS g.fields x (typesS f x).1 with
    | nil => simp [sch0]
    | cons y l =>
      have z : (((y :: l).length : Int) == 0) = false := by simp; omega
      rw [hN] at fm
      simp only [z, cond_false, OA_loop, fm, Option.bind_some, s_zOn_k1, nbeq, decide_true, cond_true, u_asN, u_asC, u_asI, u_asL, OA_chk]
      simp [schV, frmsV]
  by_cases o7 : x.op = 7
  · have p := right_7 h2 o7
    have p2 := e7 o7
    obtain ⟨n, hn⟩ : ∃ n : Nat, x.place = (n : Int) := ⟨x.place.toNat, by omega⟩
    have h := fin n (by omega) (by simp only [newS, o7, if_true, hn, Int.toNat_natCast, q1])
    simp only [o7, beq_self_eq_true, cond_true, OA_loop, hn, h, Option.bind_some]
    exact tail _ _ _ rfl
  · have o7' : (x.op == 7) = false := by simpa using o7
    have h := fin k (by omega) (by simp only [newS, o7, if_false, Int.toNat_natCast, q1])
    simp only [o7', cond_false, OA_loop, h, Option.bind_some]
    exact tail _ _ _ rfl)
theorem out_right {s : Sch} {f : Frm} (h : (outS s f).2 = 0) : schS (outS s f).1 = true ∧ (outS s f).1 = ⟨s.ver, formsS f f.fields.isEmpty s.forms⟩ := by
  unfold outS at h ⊢
  split at h
  · rename_i c; rw [if_pos c]; exact ⟨c, rfl⟩
  · simp at h
theorem on_out {s : Sch} {x : Stp} (h : (onS s x).2 = 0) : ∃ f : Frm, f.id = x.form ∧ onS s x = outS s f ∧ (x.op ≠ 10 → f.fields.isEmpty = false) ∧ schS s = true ∧ namesS s x = 0 ∧ tRightS x = true ∧ x.op ≤ 10 := by
  by_cases g0 : (!(schS s) || (!(tRightS x) || decide (10 < x.op))) = true
  · unfold onS at h; rw [if_pos g0] at h; simp at h
  · have g1 : schS s = true ∧ tRightS x = true ∧ x.op ≤ 10 := by
      simp at g0
      exact ⟨g0.1, g0.2.1, by omega⟩
    by_cases h4 : namesS s x = 0
    · by_cases h9 : x.op = 9
      · have eo : onS s x = outS s ⟨x.form, x.fields⟩ := by unfold onS; rw [if_neg g0, if_neg (by simp [h4]), if_pos h9]
        refine ⟨_, rfl, eo, fun _ => ?_, g1.1, h4, g1.2.1, g1.2.2⟩
        have f9 := right_9 g1.2.1 h9
        rw [fineS_iff] at f9
        have := f9.2.1.1
        cases hx : x.fields with
        | nil => simp [hx] at this
        | cons a l => rfl
      · by_cases o1 : x.op = 1
        · have eo : onS s x = outS s ⟨x.form, putS (oldS s x) x.place.toNat [x.f]⟩ := by unfold onS; rw [if_neg g0, if_neg (by simp [h4]), if_neg h9, if_pos o1]
          exact ⟨_, rfl, eo, fun _ => by simp [putS], g1.1, h4, g1.2.1, g1.2.2⟩
        · by_cases o10 : x.op = 10
          · have eo : onS s x = outS s ⟨x.form, []⟩ := by unfold onS; rw [if_neg g0, if_neg (by simp [h4]), if_neg h9, if_neg o1, if_pos o10]
            exact ⟨_, rfl, eo, fun h => absurd o10 h, g1.1, h4, g1.2.1, g1.2.2⟩
          · unfold onS at h ⊢
            rw [if_neg g0, if_neg (by simp [h4]), if_neg h9, if_neg o1, if_neg o10] at h ⊢
            split at h
            · simp at h
            · rename_i g hg
              split at h
              · rename_i t
                rw [if_pos t]
                split at h
                · simp at h
                · rename_i e
                  rw [if_neg e]
                  exact ⟨_, rfl, rfl, fun _ => by simpa using e, g1.1, h4, g1.2.1, g1.2.2⟩
              · simp at h
    · unfold onS at h
      rw [if_neg g0, if_pos h4] at h
      exact absurd h h4
theorem on_right {s : Sch} {x : Stp} (h : (onS s x).2 = 0) : schS (onS s x).1 = true := by
  obtain ⟨f, _, e, _⟩ := on_out h
  rw [e] at h ⊢
  exact (out_right h).1
theorem few_of {s : Sch} (h : schS s = true) : Few s := by
  have := schS_few h
  exact ⟨by omega, fun f hf => by have := (this.2 f hf).1; omega⟩
theorem c_zAllL (l : List Stp) (hl : l.length ≤ 1000) (hx : ∀ x ∈ l, x.sml) : ∀ (r : List Stp) (i : Nat) (s : Sch), l.drop i = r → Few s →
    ltbl E0 15 0 2 [stpsV l, .int .i64 i] [[.int .i64 s.ver, frmsV s.forms], [.int .i64 0, frmsV []]] =
      some (if (allS s i r).2.2 = 0 then (1, [], [[.int .i64 (allS s i r).1.ver, frmsV (allS s i r).1.forms], [.int .i64 0, frmsV []]]) else (0, [.int .i64 ((allS s i r).2.1 : Nat), .int .i64 (allS s i r).2.2], [[.int .i64 0, frmsV []]])) := by
  intro r
  induction r with
  | nil =>
    intro i s hr hs
    have h : l.length ≤ i := by simpa using hr
    refine t_zAllL _ _ _ ?_
    have : ¬ ((i : Int) < l.length) := by omega
    simp [s_zAllL, this, allS]
  | cons x r ih =>
    intro i s hr hs
    obtain ⟨hlt, hget, hr2⟩ := drop_c hr
    have h2 : (i : Int) < l.length := by omega
    have e1 := i64_succ (i := i) (by omega)
    have c := c_zOn s x hs (hx x (mem_drop hr))
    simp only [schV, frmsV, stpV, stpC, intsV, fldsV] at c
    refine t_zAllL _ _ _ ?_
    simp only [stpV, stpC, intsV, fldsV, frmsV, List.map_nil] at ih ⊢
    simp only [s_zAllL, s_zAllL_k1, OA_asm, List.length_map, h2, decide_true, cond_true, OA_chk, Int.natCast_nonneg, nthE, Int.toNat_natCast, List.getElem?_map, hget, Option.map_some, u_asA, u_asC, u_asI, u_asS, u_asL, u_asN, OA_callx, c, Option.bind_some, e1, OA_dbl, OA_both_id]
    by_cases h : (onS s x).2 = 0
    · have h' : ((onS s x).2 != 0) = false := by simp [h]
      have e := ih (i + 1) (onS s x).1 hr2 (few_of (on_right h))
      simp only [h', cond_false, e, allS, if_pos h]
    · have h' := bne_t h
      simp only [h', cond_true, allS, if_neg h]
theorem c_zAll (s : Sch) (l : List Stp) (hs : Few s) (hl : l.length ≤ 1000) (hx : ∀ x ∈ l, x.sml) : tbl E0 15 [schV s, stpsV l] [] = some ([schV (allS s 0 l).1, .int .i64 ((allS s 0 l).2.1 : Nat), .int .i64 (allS s 0 l).2.2], []) := t_zAll s l (by
  have c := c_zAllL l hl hx l 0 s rfl hs
  have z : ∀ (l : List Stp) (i : Nat) (s : Sch), ((allS s i l).2.2 = 0 → (allS s i l).2.1 = 0) ∧ ((allS s i l).2.2 ≠ 0 → (allS s i l).1 = sch0) := by
    intro l
    induction l with
    | nil => intro i s; simp [allS]
    | cons x l ih =>
      intro i s
      unfold allS
      by_cases h : (onS s x).2 = 0
      · rw [if_pos h]; exact ih _ _
      · rw [if_neg h]; exact ⟨fun h2 => absurd h2 h, fun _ => rfl⟩
  obtain ⟨z1, z2⟩ := z l 0 s
  simp only [Int.natCast_zero, stpsV, frmsV, List.map_nil] at c
  simp only [s_zAll, OA_chk, cond_true, OA_loop, c, Option.bind_some]
  by_cases h : (allS s 0 l).2.2 = 0
  · simp [h, z1 h]
  · simp [h, z2 h, sch0])
end Go.Proofs.Ytalpknofimglbaa.V
namespace Go.Proofs.Ytalpknofimglbaa.V
open Go
theorem c_gscaled (f : Fld) (a b : Int) : tbl E0 99 [fldV f, .int .i64 a, .int .i64 b] [] = some ([fldV (scaledS f a b), .bool (rgtS (scaledS f a b))], []) := t_gscaled f a b (by
  have c3 := c_fRight (scaledS f a b)
  have m1 : (if IntKind.i64.wrap (IntKind.i64.wrap (a * f.hi) + b) < IntKind.i64.wrap (IntKind.i64.wrap (a * f.lo) + b) then IntKind.i64.wrap (IntKind.i64.wrap (a * f.hi) + b) else IntKind.i64.wrap (IntKind.i64.wrap (a * f.lo) + b)) = minS (affS a b f.lo) (affS a b f.hi) := rfl
  have m2 : (if IntKind.i64.wrap (IntKind.i64.wrap (a * f.lo) + b) < IntKind.i64.wrap (IntKind.i64.wrap (a * f.hi) + b) then IntKind.i64.wrap (IntKind.i64.wrap (a * f.hi) + b) else IntKind.i64.wrap (IntKind.i64.wrap (a * f.lo) + b)) = maxS (affS a b f.lo) (affS a b f.hi) := rfl
  simp only [fldV, fldC, scaledS] at c3
  simp only [s_gscaled, s_gscaled_k1, s_gscaled_k2, OA_chk, cond_true, OA_callx, m1, m2, c3, Option.bind_some, u_asC, u_asB, u_asN, OA_both_id, OA_dbl]
  rfl)
theorem oshE4 : (nodupN (List.map (fun x => x.fst) (oshOf T0 0 [AV.ref 0 0] Try.f76.params.toList)) && (oshOf T0 0 [AV.ref 0 0] Try.f76.params.toList).all fun p => p.fst.blt 64) = true := by kernel_rfl
theorem oshE5 : (nodupN (List.map (fun x => x.fst) (oshOf T0 0 [AV.ref 0 0] Try.f35.params.toList)) && (oshOf T0 0 [AV.ref 0 0] Try.f35.params.toList).all fun p => p.fst.blt 64) = true := by kernel_rfl
theorem oshE6 : (nodupN (List.map (fun x => x.fst) (oshOf T0 0 [AV.ref 0 0] Try.f39.params.toList)) && (oshOf T0 0 [AV.ref 0 0] Try.f39.params.toList).all fun p => p.fst.blt 64) = true := by kernel_rfl
set_option maxHeartbeats 2000000 in
theorem c_gturned1 (x : Stp) (v : Int) (l : List Frm) (p e : Int) (o1 : x.op = 1) : tbl E0 76 [.ref 0 0] [(0, madO x v l p e)] = some ([fldsU [x.f], .int .i64 0, .bool true], [(0, madO x v l p e)]) := t_gturned x v l p e (by
  have q := flat_frms l
  have o := oshE4
  rw [Bool.and_eq_true] at o
  have o1' : (x.op == 1) = true := by simpa using o1
  simp only [s_gturned, fit_mad, o.1, o.2, List.all_cons, List.all_nil, fitA, Bool.and_self, cond_true, OA_chk, q, o1', fldsU, List.map_cons, List.map_nil])
set_option maxHeartbeats 2000000 in
theorem c_gturned (x : Stp) (v : Int) (l : List Frm) (p e : Nat) (g : Frm) (f : Fld) (hg : l[p]? = some g) (hf : g.fields[e]? = some f) (hr : f.kind = 3 → rgtS f = true) (o1 : x.op ≠ 1) (ha : x.op = 6 → x.a ≠ 0) :
    tbl E0 76 [.ref 0 0] [(0, madO x v l p e)] = some ([fldsU (turnedS f x).1, .int .i64 1, .bool (turnedS f x).2], [(0, madO x v l p e)]) := t_gturned x v l p e (by
  have q := flat_frms l
  have o := oshE4
  rw [Bool.and_eq_true] at o
  have o1' : (x.op == 1) = false := by simpa using o1
  have c := c_gown x v l p e g f hg hf
  have c1 := c_fHas f x.n x.s
  have c2 := c_gWider f x.f
  have c3 := c_gscaled f x.a x.b
  simp only [fldV, fldC] at c c1 c2 c3
  simp only [s_gturned, s_gturned_k1, s_gturned_k2, fit_mad, o.1, o.2, List.all_cons, List.all_nil, fitA, Bool.and_self, cond_true, cond_false, OA_chk, q, o1', OA_call, c, Option.bind_some, nbeq, decide_true, u_asN, u_asC, u_asI, u_asS, u_asL, u_asUq, u_asA, u_asB]
  by_cases h2 : x.op = 2
  · have t2 : (x.op == 2) = true := by simpa using h2
    have e2 : turnedS f x = ([], hasV f x.n x.s) := by simp [turnedS, h2]
    rw [e2]
    simp only [t2, cond_true, OA_callx, c1, Option.bind_some, u_asC, u_asB, u_asN, q]
    rfl
  have g2 := beq_f h2
  by_cases h3 : x.op = 3
  · have t3 : (x.op == 3) = true := by simpa using h3
    have e3 : turnedS f x = ([x.f], widerS f x.f) := by simp [turnedS, h3]
    rw [e3]
    simp only [g2, t3, cond_true, cond_false, OA_callx, c2, Option.bind_some, u_asC, u_asB, u_asN, q, OA_both_id, OA_chk]
    rfl
  have g3 := beq_f h3
  by_cases h4 : x.op = 4
  · have t4 : (x.op == 4) = true := by simpa using h4
    simp only [t4, g2, g3, cond_true, cond_false, OA_chk]
    have e4 : turnedS f x = (if f.kind = 1 then ([scaledS f x.a x.b], rgtS (scaledS f x.a x.b)) else ([f], false)) := by simp [turnedS, h4]
    by_cases k : f.kind = 1
    · have k' : (f.kind == 1) = true := by simpa using k
      rw [e4, if_pos k]
      simp only [k', cond_true, OA_callx, c3, Option.bind_some, u_asC, u_asA, u_asI, u_asB, u_asN, q]
      rfl
    · have k' : (f.kind == 1) = false := by simpa using k
      rw [e4, if_neg k]
      simp only [k', cond_false, q, cond_true]
      rfl
  have g4 := beq_f h4
  by_cases h5 : x.op = 5
  · have t5 : (x.op == 5) = true := by simpa using h5
    have e5 : turnedS f x = ([⟨f.id, f.kind, f.lo, f.hi, x.a⟩], f.kind == 3 && f.most == (x.t.length : Int)) := by simp [turnedS, h5]
    rw [e5]
    simp only [t5, g2, g3, g4, cond_true, cond_false, OA_chk, OA_asm, OA_join, List.length_map, q]
    rcases bor (f.kind == 3) with k | k <;> simp only [k, cond_true, cond_false, Option.bind_some, Tok.untok_tok, Bool.true_and, Bool.false_and] <;> rfl
  have g5 := beq_f h5
  by_cases h6 : x.op = 6
  · have t6 : (x.op == 6) = true := by simpa using h6
    have e6 : turnedS f x = ([⟨f.id, f.kind, f.lo, IntKind.i64.wrap (f.hi.tdiv x.a), f.most⟩, ⟨x.to, 1, 0, minS (IntKind.i64.wrap (x.a - 1)) f.hi, 0⟩], f.kind == 1 && f.lo == 0) := by simp [turnedS, h6]
    have ha' : (!(x.a == (0 : Int))) = true := by simpa using ha h6
    have m1 : (if f.hi < IntKind.i64.wrap (x.a - 1) then f.hi else IntKind.i64.wrap (x.a - 1)) = minS (IntKind.i64.wrap (x.a - 1)) f.hi := rfl
    rw [e6]
    simp only [t6, g2, g3, g4, g5, cond_true, cond_false, OA_chk, OA_asm, OA_join, ha', m1, q]
    rcases bor (f.kind == 1) with k | k <;> simp only [k, cond_true, cond_false, Option.bind_some, Tok.untok_tok, Bool.true_and, Bool.false_and] <;> rfl
  have g6 := beq_f h6
  have e7 : turnedS f x = ([⟨x.to, f.kind, f.lo, f.hi, f.most⟩], true) := by simp [turnedS, h2, h3, h4, h5, h6]
  rw [e7]
  simp only [g2, g3, g4, g5, g6, cond_false, cond_true, OA_chk, q]
  rfl)
def thereS (x : Stp) (g : Frm) (e n : Int) : Int :=
  if e < 0 then 8 else if decide (0 ≤ n) && decide (0 ≤ atS g.fields n) then 9
  else if x.op == 1 && decide ((g.fields.length : Int) < x.place) then 3 else if x.op == 7 && decide ((g.fields.length : Int) ≤ x.place) then 3 else 0
def atG (x : Stp) (g : Frm) : Int := if x.op = 1 then x.place else if x.op = 10 then 0 else atS g.fields x.field
def freshG (x : Stp) : Int := if x.op = 1 then x.f.id else if x.op = 6 ∨ x.op = 8 then x.to else -1
theorem c_gthereM (x : Stp) (v : Int) (l : List Frm) (p e : Int) (g : Frm) (n : Int) (hg : g.fields.length ≤ 1000) :
    ltbl E0 35 0 1000020 [.int .i64 n] [madO x v l p e, [.int .i64 g.id, fldsV g.fields]] = some (0, [.int .i64 (thereS x g e n)], [madO x v l p e]) := t_gthereM x v l p e g n (by
  have q := flat_frms l
  have c := c_sAt g n (by omega)
  simp only [frmV, fldsV] at c
  simp only [s_gthereM, q, cond_true, OA_join, OA_chk, OA_callx, c, Option.bind_some, u_asC, u_asI, u_asN, OA_asm, List.length_map, ge_iff_le, gt_iff_lt]
  unfold thereS
  by_cases e0 : e < 0
  · simp only [e0, decide_true, cond_true, if_true]
  · simp only [e0, decide_false, cond_false, if_false]
    rw [tok_cond]
    simp only [Option.bind_some, Tok.untok_tok, tok_cond, cond_ff]
    rcases bor (decide (0 ≤ n) && decide (0 ≤ atS g.fields n)) with a | a
    · simp only [a, cond_true, if_true]
    · simp only [a, cond_false, Bool.false_eq_true, if_false, Option.bind_some, Tok.untok_tok]
      rcases bor (x.op == 1 && decide ((g.fields.length : Int) < x.place)) with b | b
      · simp only [b, cond_true, if_true]
      · simp only [b, cond_false, Bool.false_eq_true, if_false, Option.bind_some, Tok.untok_tok]
        rcases bor (x.op == 7 && decide ((g.fields.length : Int) ≤ x.place)) with c | c <;> simp only [c, cond_true, cond_false, Bool.false_eq_true, if_true, if_false])
theorem z72 (a b : AV) : setAt ((tabAt T0 (E0.an 35 0)).ty 52).zero 0 [a, b] = [a, b] := rfl
theorem s72 : ((tabAt T0 (E0.an 35 0)).ty 52).size = 2 := by kernel_rfl
theorem d72 (g : Frm) : List.map AV.dem1 [AV.int .i64 g.id, fldsV g.fields] = [AV.int .i64 g.id, fldsV g.fields] := rfl
theorem dS72 (g : Frm) : demSL [Sh.int .i64, Sh.lst 5] [AV.int .i64 g.id, fldsV g.fields] = [AV.int .i64 g.id, fldsV g.fields] := rfl
theorem f72 (g : Frm) : (AV.agg [AV.int .i64 g.id, fldsV g.fields]).flat = true := rfl
theorem f72' (g : Frm) : ([AV.int .i64 g.id, fldsV g.fields]).all AV.flat1 = true := rfl
theorem fI (n : Int) : (AV.int .i64 n).flat = true := rfl
theorem b22 : Nat.ble 2 2 = true := rfl
theorem hereS_get {id : Int} {l : List Frm} {g : Frm} (h : l[posS id l]? = some g) (e : g.id = id) : hereS id l = true := by
  simp [hereS, h, e]
set_option maxHeartbeats 4000000 in
theorem c_gthere9 (x : Stp) (v : Int) (l : List Frm) (p e : Int) (hl : l.length ≤ 1000) (o : x.op = 9) :
    tbl E0 35 [.ref 0 0] [(0, madO x v l p e)] = some ([.int .i64 (if hereS x.form l then 9 else 0)], [(0, madO x v l (posS x.form l) e)]) := t_gthere x v l p e (by
  have q := flat_frms l
  have o5 := oshE5
  rw [Bool.and_eq_true] at o5
  have c := c_gfind x v l p e hl
  have t : (x.op == 9) = true := by simpa using o
  simp only [s_gthere, fit_mad, o5.1, o5.2, List.all_cons, List.all_nil, fitA, Bool.and_self, cond_true, OA_chk, q, OA_call, c, Option.bind_some, nbeq, decide_true, u_asN, u_asC, u_asI, u_asS, u_asL, u_asUq, u_asB, t]
  rcases bor (hereS x.form l) with h | h <;> simp only [h, cond_true, cond_false, if_true, Bool.false_eq_true, if_false])
set_option maxHeartbeats 4000000 in
theorem c_gthere8 (x : Stp) (v : Int) (l : List Frm) (p e : Int) (hl : l.length ≤ 1000) (o : x.op ≠ 9) (h : hereS x.form l = false) :
    tbl E0 35 [.ref 0 0] [(0, madO x v l p e)] = some ([.int .i64 8], [(0, madO x v l (posS x.form l) e)]) := t_gthere x v l p e (by
  have q := flat_frms l
  have o5 := oshE5
  rw [Bool.and_eq_true] at o5
  have c := c_gfind x v l p e hl
  have t := beq_f o
  simp only [s_gthere, fit_mad, o5.1, o5.2, List.all_cons, List.all_nil, fitA, Bool.and_self, cond_true, OA_chk, q, OA_call, c, Option.bind_some, nbeq, decide_true, u_asN, u_asC, u_asI, u_asS, u_asL, u_asUq, u_asB, t, h, cond_false, Bool.not_false])
set_option maxHeartbeats 4000000 in
theorem c_gthere (x : Stp) (v : Int) (l : List Frm) (p e : Int) (hl : l.length ≤ 1000) (hf : ∀ f ∈ l, f.fields.length ≤ 1000) (o : x.op ≠ 9) (g : Frm) (hg : l[posS x.form l]? = some g) (he : g.id = x.form) :
    tbl E0 35 [.ref 0 0] [(0, madO x v l p e)] = some ([.int .i64 (thereS x g (atG x g) (freshG x))], [(0, madO x v l (posS x.form l) (atG x g))]) := t_gthere x v l p e (by
  have q := flat_frms l
  have o5 := oshE5
  rw [Bool.and_eq_true] at o5
  have c := c_gfind x v l p e hl
  have t := beq_f o
  have h := hereS_get hg he
  have hlt : posS x.form l < l.length := (List.getElem?_eq_some_iff.1 hg).1
  have hlt2 : ((posS x.form l : Nat) : Int) < l.length := by omega
  have hgl := hf g (List.mem_of_getElem? hg)
  have cA := c_sAt g x.field (by omega)
  have M := fun (e n : Int) => c_gthereM x v l (posS x.form l) e g n hgl
  simp only [frmV, fldsV] at cA
  simp only [s_gthere, fit_mad, o5.1, o5.2, List.all_cons, List.all_nil, fitA, Bool.and_self, cond_true, OA_chk, q, OA_call, c, Option.bind_some, nbeq, decide_true, u_asN, u_asC, u_asI, u_asS, u_asL, u_asUq, u_asB, t, h, cond_false, Bool.not_true, s_gthere_k4, List.length_map, hlt2, Int.natCast_nonneg, s_gthere_k1, nthE, Int.toNat_natCast, List.getElem?_map, hg, Option.map_some, OA_both_id, OA_dbl, AV.cells, List.length_cons, List.length_nil, List.drop_zero, List.take_succ_cons, List.take_zero, z72, s72]
  simp only [Nat.zero_add, Nat.reduceAdd, b22, cond_true, d72, dS72, f72, f72', fI, List.take_succ_cons, List.take_zero, Bool.and_self, Bool.true_and, OA_callx]
  simp only [fldsV] at M ⊢
  simp only [cA, Option.bind_some, u_asC, u_asI, u_asN]
  by_cases o1 : x.op = 1
  · have t1 : (x.op == 1) = true := by simpa using o1
    have e1 : atG x g = x.place := by simp [atG, o1]
    have e2 : freshG x = x.f.id := by simp [freshG, o1]
    rw [e1, e2]
    simp only [t1, cond_true, OA_loop, M, Option.bind_some, s_gthere_k2, nbeq, decide_true, u_asN, u_asC, u_asI, u_asS, u_asL, u_asUq, q]
  have t1 := beq_f o1
  by_cases o6 : x.op = 6 ∨ x.op = 8
  · have e1 : atG x g = atS g.fields x.field := by
      have : ¬ x.op = 10 := by omega
      simp [atG, o1, this]
    have e2 : freshG x = x.to := by simp [freshG, o1, o6]
    rw [e1, e2]
    have k3 : s_gthere_k3 (OA (tbl E0) (ltbl E0 35 0)) x v l p e (fun r o => some (r, o)) (List.map frmV l) x.to x.op x.form x.field x.place x.a x.b x.f.id x.f.kind x.f.lo x.f.hi x.f.most x.n x.s (List.map (fun n => AV.int .i64 n) x.t) (List.map fldV x.fields) v (posS x.form l) (atS g.fields x.field) (frmV g) = some ([.int .i64 (thereS x g (atS g.fields x.field) x.to)], [(0, madO x v l (posS x.form l) (atS g.fields x.field))]) := by
      simp only [s_gthere_k3, q, cond_true, AV.cells, List.drop_zero, List.take_succ_cons, List.take_zero, z72, s72, d72, OA_loop]
      simp only [fldsV, M, Option.bind_some, s_gthere_k2, nbeq, decide_true, cond_true, u_asN, u_asC, u_asI, u_asS, u_asL, u_asUq, q]
    rcases o6 with o6 | o6
    · have t6 : (x.op == 6) = true := by simpa using o6
      simp only [t1, t6, cond_true, cond_false, k3]
    · have t8 : (x.op == 8) = true := by simpa using o6
      have t6 : (x.op == 6) = false := by simp [o6]
      simp only [t1, t6, t8, cond_true, cond_false, k3]
  have t6 : (x.op == 6) = false := beq_f (by omega)
  have t8 : (x.op == 8) = false := beq_f (by omega)
  have e2 : freshG x = -1 := by simp [freshG, o1, o6]
  by_cases o10 : x.op = 10
  · have t10 : (x.op == 10) = true := by simpa using o10
    have e1 : atG x g = 0 := by simp [atG, o10]
    rw [e1, e2]
    simp only [t1, t6, t8, t10, cond_true, cond_false, OA_loop, M, Option.bind_some, s_gthere_k2, nbeq, decide_true, u_asN, u_asC, u_asI, u_asS, u_asL, u_asUq, q]
  · have t10 := beq_f o10
    have e1 : atG x g = atS g.fields x.field := by simp [atG, o1, o10]
    rw [e1, e2]
    simp only [t1, t6, t8, t10, cond_true, cond_false, OA_loop, M, Option.bind_some, s_gthere_k2, nbeq, decide_true, u_asN, u_asC, u_asI, u_asS, u_asL, u_asUq, q])
theorem E0_X : E0.X = X0 := rfl
theorem c_delF (l : List Fld) (k : Nat) (hk : k < l.length) : tbl E0 75 [fldsU l, .int .i64 k, .int .i64 ((k + 1 : Nat) : Int)] [] = some ([fldsU (cutS l k)], []) := tbl_X (by
  have h1 : (0 : Int) ≤ k := by omega
  have h2 : (k : Int) ≤ ((k + 1 : Nat) : Int) := by omega
  have h3 : ((k + 1 : Nat) : Int) ≤ l.length := by omega
  have e : X0 75 [fldsU l, .int .i64 k, .int .i64 ((k + 1 : Nat) : Int)] [] = delX 5 [fldsU l, .int .i64 k, .int .i64 ((k + 1 : Nat) : Int)] [] := rfl
  rw [E0_X, e]
  simp only [delX, fldsU, List.length_map, h1, h2, h3, nbeq, decide_true, Bool.and_self, cond_true, Int.toNat_natCast, cutS, List.map_append, List.map_take, List.map_drop])
theorem c_insF (l : List Fld) (n : Nat) (m : List Fld) (hn : n ≤ l.length) (hl : l.length + m.length ≤ 1000) : tbl E0 74 [fldsU l, .int .i64 n, fldsU m] [] = some ([fldsU (putS l n m)], []) := tbl_X (by
  have h1 : (0 : Int) ≤ n := by omega
  have h2 : (n : Int) ≤ l.length := by omega
  have h3 : (l.length + m.length) * 40 ≤ 211106232532992 := by omega
  have e : X0 74 [fldsU l, .int .i64 n, fldsU m] [] = insX 5 40 [fldsU l, .int .i64 n, fldsU m] [] := rfl
  rw [E0_X, e]
  simp only [insX, fldsU, List.length_map, h1, h2, h3, nbeq, decide_true, Bool.and_self, cond_true, Int.toNat_natCast, putS, List.map_append, List.map_take, List.map_drop])
theorem c_repF (l : List Fld) (n k : Nat) (m : List Fld) (hn : n ≤ k) (hk : k ≤ l.length) (hl : l.length + m.length ≤ 1000) : tbl E0 77 [fldsU l, .int .i64 n, .int .i64 k, fldsU m] [] = some ([fldsU (l.take n ++ m ++ l.drop k)], []) := tbl_X (by
  have h1 : (0 : Int) ≤ n := by omega
  have h2 : (n : Int) ≤ k := by omega
  have h4 : (k : Int) ≤ l.length := by omega
  have h3 : (l.length + m.length) * 40 ≤ 211106232532992 := by omega
  have e : X0 77 [fldsU l, .int .i64 n, .int .i64 k, fldsU m] [] = repX 5 40 [fldsU l, .int .i64 n, .int .i64 k, fldsU m] [] := rfl
  rw [E0_X, e]
  simp only [repX, fldsU, List.length_map, h1, h2, h3, h4, nbeq, decide_true, Bool.and_self, cond_true, Int.toNat_natCast, List.map_append, List.map_take, List.map_drop])
theorem c_insG (l : List Frm) (n : Nat) (m : List Frm) (hn : n ≤ l.length) (hl : l.length + m.length ≤ 3000) : tbl E0 36 [frmsU l, .int .i64 n, frmsU m] [] = some ([frmsU (l.take n ++ m ++ l.drop n)], []) := tbl_X (by
  have h1 : (0 : Int) ≤ n := by omega
  have h2 : (n : Int) ≤ l.length := by omega
  have h3 : (l.length + m.length) * 32 ≤ 211106232532992 := by omega
  have e : X0 36 [frmsU l, .int .i64 n, frmsU m] [] = insX 2 32 [frmsU l, .int .i64 n, frmsU m] [] := rfl
  rw [E0_X, e]
  simp only [insX, frmsU, List.length_map, h1, h2, h3, nbeq, decide_true, Bool.and_self, cond_true, Int.toNat_natCast, List.map_append, List.map_take, List.map_drop])
theorem c_delG (l : List Frm) (k : Nat) (hk : k < l.length) : tbl E0 38 [frmsU l, .int .i64 k, .int .i64 ((k + 1 : Nat) : Int)] [] = some ([frmsU (l.take k ++ l.drop (k + 1))], []) := tbl_X (by
  have h1 : (0 : Int) ≤ k := by omega
  have h2 : (k : Int) ≤ ((k + 1 : Nat) : Int) := by omega
  have h3 : ((k + 1 : Nat) : Int) ≤ l.length := by omega
  have e : X0 38 [frmsU l, .int .i64 k, .int .i64 ((k + 1 : Nat) : Int)] [] = delX 2 [frmsU l, .int .i64 k, .int .i64 ((k + 1 : Nat) : Int)] [] := rfl
  rw [E0_X, e]
  simp only [delX, frmsU, List.length_map, h1, h2, h3, nbeq, decide_true, Bool.and_self, cond_true, Int.toNat_natCast, List.map_append, List.map_take, List.map_drop])
theorem putC_frm {α : Type} {A : Alg α} (g : Frm) (m : List Fld) (k : AV → α) : putC A (frmV g) (setAt (frmV g).cells 1 [fldsV m]) k = k (frmV ⟨g.id, m⟩) := Eq.trans rfl rfl
set_option maxHeartbeats 4000000 in
theorem c_gchange7 (x : Stp) (v : Int) (l : List Frm) (p e n : Nat) (g : Frm) (f : Fld) (hg : l[p]? = some g) (hf : g.fields[e]? = some f) (o7 : x.op = 7) (hn : x.place = n) (hn2 : n < g.fields.length) (hgl : g.fields.length ≤ 900) :
    tbl E0 39 [.ref 0 0] [(0, madO x v l p e)] = some ([.bool true], [(0, madO x v (l.set p ⟨g.id, putS (cutS g.fields e) n [f]⟩) p e)]) := t_gchange x v l p e (by
  have q := flat_frms l
  have q2 := flat_flds
  have o6 := oshE6
  rw [Bool.and_eq_true] at o6
  have hp : p < l.length := (List.getElem?_eq_some_iff.1 hg).1
  have hp2 : (p : Int) < l.length := by omega
  have he : e < g.fields.length := (List.getElem?_eq_some_iff.1 hf).1
  have cf := c_gfields x v l p e g hg
  have cc := c_gClone g.fields (by omega)
  have co := c_gown x v l p e g f hg hf
  have cd := c_delF g.fields e he
  have hC := cut_len he
  have ci := c_insF (cutS g.fields e) n [f] (by omega) (by simp; omega)
  have e1 := i64_succ (i := e) (by omega)
  have t7 : (x.op == 7) = true := by simpa using o7
  simp only [fldsV, fldsU, fldV, fldC, List.map_cons, List.map_nil] at cf cc co cd ci
  rw [← hn] at ci
  have qf : ([AV.agg [AV.int .i64 f.id, AV.int .i64 f.kind, AV.int .i64 f.lo, AV.int .i64 f.hi, AV.int .i64 f.most]] : List AV).all AV.flat = true := rfl
  have k5 : s_gchange_k5 (OA (tbl E0) (ltbl E0 39 0)) x v l p e (fun r o => (some (r, o) : Option CR)) [AV.lst .uq 5 (List.map fldV (putS (cutS g.fields e) n [f]))] [] p (List.map frmV l) x.op x.form x.field x.place x.to x.a x.b x.f.id x.f.kind x.f.lo x.f.hi x.f.most x.n x.s (List.map (fun n => AV.int .i64 n) x.t) (List.map fldV x.fields) v e = some ([.bool true], [(0, madO x v (l.set p ⟨g.id, putS (cutS g.fields e) n [f]⟩) p e)]) := by
    have z := putC_frm (α := Option CR) (A := OA (tbl E0) (ltbl E0 39 0)) g (putS (cutS g.fields e) n [f])
    simp only [fldsV] at z
    have z2 : Nat.ble (1 + [AV.lst Md.ro 5 (List.map fldV (putS (cutS g.fields e) n [f]))].length) (frmV g).cells.length = true := rfl
    have z3 : (frmV ⟨g.id, putS (cutS g.fields e) n [f]⟩).flat = true := rfl
    have z4 := flat_frms (l.set p ⟨g.id, putS (cutS g.fields e) n [f]⟩)
    have z5 : (List.map frmV l).set p (frmV ⟨g.id, putS (cutS g.fields e) n [f]⟩) = List.map frmV (l.set p ⟨g.id, putS (cutS g.fields e) n [f]⟩) := by rw [List.map_set]
    simp only [s_gchange_k5, u_asC, u_asUq, u_asN, q2, cond_true, OA_dbl, OA_chk, Int.natCast_nonneg, List.length_map, hp2, decide_true, Bool.and_self, nthE, Int.toNat_natCast, List.getElem?_map, hg, Option.map_some, z, z2, z3, z4, z5]
  have k1 : s_gchange_k1 (OA (tbl E0) (ltbl E0 39 0)) x v l p e (fun r o => (some (r, o) : Option CR)) (List.map fldV (cutS g.fields e)) x.place f.id f.kind f.lo f.hi f.most p (List.map frmV l) x.op x.form x.field x.to x.a x.b x.f.id x.f.kind x.f.lo x.f.hi x.f.most x.n x.s (List.map (fun n => AV.int .i64 n) x.t) (List.map fldV x.fields) v e = some ([.bool true], [(0, madO x v (l.set p ⟨g.id, putS (cutS g.fields e) n [f]⟩) p e)]) := by
    simp only [s_gchange_k1, q2, cond_true, OA_call, ci, Option.bind_some, k5]
  have k2 : s_gchange_k2 (OA (tbl E0) (ltbl E0 39 0)) x v l p e (fun r o => (some (r, o) : Option CR)) (List.map fldV g.fields) e x.place f.id f.kind f.lo f.hi f.most p (List.map frmV l) x.op x.form x.field x.to x.a x.b x.f.id x.f.kind x.f.lo x.f.hi x.f.most x.n x.s (List.map (fun n => AV.int .i64 n) x.t) (List.map fldV x.fields) v = some ([.bool true], [(0, madO x v (l.set p ⟨g.id, putS (cutS g.fields e) n [f]⟩) p e)]) := by
    simp only [s_gchange_k2, q2, cond_true, OA_call, e1, cd, Option.bind_some, u_asC, u_asUq, u_asN, k1]
  simp only [s_gchange, fit_mad, o6.1, o6.2, List.all_cons, List.all_nil, fitA, Bool.and_self, cond_true, OA_chk, q, OA_call, cf, cc, co, Option.bind_some, nbeq, decide_true, u_asN, u_asC, u_asI, u_asS, u_asL, u_asUq, u_asA, t7, s_gchange_k3, s_gchange_k4, s_gchange_k6, s_gchange_k7, q2, e1, cd, k1, k2, OA_both_id, OA_dbl])
set_option maxHeartbeats 4000000 in
theorem c_gchangeR (x : Stp) (v : Int) (l : List Frm) (p e n : Nat) (g : Frm) (m : List Fld) (b : Bool) (hg : l[p]? = some g) (o7 : x.op ≠ 7) (hn : n ≤ 1) (hen : e + n ≤ g.fields.length) (hgl : g.fields.length ≤ 900) (hm : m.length ≤ 8)
    (ht : tbl E0 76 [.ref 0 0] [(0, madO x v l p e)] = some ([fldsU m, .int .i64 n, .bool b], [(0, madO x v l p e)])) :
    tbl E0 39 [.ref 0 0] [(0, madO x v l p e)] = some ([.bool b], [(0, madO x v (if b then l.set p ⟨g.id, g.fields.take e ++ m ++ g.fields.drop (e + n)⟩ else l) p e)]) := t_gchange x v l p e (by
  have q := flat_frms l
  have q2 := flat_flds
  have o6 := oshE6
  rw [Bool.and_eq_true] at o6
  have hp : p < l.length := (List.getElem?_eq_some_iff.1 hg).1
  have hp2 : (p : Int) < l.length := by omega
  have cf := c_gfields x v l p e g hg
  have cc := c_gClone g.fields (by omega)
  have cr := c_repF g.fields e (e + n) m (by omega) hen (by omega)
  have e1 : IntKind.i64.wrap ((e : Int) + n) = ((e + n : Nat) : Int) := by rw [wrap_i64 _ (by omega) (by omega)]; omega
  have t7 := beq_f o7
  simp only [fldsV, fldsU] at cf cc cr ht
  generalize hN : g.fields.take e ++ m ++ g.fields.drop (e + n) = nw at cr ⊢
  have k5 : s_gchange_k5 (OA (tbl E0) (ltbl E0 39 0)) x v l p e (fun r o => (some (r, o) : Option CR)) [AV.lst .uq 5 (List.map fldV nw)] [] p (List.map frmV l) x.op x.form x.field x.place x.to x.a x.b x.f.id x.f.kind x.f.lo x.f.hi x.f.most x.n x.s (List.map (fun n => AV.int .i64 n) x.t) (List.map fldV x.fields) v e = some ([.bool true], [(0, madO x v (l.set p ⟨g.id, nw⟩) p e)]) := by
    have z := putC_frm (α := Option CR) (A := OA (tbl E0) (ltbl E0 39 0)) g nw
    simp only [fldsV] at z
    have z2 : Nat.ble (1 + [AV.lst Md.ro 5 (List.map fldV nw)].length) (frmV g).cells.length = true := rfl
    have z3 : (frmV ⟨g.id, nw⟩).flat = true := rfl
    have z4 := flat_frms (l.set p ⟨g.id, nw⟩)
    have z5 : (List.map frmV l).set p (frmV ⟨g.id, nw⟩) = List.map frmV (l.set p ⟨g.id, nw⟩) := by rw [List.map_set]
    simp only [s_gchange_k5, u_asC, u_asUq, u_asN, q2, cond_true, OA_dbl, OA_chk, Int.natCast_nonneg, List.length_map, hp2, decide_true, Bool.and_self, nthE, Int.toNat_natCast, List.getElem?_map, hg, Option.map_some, z, z2, z3, z4, z5]
  simp only [s_gchange, fit_mad, o6.1, o6.2, List.all_cons, List.all_nil, fitA, Bool.and_self, cond_true, cond_false, OA_chk, q, OA_call, cf, cc, ht, Option.bind_some, nbeq, decide_true, u_asN, u_asC, u_asI, u_asS, u_asL, u_asUq, u_asA, u_asB, t7, OA_dbl]
  rcases bor b with hb | hb
  · simp only [hb, Bool.not_true, cond_false, q2, cond_true, OA_call, e1, cr, Option.bind_some, k5, if_true]
  · simp only [hb, Bool.not_false, cond_true, q, Bool.false_eq_true, if_false])
end Go.Proofs.Ytalpknofimglbaa.V
namespace Go.Proofs.Ytalpknofimglbaa.V
open Go
theorem body_true (f : Frm) : ∀ (l : List Frm) (n : Int), risingS n l = true → f.id ≤ n → bodyS f true l = l
  | [], _, _, _ => rfl
  | g :: l, n, h, hn => by
    simp only [risingS, Bool.and_eq_true, decide_eq_true_eq] at h
    have : g.id ≠ f.id := by omega
    simp only [bodyS, Bool.not_true, Bool.false_and, Bool.false_eq_true, if_false, List.nil_append, ne_eq, this, not_false_eq_true, if_true, Bool.true_or, body_true f l g.id h.2 (by omega)]
    rfl
theorem done_true (f : Frm) : ∀ l : List Frm, doneS f true l = true
  | [] => rfl
  | g :: l => by simp only [doneS, Bool.true_or, done_true f l]
theorem forms_set (f : Frm) : ∀ (l : List Frm) (n : Int), risingS n l = true → hereS f.id l = true → formsS f false l = l.set (posS f.id l) f
  | [], _, _, h => by simp [hereS, posS] at h
  | g :: l, n, hr, h => by
    simp only [risingS, Bool.and_eq_true, decide_eq_true_eq] at hr
    by_cases c : g.id < f.id
    · have h2 : hereS f.id l = true := by simpa [hereS, posS, c] using h
      have ih := forms_set f l g.id hr.2 h2
      have n1 : ¬ (f.id ≤ g.id) := by omega
      have n2 : g.id ≠ f.id := by omega
      simp only [formsS, bodyS, doneS, n1, n2, decide_false, Bool.and_false, Bool.or_false, Bool.false_eq_true, if_false, ne_eq, not_false_eq_true, if_true, List.nil_append, List.cons_append, posS, c, List.set_cons_succ]
      rw [← ih]
      rfl
    · have e : g.id = f.id := by simpa [hereS, posS, c] using h
      have n1 : f.id ≤ g.id := by omega
      simp [formsS, bodyS, doneS, n1, e, posS, c, done_true, body_true f l g.id hr.2 n1]
theorem forms_new (f : Frm) : ∀ (l : List Frm) (n : Int), risingS n l = true → hereS f.id l = false → formsS f false l = l.take (posS f.id l) ++ [f] ++ l.drop (posS f.id l)
  | [], _, _, h => by simp [formsS, bodyS, doneS, posS]
  | g :: l, n, hr, h => by
    simp only [risingS, Bool.and_eq_true, decide_eq_true_eq] at hr
    by_cases c : g.id < f.id
    · have h2 : hereS f.id l = false := by simpa [hereS, posS, c] using h
      have ih := forms_new f l g.id hr.2 h2
      have n1 : ¬ (f.id ≤ g.id) := by omega
      have n2 : g.id ≠ f.id := by omega
      simp only [formsS, bodyS, doneS, n1, n2, decide_false, Bool.and_false, Bool.or_false, Bool.false_eq_true, if_false, ne_eq, not_false_eq_true, if_true, List.nil_append, List.cons_append, posS, c, List.take_succ_cons, List.drop_succ_cons]
      simp only [formsS] at ih
      rw [ih]
    · have e : g.id ≠ f.id := by simpa [hereS, posS, c] using h
      have n1 : f.id ≤ g.id := by omega
      simp [formsS, bodyS, doneS, n1, e, posS, c, done_true, body_true f l g.id hr.2 n1]
theorem forms_cut (f : Frm) : ∀ (l : List Frm) (n : Int), risingS n l = true → hereS f.id l = true → formsS f true l = l.take (posS f.id l) ++ l.drop (posS f.id l + 1)
  | [], _, _, h => by simp [hereS, posS] at h
  | g :: l, n, hr, h => by
    simp only [risingS, Bool.and_eq_true, decide_eq_true_eq] at hr
    by_cases c : g.id < f.id
    · have h2 : hereS f.id l = true := by simpa [hereS, posS, c] using h
      have ih := forms_cut f l g.id hr.2 h2
      have n2 : g.id ≠ f.id := by omega
      simp only [formsS, done_true, if_true, List.append_nil] at ih ⊢
      simp only [bodyS, n2, Bool.not_true, Bool.false_and, Bool.true_or, Bool.false_eq_true, if_false, ne_eq, not_false_eq_true, if_true, List.nil_append, List.cons_append, posS, c, List.take_succ_cons, List.drop_succ_cons, ih]
    · have e : g.id = f.id := by simpa [hereS, posS, c] using h
      have n1 : f.id ≤ g.id := by omega
      simp [formsS, bodyS, done_true, e, posS, c, body_true f l g.id hr.2 n1]
theorem find_cons (g : Frm) (l : List Frm) (id : Int) : findS (g :: l) id = if g.id = id then 0 else if findS l id = -1 then -1 else findS l id + 1 := by
  unfold findS firstS
  rw [List.findIdx?_cons]
  by_cases e : g.id = id
  · simp [e]
  · have e' : (g.id == id) = false := by simpa using e
    rw [e']
    simp only [Bool.false_eq_true, if_false, e]
    cases List.findIdx? (fun f : Frm => f.id == id) l with
    | none => simp
    | some i => simp
theorem find_gt {id : Int} : ∀ (l : List Frm) (n : Int), risingS n l = true → id ≤ n → findS l id = -1
  | [], _, _, _ => rfl
  | g :: l, n, h, hn => by
    simp only [risingS, Bool.and_eq_true, decide_eq_true_eq] at h
    have e : g.id ≠ id := by omega
    rw [find_cons, if_neg e, find_gt l g.id h.2 (by omega)]
    rfl
theorem find_pos (id : Int) : ∀ (l : List Frm) (n : Int), risingS n l = true → findS l id = if hereS id l then (posS id l : Int) else -1
  | [], _, _ => by simp [hereS, posS]; rfl
  | g :: l, n, hr => by
    simp only [risingS, Bool.and_eq_true, decide_eq_true_eq] at hr
    rw [find_cons]
    by_cases c : g.id < id
    · have e : g.id ≠ id := by omega
      have h2 : hereS id (g :: l) = hereS id l := by simp [hereS, posS, c]
      rw [if_neg e, h2, find_pos id l g.id hr.2]
      cases hereS id l
      · simp
      · simp [posS, c]
    · by_cases e : g.id = id
      · simp [e, hereS, posS]
      · have h1 : hereS id (g :: l) = false := by simp [hereS, posS, c, e]
        rw [if_neg e, h1, find_gt l g.id hr.2 (by omega)]
        rfl
end Go.Proofs.Ytalpknofimglbaa.V
namespace Go.Proofs.Ytalpknofimglbaa.V
open Go
theorem rgt_id {f : Fld} (h : rgtS f = true) : 0 ≤ f.id := by
  simp only [rgtS, Bool.and_eq_true, decide_eq_true_eq] at h
  exact h.1.1
theorem there_names {s : Sch} {x : Stp} (hx : tRightS x = true) (h10 : x.op ≤ 10) (h9 : x.op ≠ 9) {j : Nat} {g : Frm} (e1 : findS s.forms x.form = (j : Int)) (e2 : s.forms[j]? = some g) :
    thereS x g (atG x g) (freshG x) = namesS s x := by
  have n1 : ¬ ((j : Int) < 0) := by omega
  have en : namesS s x = (if fieldS x.op && decide (atS g.fields x.field < 0) then 8
        else if (x.op == 1 && decide (0 ≤ atS g.fields x.f.id)) || ((x.op == 6 || x.op == 8) && decide (0 ≤ atS g.fields x.to)) then 9
        else if (x.op == 1 && decide ((g.fields.length : Int) < x.place)) || (x.op == 7 && decide ((g.fields.length : Int) ≤ x.place)) then 3 else 0) := by
    simp only [namesS, h9, if_false, e1, n1, Int.toNat_natCast, e2]
  rw [en]
  rcases right_10 hx h10 with o | o | o | o | o | o | o | o | o | o
  · obtain ⟨p1, p2⟩ := right_1 hx o
    have p3 := rgt_id p2
    have p4 : ¬ (x.place < 0) := by omega
    simp [thereS, atG, freshG, fieldS, o, p3, p4]
  · simp [thereS, atG, freshG, fieldS, o]
  · simp [thereS, atG, freshG, fieldS, o]
  · simp [thereS, atG, freshG, fieldS, o]
  · simp [thereS, atG, freshG, fieldS, o]
  · have := (right_6 hx o).2
    simp [thereS, atG, freshG, fieldS, o, this]
  · simp [thereS, atG, freshG, fieldS, o]
  · have := right_8 hx o
    simp [thereS, atG, freshG, fieldS, o, this]
  · exact absurd o h9
  · simp [thereS, atG, freshG, fieldS, o]
theorem c_gOn_k3 (s : Sch) (x : Stp) (v : Int) (l : List Frm) (hl : Sml ⟨v, l⟩) : s_gOn_k3 (OA (tbl E0) (ltbl E0 11 0)) s x (fun r o => (some (r, o) : Option CR)) (l.map frmV) v =
    some ([schV (if schS ⟨v, l⟩ then (⟨v, l⟩, (0 : Int)) else (sch0, 7)).1, .int .i64 (if schS ⟨v, l⟩ then ((⟨v, l⟩ : Sch), (0 : Int)) else (sch0, 7)).2], []) := by
  have c := c_sRight ⟨v, l⟩ hl
  simp only [schV, frmsV] at c
  simp only [s_gOn_k3, flat_frms l, cond_true, OA_chk, OA_callx, c, Option.bind_some, u_asC, u_asB, u_asN]
  rcases bor (schS ⟨v, l⟩) with h | h
  · simp [h]
  · simp [h, sch0]
set_option maxHeartbeats 4000000 in
theorem c_gOn (s : Sch) (x : Stp) (hs : Few s) (hx : x.sml) (hxo : x.ok) : tbl E0 11 [schV s, stpV x] [] = some ([schV (onS s x).1, .int .i64 (onS s x).2], []) := t_gOn s x (by
  have c1 := c_sRight s hs.sml
  have c2 := c_tRight x hxo hx
  simp only [schV, stpV, stpC, intsV, frmsV, fldsV] at c1 c2
  have gate : onS s x = if !(schS s) || (!(tRightS x) || decide (10 < x.op)) then (sch0, 2) else onS s x := by
    by_cases h : (!(schS s) || (!(tRightS x) || decide (10 < x.op))) = true
    · rw [if_pos h]; unfold onS; rw [if_pos h]
    · rw [if_neg h]
  simp only [s_gOn, OA_chk, cond_true, OA_join, OA_callx, c1, Option.bind_some, u_asC, u_asB, u_asN]
  rcases bor' (schS s) with h1 | h1
  · simp [h1, gate, sch0]
  simp only [h1, Bool.not_true, cond_false, c2, Option.bind_some, u_asC, u_asB, u_asN]
  rcases bor' (tRightS x) with h2 | h2
  · simp [h1, h2, gate, sch0]
  have hop := (right_fits h2).2.1
  have hop1 : ¬ (x.op < 1) := by
    simp only [opsL, List.mem_cons, List.not_mem_nil, or_false] at hop
    omega
  simp only [h2, Bool.not_true, hop1, decide_false, cond_false, Option.bind_some, Tok.untok_tok, gt_iff_lt]
  by_cases h3 : 10 < x.op
  · simp [h1, h2, h3, gate, sch0]
  have g0 : ¬ ((!(schS s) || (!(tRightS x) || decide (10 < x.op))) = true) := by simp [h1, h2, h3]
  have sf := schS_few h1
  have cc := c_gcopied s (by omega) (fun f hf => by have := (sf.2 f hf).1; omega)
  simp only [schV, frmsV, frmsU] at cc
  have q := flat_frms s.forms
  simp only [h3, decide_false, cond_false, OA_call, cc, Option.bind_some, u_asC, u_asA, u_asI, u_asUq, u_asN, q, cond_true]
  have sml8 : ∀ (l : List Frm), l.length ≤ 9 → (∀ f ∈ l, f.fields.length ≤ 900) → Sml ⟨s.ver, l⟩ := fun l a b => ⟨Nat.le_trans a (by decide), fun f hf => Nat.le_trans (b f hf) (by decide)⟩
  have rise : risingS (-1) s.forms = true := by
    simp only [schS, Bool.and_eq_true] at h1
    exact h1.2
  have hfind := find_pos x.form s.forms (-1) rise
  have hpos := pos_le x.form s.forms
  by_cases h9 : x.op = 9
  · have ct := c_gthere9 x s.ver s.forms 0 0 (by omega) h9
    have t9 : (x.op == 9) = true := by simpa using h9
    simp only [madO, intsV, fldsV, frmsU] at ct
    simp only [ct, Option.bind_some, nbeq, decide_true, cond_true, u_asC, u_asA, u_asI, u_asS, u_asL, u_asUq, u_asN]
    rcases bor (hereS x.form s.forms) with hh | hh
    · have en : namesS s x = 9 := by simp [namesS, h9, hfind, hh]
      have eo : onS s x = (sch0, 9) := by unfold onS; rw [if_neg g0, if_pos (by simp [en]), en]
      rw [eo]
      simp [hh, sch0]
    · have en : namesS s x = 0 := by simp [namesS, h9, hfind, hh]
      have eo : onS s x = outS s ⟨x.form, x.fields⟩ := by unfold onS; rw [if_neg g0, if_neg (by simp [en]), if_pos h9]
      have f9 := right_9 h2 h9
      have l9 : x.fields.length ≤ 8 := (fineS_fld f9).1
      have cl := c_gClone x.fields (by omega)
      have ci := c_insG s.forms (posS x.form s.forms) [⟨x.form, x.fields⟩] hpos (by simp; omega)
      have fn := forms_new ⟨x.form, x.fields⟩ s.forms (-1) rise hh
      simp only [fldsV, fldsU, frmsU, List.map_cons, List.map_nil] at cl ci
      have k3 := c_gOn_k3 s x s.ver (s.forms.take (posS x.form s.forms) ++ [⟨x.form, x.fields⟩] ++ s.forms.drop (posS x.form s.forms)) (sml8 _ (by simp; omega) (fun f hf => by
        simp only [List.mem_append, List.mem_singleton] at hf
        rcases hf with (hf | hf) | hf
        · have := (sf.2 f (List.mem_of_mem_take hf)).1; omega
        · subst hf; simp; omega
        · have := (sf.2 f (List.mem_of_mem_drop hf)).1; omega))
      simp only [hh, Bool.false_eq_true, if_false, t9, cond_true, s_gOn_k2, s_gOn_k1, OA_call, cl, ci, Option.bind_some, u_asC, u_asUq, u_asN, flat_flds, OA_chk, q, k3, OA_both_id, OA_dbl, (by decide : ((0 : Int) != 0) = false), cond_false]
      have hne : (⟨x.form, x.fields⟩ : Frm).fields.isEmpty = false := by
        rw [fineS_iff] at f9
        have := f9.2.1.1
        cases hxf : x.fields with
        | nil => simp [hxf] at this
        | cons a l => rfl
      rw [eo, outS, hne, fn]
  have t9 := beq_f h9
  rcases bor' (hereS x.form s.forms) with hh | hh
  · have ct := c_gthere8 x s.ver s.forms 0 0 (by omega) h9 hh
    have en : namesS s x = 8 := by simp [namesS, h9, hfind, hh]
    have eo : onS s x = (sch0, 8) := by unfold onS; rw [if_neg g0, if_pos (by simp [en]), en]
    simp only [madO, intsV, fldsV, frmsU] at ct
    simp only [ct, Option.bind_some, nbeq, decide_true, cond_true, u_asC, u_asA, u_asI, u_asS, u_asL, u_asUq, u_asN]
    rw [eo]
    simp [sch0]
  · rw [hh] at hfind
    simp only [if_true] at hfind
    obtain ⟨g, hg, he⟩ : ∃ g, s.forms[posS x.form s.forms]? = some g ∧ g.id = x.form := by
      unfold hereS at hh
      split at hh
      · rename_i g hg; exact ⟨g, hg, by simpa using hh⟩
      · cases hh
    have hp : posS x.form s.forms < s.forms.length := (List.getElem?_eq_some_iff.1 hg).1
    have hgl := (sf.2 g (List.mem_of_getElem? hg)).1
    have ct := c_gthere x s.ver s.forms 0 0 (by omega) (fun f hf => by have := (sf.2 f hf).1; omega) h9 g hg he
    rw [there_names h2 (by omega) h9 hfind hg] at ct
    simp only [madO, intsV, fldsV, frmsU] at ct
    simp only [ct, Option.bind_some, nbeq, decide_true, cond_true, u_asC, u_asA, u_asI, u_asS, u_asL, u_asUq, u_asN]
    by_cases h4 : ¬ (namesS s x = 0)
    · have h4' := bne_t h4
      have eo : onS s x = (sch0, namesS s x) := by unfold onS; rw [if_neg g0, if_pos h4]
      rw [eo]
      simp only [h4', cond_true, sch0, schV, frmsV, List.map_nil]
    have h4 : namesS s x = 0 := Classical.not_not.1 h4
    have h4' : (namesS s x != 0) = false := by simp [h4]
    simp only [h4', cond_false, t9]
    by_cases o10 : x.op = 10
    · have t10 : (x.op == 10) = true := by simpa using o10
      have o1 : x.op ≠ 1 := by omega
      have eo : onS s x = outS s ⟨x.form, []⟩ := by unfold onS; rw [if_neg g0, if_neg (by simp [h4]), if_neg h9, if_neg o1, if_pos o10]
      have cd := c_delG s.forms (posS x.form s.forms) hp
      have fn := forms_cut ⟨x.form, []⟩ s.forms (-1) rise hh
      have e1 := i64_succ (i := posS x.form s.forms) (by omega)
      have k3 := c_gOn_k3 s x s.ver (s.forms.take (posS x.form s.forms) ++ s.forms.drop (posS x.form s.forms + 1)) (sml8 _ (by simp; omega) (fun f hf => by
        simp only [List.mem_append] at hf
        rcases hf with hf | hf
        · have := (sf.2 f (List.mem_of_mem_take hf)).1; omega
        · have := (sf.2 f (List.mem_of_mem_drop hf)).1; omega))
      simp only [frmsU] at cd
      simp only [t10, cond_true, OA_dbl, q, OA_call, e1, cd, Option.bind_some, s_gOn_k1, u_asC, u_asUq, u_asN, OA_chk, k3, OA_both_id]
      have hne : (⟨x.form, []⟩ : Frm).fields.isEmpty = true := rfl
      rw [eo, outS, hne, fn]
    have t10 := beq_f o10
    simp only [t10, cond_false, q, cond_true, OA_call]
    have tail : ∀ nw : List Fld, (if schS ⟨s.ver, s.forms.set (posS x.form s.forms) ⟨g.id, nw⟩⟩ then ((⟨s.ver, s.forms.set (posS x.form s.forms) ⟨g.id, nw⟩⟩ : Sch), (0 : Int)) else (sch0, 7)) = if nw.isEmpty then (sch0, 7) else outS s ⟨x.form, nw⟩ := by
      intro nw
      have fn := forms_set ⟨x.form, nw⟩ s.forms (-1) rise hh
      rw [he]
      rcases bor nw.isEmpty with z | z
      · have : schS ⟨s.ver, s.forms.set (posS x.form s.forms) ⟨x.form, nw⟩⟩ = false := by
          cases hb : schS ⟨s.ver, s.forms.set (posS x.form s.forms) ⟨x.form, nw⟩⟩ with
          | false => rfl
          | true =>
            simp only [schS, Bool.and_eq_true] at hb
            have hm := risingS_all _ _ hb.2 ⟨x.form, nw⟩ (List.mem_set hp _)
            rw [fineS_iff] at hm
            have := hm.2.1.1
            cases nw with
            | nil => simp at this
            | cons a l => cases z
        rw [this, z]
        rfl
      · have hne : (⟨x.form, nw⟩ : Frm).fields.isEmpty = false := z
        rw [z, outS, hne, fn]
        rfl
    obtain ⟨j, g', e1, e2, e3, e4, e5, e6, e7, e8⟩ := names0 h4 h9
    have hj : j = posS x.form s.forms := by rw [hfind] at e1; omega
    subst hj
    have hgg : g' = g := by rw [hg] at e2; injection e2 with e2; exact e2.symm
    subst hgg
    have main : ∃ (e : Nat) (nw : List Fld) (b : Bool), atG x g' = (e : Int) ∧ nw.length ≤ 900 ∧ onS s x = (if b then (if nw.isEmpty then (sch0, 7) else outS s ⟨x.form, nw⟩) else (sch0, 17)) ∧
        tbl E0 39 [.ref 0 0] [(0, madO x s.ver s.forms (posS x.form s.forms) e)] = some ([.bool b], [(0, madO x s.ver (if b then s.forms.set (posS x.form s.forms) ⟨g'.id, nw⟩ else s.forms) (posS x.form s.forms) e)]) := by
      by_cases o1 : x.op = 1
      · obtain ⟨p1, p2⟩ := right_1 h2 o1
        have p3 := (e6 o1).1
        obtain ⟨k, hk⟩ : ∃ k : Nat, x.place = (k : Int) := ⟨x.place.toNat, by omega⟩
        have eo : onS s x = outS s ⟨x.form, putS g'.fields k [x.f]⟩ := by unfold onS; rw [if_neg g0, if_neg (by simp [h4]), if_neg h9, if_pos o1, e4, hk, Int.toNat_natCast]
        refine ⟨k, putS g'.fields k [x.f], true, by simp [atG, o1, hk], by rw [put_len]; simp; omega, ?_, ?_⟩
        · have : (putS g'.fields k [x.f]).isEmpty = false := by simp [putS]
          rw [eo, this]
          rfl
        · exact c_gchangeR x s.ver s.forms (posS x.form s.forms) k 0 g' [x.f] true hg (by omega) (by omega) (by omega) (by omega) (by simp) (c_gturned1 x s.ver s.forms _ _ o1)
      have hfield : fieldS x.op = true := by simp [fieldS, o1, h9, o10]
      obtain ⟨k, f, q1, q2⟩ := e5 hfield
      have hk : k < g'.fields.length := (List.getElem?_eq_some_iff.1 q2).1
      have hf : rgtS f = true := (sf.2 g' (List.mem_of_getElem? hg)).2 f (List.mem_of_getElem? q2)
      have ha : atG x g' = (k : Int) := by simp [atG, o1, o10, q1]
      have hC := cut_len hk
      have eo : onS s x = if (typesS f x).2 then (if (newS g'.fields x (typesS f x).1).isEmpty then (sch0, 7) else outS s ⟨x.form, newS g'.fields x (typesS f x).1⟩) else (sch0, 17) := by
        unfold onS
        rw [if_neg g0, if_neg (by simp [h4]), if_neg h9, if_neg o1, if_neg o10, e4, q1, Int.toNat_natCast, q2]
      by_cases o7 : x.op = 7
      · have p := right_7 h2 o7
        have p2 := e7 o7
        obtain ⟨n, hn⟩ : ∃ n : Nat, x.place = (n : Int) := ⟨x.place.toNat, by omega⟩
        have et : typesS f x = ([f], true) := by simp [typesS, o7]
        have enw : newS g'.fields x [f] = putS (cutS g'.fields k) n [f] := by simp only [newS, o7, if_true, hn, Int.toNat_natCast, q1]
        refine ⟨k, putS (cutS g'.fields k) n [f], true, ha, by rw [put_len]; simp; omega, ?_, ?_⟩
        · rw [eo, et, enw]
        · exact c_gchange7 x s.ver s.forms (posS x.form s.forms) k n g' f hg q2 o7 hn (by omega) (by omega)
      · have ops : x.op = 2 ∨ x.op = 3 ∨ x.op = 4 ∨ x.op = 5 ∨ x.op = 6 ∨ x.op = 8 := by
          have := right_10 h2 (by omega)
          omega
        obtain ⟨tt1, tt2⟩ := turned_types hf o7 ops
        have ct := c_gturned x s.ver s.forms (posS x.form s.forms) k g' f hg q2 (fun _ => hf) o1 (fun o6 => by have := right_6 h2 o6; omega)
        have tl : (turnedS f x).1.length ≤ 8 := by
          unfold turnedS
          repeat' split
          all_goals simp
        have enw : newS g'.fields x (turnedS f x).1 = g'.fields.take k ++ (turnedS f x).1 ++ g'.fields.drop (k + 1) := by
          simp only [newS, o7, if_false, Int.toNat_natCast, q1, putS, cutS]
          have e1 : (g'.fields.take k).length = k := by simp; omega
          rw [List.take_append_of_le_length (by omega), List.drop_append_of_le_length (by omega)]
          have e2 : (g'.fields.take k).drop k = [] := List.drop_eq_nil_of_le (by omega)
          rw [e2, List.take_take, Nat.min_self, List.nil_append]
        refine ⟨k, g'.fields.take k ++ (turnedS f x).1 ++ g'.fields.drop (k + 1), (turnedS f x).2, ha, by simp; omega, ?_, ?_⟩
        · rw [eo, tt1]
          rcases bor (typesS f x).2 with t | t
          · rw [t, ← tt2 t, enw]
          · rw [t]
            rfl
        · exact c_gchangeR x s.ver s.forms (posS x.form s.forms) k 1 g' (turnedS f x).1 (turnedS f x).2 hg o7 (by omega) (by omega) (by omega) tl ct
    obtain ⟨e, nw, b, ha, hl, hon, hc⟩ := main
    rw [ha, hon]
    simp only [madO, intsV, fldsV, frmsU] at hc
    simp only [hc, Option.bind_some, nbeq, decide_true, cond_true, u_asC, u_asA, u_asI, u_asS, u_asL, u_asUq, u_asN, u_asB]
    have k3 := c_gOn_k3 s x s.ver (s.forms.set (posS x.form s.forms) ⟨g'.id, nw⟩) (sml8 _ (by simp; omega) (fun f hf => by
      rcases List.mem_or_eq_of_mem_set hf with hf | hf
      · have := (sf.2 f hf).1; omega
      · subst hf; exact hl))
    rcases bor b with hb | hb
    · simp only [hb, Bool.not_true, cond_false, if_true, k3, tail nw]
    · simp [hb, sch0])
end Go.Proofs.Ytalpknofimglbaa.V
namespace Go.Proofs.Ytalpknofimglbaa.V
open Go
theorem c_gAllL (l : List Stp) (hl : l.length ≤ 1000) (hx : ∀ x ∈ l, x.sml ∧ x.ok) : ∀ (r : List Stp) (i : Nat) (s : Sch), l.drop i = r → Few s →
    ltbl E0 14 0 3 [stpsV l, .int .i64 l.length, .int .i64 i] [[.int .i64 0, frmsV []], [.int .i64 s.ver, frmsV s.forms]] =
      some (if (allS s i r).2.2 = 0 then (1, [], [[.int .i64 0, frmsV []], [.int .i64 (allS s i r).1.ver, frmsV (allS s i r).1.forms]]) else (0, [.int .i64 ((allS s i r).2.1 : Nat), .int .i64 (allS s i r).2.2], [[.int .i64 0, frmsV []]])) := by
  intro r
  induction r with
  | nil =>
    intro i s hr hs
    have h : l.length ≤ i := by simpa using hr
    refine t_gAllL _ _ _ _ ?_
    have : ¬ ((i : Int) < l.length) := by omega
    simp [s_gAllL, this, allS]
  | cons x r ih =>
    intro i s hr hs
    obtain ⟨hlt, hget, hr2⟩ := drop_c hr
    have h2 : (i : Int) < l.length := by omega
    have e1 := i64_succ (i := i) (by omega)
    have c := c_gOn s x hs (hx x (mem_drop hr)).1 (hx x (mem_drop hr)).2
    simp only [schV, frmsV, stpV, stpC, intsV, fldsV] at c
    refine t_gAllL _ _ _ _ ?_
    simp only [stpV, stpC, intsV, fldsV, frmsV, List.map_nil] at ih ⊢
    simp only [s_gAllL, OA_asm, List.length_map, h2, decide_true, cond_true, OA_chk, Int.natCast_nonneg, nthE, Int.toNat_natCast, List.getElem?_map, hget, Option.map_some, u_asA, u_asC, u_asI, u_asS, u_asL, u_asN, stpV, stpC, intsV, fldsV, OA_callx, c, Option.bind_some, e1, OA_dbl, OA_both_id]
    by_cases h : (onS s x).2 = 0
    · have h' : ((onS s x).2 != 0) = false := by simp [h]
      have e := ih (i + 1) (onS s x).1 hr2 (few_of (on_right h))
      simp only [h', cond_false, e, allS, if_pos h]
    · have h' := bne_t h
      simp only [h', cond_true, allS, if_neg h]
theorem all_err : ∀ (l : List Stp) (i : Nat) (s : Sch), ((allS s i l).2.2 = 0 → (allS s i l).2.1 = 0) ∧ ((allS s i l).2.2 ≠ 0 → (allS s i l).1 = sch0) := by
  intro l
  induction l with
  | nil => intro i s; simp [allS]
  | cons x l ih =>
    intro i s
    unfold allS
    by_cases h : (onS s x).2 = 0
    · rw [if_pos h]; exact ih _ _
    · rw [if_neg h]; exact ⟨fun h2 => absurd h2 h, fun _ => rfl⟩
theorem c_gAll (s : Sch) (l : List Stp) (hs : Few s) (hl : l.length ≤ 1000) (hx : ∀ x ∈ l, x.sml ∧ x.ok) : tbl E0 14 [schV s, stpsV l] [] = some ([schV (allS s 0 l).1, .int .i64 ((allS s 0 l).2.1 : Nat), .int .i64 (allS s 0 l).2.2], []) := t_gAll s l (by
  have c := c_gAllL l hl hx l 0 s rfl hs
  obtain ⟨z1, z2⟩ := all_err l 0 s
  have cc := c_gcopied s hs.1 hs.2
  simp only [Int.natCast_zero, stpsV, frmsV, List.map_nil] at c
  have ff := flat_frms s.forms
  simp only [frmsU, schV, frmsV] at cc
  simp only [s_gAll, OA_chk, cond_true, OA_call, OA_asm, List.length_map, cc, Option.bind_some, u_asC, u_asA, u_asI, u_asUq, u_asN, ff, OA_loop, c]
  by_cases h : (allS s 0 l).2.2 = 0
  · simp [h, z1 h]
  · simp [h, z2 h, sch0])
end Go.Proofs.Ytalpknofimglbaa.V
namespace Go.Proofs.Ytalpknofimglbaa.V
open Go
def stpN : Stp := ⟨0, 0, 0, 0, 0, 0, 0, fld0, 0, [], [], []⟩
def ownAt (s : Sch) (x : Stp) : Fld := match (oldS s x)[(atS (oldS s x) x.field).toNat]? with | some f => f | none => fld0
def backOf (s : Sch) (x : Stp) : Stp :=
  if x.op = 9 then ⟨29, x.form, 0, 0, 0, 0, 0, fld0, 0, [], [], []⟩
  else if x.op = 10 then ⟨30, x.form, 0, 0, 0, 0, 0, fld0, 0, [], [], oldS s x⟩
  else if x.op = 1 then ⟨21, x.form, x.f.id, 0, 0, 0, 0, fld0, 0, [], [], []⟩
  else if x.op = 2 then ⟨22, x.form, 0, atS (oldS s x) x.field, 0, 0, 0, ownAt s x, x.n, x.s, [], []⟩
  else if x.op = 3 then ⟨23, x.form, x.field, 0, 0, 0, 0, ownAt s x, 0, [], [], []⟩
  else if x.op = 4 then ⟨24, x.form, x.field, 0, 0, x.a, x.b, ownAt s x, 0, [], [], []⟩
  else if x.op = 5 then ⟨25, x.form, x.field, 0, 0, 0, 0, fld0, 0, [], x.t, []⟩
  else if x.op = 6 then ⟨26, x.form, x.field, 0, x.to, x.a, 0, ownAt s x, 0, [], [], []⟩
  else if x.op = 7 then ⟨27, x.form, x.field, atS (oldS s x) x.field, 0, 0, 0, fld0, 0, [], [], []⟩
  else ⟨28, x.form, x.to, 0, x.field, 0, 0, fld0, 0, [], [], []⟩
def invS (s : Sch) (x : Stp) : Stp × Int := if (onS s x).2 = 0 then (backOf s x, 0) else (stpN, (onS s x).2)
def backS (s : Sch) (out : List Stp) : List Stp → List Stp × Int
  | [] => (out, 0)
  | x :: l => if (onS s x).2 = 0 then backS (onS s x).1 (backOf s x :: out) l else ([], (onS s x).2)
def trailS (s : Sch) : List Stp → List Stp
  | [] => []
  | x :: l => backOf s x :: trailS (onS s x).1 l
def likeN : List Stp → List Stp → Nat
  | a :: l, b :: r => if a = b then likeN l r + 1 else 0
  | _, _ => 0
theorem back_all : ∀ (l : List Stp) (i : Nat) (s : Sch) (out : List Stp), (backS s out l).2 = (allS s i l).2.2
  | [], i, s, out => rfl
  | x :: l, i, s, out => by
    unfold backS allS
    by_cases h : (onS s x).2 = 0
    · rw [if_pos h, if_pos h]; exact back_all l (i + 1) _ _
    · rw [if_neg h, if_neg h]
theorem back_err : ∀ (l : List Stp) (s : Sch) (out : List Stp), (backS s out l).2 ≠ 0 → (backS s out l).1 = []
  | [], s, out, h => absurd rfl h
  | x :: l, s, out, h => by
    unfold backS at h ⊢
    by_cases e : (onS s x).2 = 0
    · rw [if_pos e] at h ⊢; exact back_err l _ _ h
    · rw [if_neg e]
theorem back_eq : ∀ (l : List Stp) (s : Sch) (out : List Stp), (backS s out l).2 = 0 → (backS s out l).1 = (trailS s l).reverse ++ out
  | [], s, out, h => rfl
  | x :: l, s, out, h => by
    unfold backS at h ⊢
    by_cases e : (onS s x).2 = 0
    · rw [if_pos e] at h ⊢
      rw [back_eq l _ _ h, trailS]
      simp
    · rw [if_neg e] at h; exact absurd h e
theorem trail_len : ∀ (l : List Stp) (s : Sch), (trailS s l).length = l.length
  | [], s => rfl
  | x :: l, s => by rw [trailS, List.length_cons, trail_len l, List.length_cons]
theorem at_id {l : List Fld} {id : Int} {k : Nat} {f : Fld} (h : atS l id = (k : Int)) (hk : l[k]? = some f) : f.id = id := by
  rcases first_get (p := fun f : Fld => f.id == id) (l := l) with ⟨j, g, q1, q2, q3⟩ | q1
  · have q1 : atS l id = (j : Int) := q1
    have : j = k := by omega
    subst this
    rw [q2] at hk
    injection hk with hk
    subst hk
    simpa using q3
  · have q1 : atS l id = -1 := q1
    omega
theorem on_field {s : Sch} {x : Stp} (h : (onS s x).2 = 0) (h1 : x.op ≠ 1) (h9 : x.op ≠ 9) (h10 : x.op ≠ 10) : ∃ (k : Nat) (f : Fld), atS (oldS s x) x.field = (k : Int) ∧ (oldS s x)[k]? = some f ∧ f.id = x.field ∧ rgtS f = true ∧ ownAt s x = f ∧ k ≤ 7 ∧ (typesS f x).2 = true := by
  obtain ⟨_, _, _, _, hs, h4, hr, hle⟩ := on_out h
  obtain ⟨j, g, e1, e2, e3, e4, e5, _⟩ := names0 h4 h9
  obtain ⟨k, f, q1, q2⟩ := e5 (by simp [fieldS, h1, h9, h10])
  have sf := schS_few hs
  have hg := sf.2 g (List.mem_of_getElem? e2)
  have hk := (List.getElem?_eq_some_iff.1 q2).1
  refine ⟨k, f, by rw [e4]; exact q1, by rw [e4]; exact q2, at_id q1 q2, hg.2 f (List.mem_of_getElem? q2), ?_, by omega, ?_⟩
  · unfold ownAt
    rw [e4, q1, Int.toNat_natCast, q2]
  · have g0 : ¬ (!(schS s) || (!(tRightS x) || decide (10 < x.op))) = true := by simp [hs, hr]; omega
    cases ht : (typesS f x).2 with
    | true => rfl
    | false =>
      exfalso
      unfold onS at h
      rw [if_neg g0, if_neg (by simp [h4]), if_neg h9, if_neg h1, if_neg h10, e4, q1, Int.toNat_natCast, q2] at h
      simp [ht] at h
theorem on_old {s : Sch} {x : Stp} (h : (onS s x).2 = 0) (h9 : x.op ≠ 9) : fineS ⟨x.form, oldS s x⟩ = true := by
  obtain ⟨_, _, _, _, hs, h4, hr, hle⟩ := on_out h
  obtain ⟨j, g, e1, e2, e3, e4, e5, _⟩ := names0 h4 h9
  simp only [schS, Bool.and_eq_true] at hs
  have := risingS_all _ _ hs.2 g (List.mem_of_getElem? e2)
  rw [e4, ← e3]
  exact this
theorem backOf_right {s : Sch} {x : Stp} (h : (onS s x).2 = 0) : tRightS (backOf s x) = true ∧ (backOf s x).op = x.op + 20 := by
  obtain ⟨_, _, _, _, hs, h4, hr, hle⟩ := on_out h
  have hf : 0 ≤ x.form ∧ x.form ≤ 200 := by
    have h0 : (0 : Int) ∈ usesS x.op := by
      rcases right_10 hr hle with o | o | o | o | o | o | o | o | o | o <;> rw [o] <;> decide
    have := right_op hr 0 h0
    simpa [fitsS, inS] using this
  have fld : (1 : Int) ∈ usesS x.op → 0 ≤ x.field ∧ x.field ≤ 255 := by
    intro hm
    have := right_op hr 1 hm
    simpa [fitsS, inS] using this
  rcases right_10 hr hle with o | o | o | o | o | o | o | o | o | o
  · have h6 := (right_1 hr o).2
    have : 0 ≤ x.f.id ∧ x.f.id ≤ 255 := by
      simp only [rgtS, Bool.and_eq_true, decide_eq_true_eq] at h6
      exact h6.1
    simp [backOf, o, tRightS, usesS, fitsS, onlyS, hasS, inS, hf, this]
  · obtain ⟨k, f, q1, q2, q3, q4, q5, q6, q7⟩ := on_field h (by omega) (by omega) (by omega)
    simp only [typesS, o, if_true] at q7
    simp [backOf, o, tRightS, usesS, fitsS, onlyS, hasS, inS, hf, q1, q4, q5, q7]
    omega
  · obtain ⟨k, f, q1, q2, q3, q4, q5, q6, q7⟩ := on_field h (by omega) (by omega) (by omega)
    have := fld (by rw [o]; decide)
    simp [backOf, o, tRightS, usesS, fitsS, onlyS, hasS, inS, hf, this, q1, q3, q4, q5]
  · obtain ⟨k, f, q1, q2, q3, q4, q5, q6, q7⟩ := on_field h (by omega) (by omega) (by omega)
    have := fld (by rw [o]; decide)
    have h5 := right_op hr 5 (by rw [o]; decide)
    simp [fitsS, inS] at h5
    simp [backOf, o, tRightS, usesS, fitsS, onlyS, hasS, inS, hf, this, q1, q3, q4, q5, h5]
  · have := fld (by rw [o]; decide)
    have h5 := right_op hr 4 (by rw [o]; decide)
    have h8 := right_op hr 8 (by rw [o]; decide)
    simp [fitsS, inS, o] at h5 h8
    have h9 : apartS x.t 1000 = true := by
      simp only [apartS, Bool.and_eq_true, List.all_eq_true] at h8 ⊢
      refine ⟨⟨fun n hn => ?_, h8.1.2⟩, h8.2⟩
      have := h8.1.1 n hn
      simp [inS] at this ⊢
      omega
    simp [backOf, o, tRightS, usesS, fitsS, onlyS, hasS, inS, hf, this, h9]
  · obtain ⟨k, f, q1, q2, q3, q4, q5, q6, q7⟩ := on_field h (by omega) (by omega) (by omega)
    have := fld (by rw [o]; decide)
    have h5 := right_op hr 4 (by rw [o]; decide)
    have h3 := right_op hr 3 (by rw [o]; decide)
    simp [fitsS, inS, o] at h5 h3
    simp [backOf, o, tRightS, usesS, fitsS, onlyS, hasS, inS, hf, this, q1, q3, q4, q5, h5, h3]
  · obtain ⟨k, f, q1, q2, q3, q4, q5, q6, q7⟩ := on_field h (by omega) (by omega) (by omega)
    have := fld (by rw [o]; decide)
    simp [backOf, o, tRightS, usesS, fitsS, onlyS, hasS, inS, hf, this, q1]
    omega
  · have := fld (by rw [o]; decide)
    have h3 := right_op hr 3 (by rw [o]; decide)
    simp [fitsS, inS, o] at h3
    simp [backOf, o, tRightS, usesS, fitsS, onlyS, hasS, inS, hf, this, h3]
    exact fun e => h3.2 e.symm
  · simp [backOf, o, tRightS, usesS, fitsS, onlyS, hasS, inS, hf]
  · have := on_old h (by omega)
    simp [backOf, o, tRightS, usesS, fitsS, onlyS, hasS, inS, hf, this]
theorem trail_get : ∀ (l : List Stp) (i : Nat) (s : Sch), (allS s i l).2.2 = 0 → ∀ (j : Nat) (x : Stp), l[j]? = some x → ∃ y, (trailS s l)[j]? = some y ∧ tRightS y = true ∧ y.op = x.op + 20 ∧ 1 ≤ x.op ∧ x.op ≤ 10
  | [], i, s, h, j, x, hx => by simp at hx
  | a :: l, i, s, h, j, x, hx => by
    unfold allS at h
    by_cases e : (onS s a).2 = 0
    · rw [if_pos e] at h
      cases j with
      | zero =>
        simp only [List.getElem?_cons_zero, Option.some.injEq] at hx
        subst hx
        obtain ⟨b1, b2⟩ := backOf_right e
        obtain ⟨_, _, _, _, hs, h4, hr, hle⟩ := on_out e
        have := right_10 hr hle
        exact ⟨_, rfl, b1, b2, by omega, hle⟩
      | succ j =>
        rw [List.getElem?_cons_succ] at hx
        rw [trailS, List.getElem?_cons_succ]
        exact trail_get l (i + 1) _ h j x hx
    · rw [if_neg e] at h; exact absurd h e
theorem like_le : ∀ (a b : List Stp), likeN a b ≤ a.length ∧ likeN a b ≤ b.length
  | [], b => by simp [likeN]
  | x :: l, [] => by simp [likeN]
  | x :: l, y :: r => by
    have := like_le l r
    unfold likeN
    split <;> simp <;> omega
theorem like_all : ∀ (a b : List Stp), max a.length b.length ≤ likeN a b ↔ a = b
  | [], [] => by simp [likeN]
  | [], y :: r => by simp [likeN]
  | x :: l, [] => by simp [likeN]
  | x :: l, y :: r => by
    have ih := like_all l r
    unfold likeN
    by_cases e : x = y
    · rw [if_pos e]
      subst e
      simp only [List.length_cons, List.cons.injEq, true_and]
      rw [← ih]
      omega
    · rw [if_neg e]
      simp [e]
end Go.Proofs.Ytalpknofimglbaa.V
