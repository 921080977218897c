/- Part 4 of the proof that: Whether any manifest may be, and whether two are the same, is as the document says. -/
import Derived.Test.YtmpfeofeokmooaaKBc
set_option linter.unusedVariables false
set_option linter.unusedSimpArgs false
namespace Go.Proofs.Ytmpfeofeokmooaa.V
open Go
open AV (int lst agg str bool ref clo)
open List (map)
def s_tuses {α : Type} (A : Alg α) (op : Int) (kc : List AV → List (Nat × List AV) → α) : α :=
  bif (op == (1 : Int)) then (A.loop 1000004 [int .i64 op, bool true] [] fun j0 l1 l2 => bif (j0.beq 50001) then (asN A l1 (asN A l2 (kc [lst .ro 1 []] []))) else (bif (j0.beq 0) then (asC A l1 fun v3 l4 => asL A 1 v3 fun l5 => asN A l4 (asN A l2 (kc [lst .ro 1 l5] []))) else A.fail)) else (A.loop 1000004 [int .i64 op, bool (op == (22 : Int))] [] fun j6 l7 l8 => bif (j6.beq 50001) then (asN A l7 (asN A l8 (kc [lst .ro 1 []] []))) else (bif (j6.beq 0) then (asC A l7 fun v9 l10 => asL A 1 v9 fun l11 => asN A l10 (asN A l8 (kc [lst .ro 1 l11] []))) else A.fail))
def s_tusesA {α : Type} (A : Alg α) (op : Int) (b : Bool) (next : List AV → List (List AV) → α) (kc : Nat → List AV → List (List AV) → α) : α :=
  bif b then (kc 0 [lst .ro 1 [int .i64 0, int .i64 2, int .i64 6, int .i64 7]] []) else (bif (op == (2 : Int)) then (kc 0 [lst .ro 1 [int .i64 0, int .i64 1, int .i64 7]] []) else (bif (op == (3 : Int)) then (A.loop 1000009 [int .i64 op, bool true] [] fun j0 l1 l2 => bif (j0.beq 50001) then (asN A l1 (asN A l2 (kc 50001 [] []))) else (bif (j0.beq 0) then (asC A l1 fun v3 l4 => asL A 1 v3 fun l5 => asN A l4 (asN A l2 (kc 0 [lst .ro 1 l5] []))) else A.fail)) else (A.loop 1000009 [int .i64 op, bool (op == (23 : Int))] [] fun j6 l7 l8 => bif (j6.beq 50001) then (asN A l7 (asN A l8 (kc 50001 [] []))) else (bif (j6.beq 0) then (asC A l7 fun v9 l10 => asL A 1 v9 fun l11 => asN A l10 (asN A l8 (kc 0 [lst .ro 1 l11] []))) else A.fail))))
def s_tusesB {α : Type} (A : Alg α) (op : Int) (b : Bool) (next : List AV → List (List AV) → α) (kc : Nat → List AV → List (List AV) → α) : α :=
  bif b then (kc 0 [lst .ro 1 [int .i64 0, int .i64 1, int .i64 6]] []) else (bif (op == (4 : Int)) then (kc 0 [lst .ro 1 [int .i64 0, int .i64 1, int .i64 5]] []) else (bif (op == (24 : Int)) then (kc 0 [lst .ro 1 [int .i64 0, int .i64 1, int .i64 5, int .i64 6]] []) else (bif (op == (5 : Int)) then (kc 0 [lst .ro 1 [int .i64 0, int .i64 1, int .i64 4, int .i64 8]] []) else (bif (op == (25 : Int)) then (kc 0 [lst .ro 1 [int .i64 0, int .i64 1, int .i64 8]] []) else (bif (op == (6 : Int)) then (kc 0 [lst .ro 1 [int .i64 0, int .i64 1, int .i64 4, int .i64 3]] []) else (bif (op == (26 : Int)) then (kc 0 [lst .ro 1 [int .i64 0, int .i64 1, int .i64 4, int .i64 3, int .i64 6]] []) else (bif (op == (7 : Int)) then (kc 0 [lst .ro 1 [int .i64 0, int .i64 1, int .i64 2]] []) else (bif (op == (27 : Int)) then (kc 0 [lst .ro 1 [int .i64 0, int .i64 1, int .i64 2]] []) else (bif (op == (8 : Int)) then (kc 0 [lst .ro 1 [int .i64 0, int .i64 1, int .i64 3]] []) else (bif (op == (28 : Int)) then (kc 0 [lst .ro 1 [int .i64 0, int .i64 1, int .i64 3]] []) else (bif (op == (9 : Int)) then (kc 0 [lst .ro 1 [int .i64 0, int .i64 9]] []) else (bif (op == (30 : Int)) then (kc 0 [lst .ro 1 [int .i64 0, int .i64 9]] []) else (bif (op == (10 : Int)) then (kc 0 [lst .ro 1 [int .i64 0]] []) else (bif (op == (29 : Int)) then (kc 0 [lst .ro 1 [int .i64 0]] []) else (bif (op == (21 : Int)) then (kc 0 [lst .ro 1 [int .i64 0, int .i64 1]] []) else (kc 50001 [] []))))))))))))))))
def s_tin {α : Type} (A : Alg α) (n : Int) (lo : Int) (hi : Int) (kc : List AV → List (Nat × List AV) → α) : α :=
  A.join (fun x0 => bif (decide (n ≥ lo)) then (x0 (decide (n ≤ hi))) else (x0 false)) fun b1 => kc [bool b1] []
def s_tonly {α : Type} (A : Alg α) (x : Stp) (kc : List AV → List (Nat × List AV) → α) : α :=
  A.chk true (A.chk true (A.chk true (A.chk true (A.callx 105 [int .i64 x.op] fun l0 => asC A l0 fun v1 l2 => asL A 1 v1 fun l3 => asN A l2 (A.asm (l3.length ≤ maxL) (A.loop 3 [lst .ro 1 l3, int .i64 (↑l3.length : Int), int .i64 0] [[int .i64 x.op, int .i64 x.form, int .i64 x.field, int .i64 x.place, int .i64 x.to, int .i64 x.a, int .i64 x.b, int .i64 x.f.id, int .i64 x.f.kind, int .i64 x.f.lo, int .i64 x.f.hi, int .i64 x.f.most, int .i64 x.n, str x.s, lst .ro 1 (map (fun n => int .i64 n) x.t), lst .ro 5 (map fldV x.fields)], [int .i64 0, int .i64 0, int .i64 0, int .i64 0, int .i64 0, int .i64 0, int .i64 0, int .i64 0, int .i64 0, int .i64 0, int .i64 0, int .i64 0, int .i64 0, str [], lst .ro 1 [], lst .ro 5 []], [int .i64 x.op, int .i64 0, int .i64 0, int .i64 0, int .i64 0, int .i64 0, int .i64 0, int .i64 0, int .i64 0, int .i64 0, int .i64 0, int .i64 0, int .i64 0, str [], lst .ro 1 [], lst .ro 5 []]] fun j4 l5 l6 => bif (j4.beq 1) then (asN A l5 (asC A l6 fun l7 l8 => asC A l7 fun v9 l10 => asI A .i64 v9 fun n11 => asC A l10 fun v12 l13 => asI A .i64 v12 fun n14 => asC A l13 fun v15 l16 => asI A .i64 v15 fun n17 => asC A l16 fun v18 l19 => asI A .i64 v18 fun n20 => asC A l19 fun v21 l22 => asI A .i64 v21 fun n23 => asC A l22 fun v24 l25 => asI A .i64 v24 fun n26 => asC A l25 fun v27 l28 => asI A .i64 v27 fun n29 => asC A l28 fun v30 l31 => asI A .i64 v30 fun n32 => asC A l31 fun v33 l34 => asI A .i64 v33 fun n35 => asC A l34 fun v36 l37 => asI A .i64 v36 fun n38 => asC A l37 fun v39 l40 => asI A .i64 v39 fun n41 => asC A l40 fun v42 l43 => asI A .i64 v42 fun n44 => asC A l43 fun v45 l46 => asI A .i64 v45 fun n47 => asC A l46 fun v48 l49 => asS A v48 fun l50 => asC A l49 fun v51 l52 => asL A 1 v51 fun l53 => asC A l52 fun v54 l55 => asL A 5 v54 fun l56 => asN A l55 (asC A l8 fun l57 l58 => asC A l57 fun v59 l60 => asI A .i64 v59 fun n61 => asC A l60 fun v62 l63 => asI A .i64 v62 fun n64 => asC A l63 fun v65 l66 => asI A .i64 v65 fun n67 => asC A l66 fun v68 l69 => asI A .i64 v68 fun n70 => asC A l69 fun v71 l72 => asI A .i64 v71 fun n73 => asC A l72 fun v74 l75 => asI A .i64 v74 fun n76 => asC A l75 fun v77 l78 => asI A .i64 v77 fun n79 => asC A l78 fun v80 l81 => asI A .i64 v80 fun n82 => asC A l81 fun v83 l84 => asI A .i64 v83 fun n85 => asC A l84 fun v86 l87 => asI A .i64 v86 fun n88 => asC A l87 fun v89 l90 => asI A .i64 v89 fun n91 => asC A l90 fun v92 l93 => asI A .i64 v92 fun n94 => asC A l93 fun v95 l96 => asI A .i64 v95 fun n97 => asC A l96 fun v98 l99 => asS A v98 fun l100 => asC A l99 fun v101 l102 => asL A 1 v101 fun l103 => asC A l102 fun v104 l105 => asL A 5 v104 fun l106 => asN A l105 (asN A l58 (A.chk true (A.chk true (A.chk true (A.chk true (kc [agg [int .i64 n61, int .i64 n64, int .i64 n67, int .i64 n70, int .i64 n73, int .i64 n76, int .i64 n79, int .i64 n82, int .i64 n85, int .i64 n88, int .i64 n91, int .i64 n94, int .i64 n97, str l100, lst .ro 1 l103, lst .ro 5 l106]] []))))))))) else A.fail))))))
def s_tonlyL {α : Type} (A : Alg α) (x : Stp) (y : Stp) (z : Stp) (l : List Int) (m : Int) (i : Int) (next : List AV → List (List AV) → α) (kc : Nat → List AV → List (List AV) → α) : α :=
  bif (decide (i < m)) then (A.chk (decide ((0 : Int) ≤ i)) (nthE A (map (fun n => int .i64 n) l) i.toNat fun v0 => asI A .i64 v0 fun n1 => bif (n1 == (0 : Int)) then (A.chk true (next [lst .ro 1 (map (fun n => int .i64 n) l), int .i64 m, int .i64 (IntKind.i64.wrap (i + (1 : Int)))] [[int .i64 x.op, int .i64 x.form, int .i64 x.field, int .i64 x.place, int .i64 x.to, int .i64 x.a, int .i64 x.b, int .i64 x.f.id, int .i64 x.f.kind, int .i64 x.f.lo, int .i64 x.f.hi, int .i64 x.f.most, int .i64 x.n, str x.s, lst .ro 1 (map (fun n => int .i64 n) x.t), lst .ro 5 (map fldV x.fields)], [int .i64 y.op, int .i64 y.form, int .i64 y.field, int .i64 y.place, int .i64 y.to, int .i64 y.a, int .i64 y.b, int .i64 y.f.id, int .i64 y.f.kind, int .i64 y.f.lo, int .i64 y.f.hi, int .i64 y.f.most, int .i64 y.n, str y.s, lst .ro 1 (map (fun n => int .i64 n) y.t), lst .ro 5 (map fldV y.fields)], [int .i64 z.op, int .i64 x.form, int .i64 z.field, int .i64 z.place, int .i64 z.to, int .i64 z.a, int .i64 z.b, int .i64 z.f.id, int .i64 z.f.kind, int .i64 z.f.lo, int .i64 z.f.hi, int .i64 z.f.most, int .i64 z.n, str z.s, lst .ro 1 (map (fun n => int .i64 n) z.t), lst .ro 5 (map fldV z.fields)]])) else (bif (n1 == (1 : Int)) then (A.chk true (next [lst .ro 1 (map (fun n => int .i64 n) l), int .i64 m, int .i64 (IntKind.i64.wrap (i + (1 : Int)))] [[int .i64 x.op, int .i64 x.form, int .i64 x.field, int .i64 x.place, int .i64 x.to, int .i64 x.a, int .i64 x.b, int .i64 x.f.id, int .i64 x.f.kind, int .i64 x.f.lo, int .i64 x.f.hi, int .i64 x.f.most, int .i64 x.n, str x.s, lst .ro 1 (map (fun n => int .i64 n) x.t), lst .ro 5 (map fldV x.fields)], [int .i64 y.op, int .i64 y.form, int .i64 y.field, int .i64 y.place, int .i64 y.to, int .i64 y.a, int .i64 y.b, int .i64 y.f.id, int .i64 y.f.kind, int .i64 y.f.lo, int .i64 y.f.hi, int .i64 y.f.most, int .i64 y.n, str y.s, lst .ro 1 (map (fun n => int .i64 n) y.t), lst .ro 5 (map fldV y.fields)], [int .i64 z.op, int .i64 z.form, int .i64 x.field, int .i64 z.place, int .i64 z.to, int .i64 z.a, int .i64 z.b, int .i64 z.f.id, int .i64 z.f.kind, int .i64 z.f.lo, int .i64 z.f.hi, int .i64 z.f.most, int .i64 z.n, str z.s, lst .ro 1 (map (fun n => int .i64 n) z.t), lst .ro 5 (map fldV z.fields)]])) else (bif (n1 == (2 : Int)) then (A.chk true (next [lst .ro 1 (map (fun n => int .i64 n) l), int .i64 m, int .i64 (IntKind.i64.wrap (i + (1 : Int)))] [[int .i64 x.op, int .i64 x.form, int .i64 x.field, int .i64 x.place, int .i64 x.to, int .i64 x.a, int .i64 x.b, int .i64 x.f.id, int .i64 x.f.kind, int .i64 x.f.lo, int .i64 x.f.hi, int .i64 x.f.most, int .i64 x.n, str x.s, lst .ro 1 (map (fun n => int .i64 n) x.t), lst .ro 5 (map fldV x.fields)], [int .i64 y.op, int .i64 y.form, int .i64 y.field, int .i64 y.place, int .i64 y.to, int .i64 y.a, int .i64 y.b, int .i64 y.f.id, int .i64 y.f.kind, int .i64 y.f.lo, int .i64 y.f.hi, int .i64 y.f.most, int .i64 y.n, str y.s, lst .ro 1 (map (fun n => int .i64 n) y.t), lst .ro 5 (map fldV y.fields)], [int .i64 z.op, int .i64 z.form, int .i64 z.field, int .i64 x.place, int .i64 z.to, int .i64 z.a, int .i64 z.b, int .i64 z.f.id, int .i64 z.f.kind, int .i64 z.f.lo, int .i64 z.f.hi, int .i64 z.f.most, int .i64 z.n, str z.s, lst .ro 1 (map (fun n => int .i64 n) z.t), lst .ro 5 (map fldV z.fields)]])) else (bif (n1 == (3 : Int)) then (A.chk true (next [lst .ro 1 (map (fun n => int .i64 n) l), int .i64 m, int .i64 (IntKind.i64.wrap (i + (1 : Int)))] [[int .i64 x.op, int .i64 x.form, int .i64 x.field, int .i64 x.place, int .i64 x.to, int .i64 x.a, int .i64 x.b, int .i64 x.f.id, int .i64 x.f.kind, int .i64 x.f.lo, int .i64 x.f.hi, int .i64 x.f.most, int .i64 x.n, str x.s, lst .ro 1 (map (fun n => int .i64 n) x.t), lst .ro 5 (map fldV x.fields)], [int .i64 y.op, int .i64 y.form, int .i64 y.field, int .i64 y.place, int .i64 y.to, int .i64 y.a, int .i64 y.b, int .i64 y.f.id, int .i64 y.f.kind, int .i64 y.f.lo, int .i64 y.f.hi, int .i64 y.f.most, int .i64 y.n, str y.s, lst .ro 1 (map (fun n => int .i64 n) y.t), lst .ro 5 (map fldV y.fields)], [int .i64 z.op, int .i64 z.form, int .i64 z.field, int .i64 z.place, int .i64 x.to, int .i64 z.a, int .i64 z.b, int .i64 z.f.id, int .i64 z.f.kind, int .i64 z.f.lo, int .i64 z.f.hi, int .i64 z.f.most, int .i64 z.n, str z.s, lst .ro 1 (map (fun n => int .i64 n) z.t), lst .ro 5 (map fldV z.fields)]])) else (bif (n1 == (5 : Int)) then (A.chk true (A.chk true (next [lst .ro 1 (map (fun n => int .i64 n) l), int .i64 m, int .i64 (IntKind.i64.wrap (i + (1 : Int)))] [[int .i64 x.op, int .i64 x.form, int .i64 x.field, int .i64 x.place, int .i64 x.to, int .i64 x.a, int .i64 x.b, int .i64 x.f.id, int .i64 x.f.kind, int .i64 x.f.lo, int .i64 x.f.hi, int .i64 x.f.most, int .i64 x.n, str x.s, lst .ro 1 (map (fun n => int .i64 n) x.t), lst .ro 5 (map fldV x.fields)], [int .i64 y.op, int .i64 y.form, int .i64 y.field, int .i64 y.place, int .i64 y.to, int .i64 y.a, int .i64 y.b, int .i64 y.f.id, int .i64 y.f.kind, int .i64 y.f.lo, int .i64 y.f.hi, int .i64 y.f.most, int .i64 y.n, str y.s, lst .ro 1 (map (fun n => int .i64 n) y.t), lst .ro 5 (map fldV y.fields)], [int .i64 z.op, int .i64 z.form, int .i64 z.field, int .i64 z.place, int .i64 z.to, int .i64 x.a, int .i64 x.b, int .i64 z.f.id, int .i64 z.f.kind, int .i64 z.f.lo, int .i64 z.f.hi, int .i64 z.f.most, int .i64 z.n, str z.s, lst .ro 1 (map (fun n => int .i64 n) z.t), lst .ro 5 (map fldV z.fields)]]))) else (bif (n1 == (4 : Int)) then (A.chk true (next [lst .ro 1 (map (fun n => int .i64 n) l), int .i64 m, int .i64 (IntKind.i64.wrap (i + (1 : Int)))] [[int .i64 x.op, int .i64 x.form, int .i64 x.field, int .i64 x.place, int .i64 x.to, int .i64 x.a, int .i64 x.b, int .i64 x.f.id, int .i64 x.f.kind, int .i64 x.f.lo, int .i64 x.f.hi, int .i64 x.f.most, int .i64 x.n, str x.s, lst .ro 1 (map (fun n => int .i64 n) x.t), lst .ro 5 (map fldV x.fields)], [int .i64 y.op, int .i64 y.form, int .i64 y.field, int .i64 y.place, int .i64 y.to, int .i64 y.a, int .i64 y.b, int .i64 y.f.id, int .i64 y.f.kind, int .i64 y.f.lo, int .i64 y.f.hi, int .i64 y.f.most, int .i64 y.n, str y.s, lst .ro 1 (map (fun n => int .i64 n) y.t), lst .ro 5 (map fldV y.fields)], [int .i64 z.op, int .i64 z.form, int .i64 z.field, int .i64 z.place, int .i64 z.to, int .i64 x.a, int .i64 z.b, int .i64 z.f.id, int .i64 z.f.kind, int .i64 z.f.lo, int .i64 z.f.hi, int .i64 z.f.most, int .i64 z.n, str z.s, lst .ro 1 (map (fun n => int .i64 n) z.t), lst .ro 5 (map fldV z.fields)]])) else (bif (n1 == (6 : Int)) then (A.chk true (A.chk true (A.chk true (next [lst .ro 1 (map (fun n => int .i64 n) l), int .i64 m, int .i64 (IntKind.i64.wrap (i + (1 : Int)))] [[int .i64 x.op, int .i64 x.form, int .i64 x.field, int .i64 x.place, int .i64 x.to, int .i64 x.a, int .i64 x.b, int .i64 x.f.id, int .i64 x.f.kind, int .i64 x.f.lo, int .i64 x.f.hi, int .i64 x.f.most, int .i64 x.n, str x.s, lst .ro 1 (map (fun n => int .i64 n) x.t), lst .ro 5 (map fldV x.fields)], [int .i64 y.op, int .i64 y.form, int .i64 y.field, int .i64 y.place, int .i64 y.to, int .i64 y.a, int .i64 y.b, int .i64 y.f.id, int .i64 y.f.kind, int .i64 y.f.lo, int .i64 y.f.hi, int .i64 y.f.most, int .i64 y.n, str y.s, lst .ro 1 (map (fun n => int .i64 n) y.t), lst .ro 5 (map fldV y.fields)], [int .i64 z.op, int .i64 z.form, int .i64 z.field, int .i64 z.place, int .i64 z.to, int .i64 z.a, int .i64 z.b, int .i64 x.f.id, int .i64 x.f.kind, int .i64 x.f.lo, int .i64 x.f.hi, int .i64 x.f.most, int .i64 z.n, str z.s, lst .ro 1 (map (fun n => int .i64 n) z.t), lst .ro 5 (map fldV z.fields)]])))) else (bif (n1 == (7 : Int)) then (A.chk true (A.chk true (A.chk true (next [lst .ro 1 (map (fun n => int .i64 n) l), int .i64 m, int .i64 (IntKind.i64.wrap (i + (1 : Int)))] [[int .i64 x.op, int .i64 x.form, int .i64 x.field, int .i64 x.place, int .i64 x.to, int .i64 x.a, int .i64 x.b, int .i64 x.f.id, int .i64 x.f.kind, int .i64 x.f.lo, int .i64 x.f.hi, int .i64 x.f.most, int .i64 x.n, str x.s, lst .ro 1 (map (fun n => int .i64 n) x.t), lst .ro 5 (map fldV x.fields)], [int .i64 y.op, int .i64 y.form, int .i64 y.field, int .i64 y.place, int .i64 y.to, int .i64 y.a, int .i64 y.b, int .i64 y.f.id, int .i64 y.f.kind, int .i64 y.f.lo, int .i64 y.f.hi, int .i64 y.f.most, int .i64 y.n, str y.s, lst .ro 1 (map (fun n => int .i64 n) y.t), lst .ro 5 (map fldV y.fields)], [int .i64 z.op, int .i64 z.form, int .i64 z.field, int .i64 z.place, int .i64 z.to, int .i64 z.a, int .i64 z.b, int .i64 z.f.id, int .i64 z.f.kind, int .i64 z.f.lo, int .i64 z.f.hi, int .i64 z.f.most, int .i64 x.n, str x.s, lst .ro 1 (map (fun n => int .i64 n) z.t), lst .ro 5 (map fldV z.fields)]])))) else (bif (n1 == (8 : Int)) then (A.chk true (next [lst .ro 1 (map (fun n => int .i64 n) l), int .i64 m, int .i64 (IntKind.i64.wrap (i + (1 : Int)))] [[int .i64 x.op, int .i64 x.form, int .i64 x.field, int .i64 x.place, int .i64 x.to, int .i64 x.a, int .i64 x.b, int .i64 x.f.id, int .i64 x.f.kind, int .i64 x.f.lo, int .i64 x.f.hi, int .i64 x.f.most, int .i64 x.n, str x.s, lst .ro 1 (map (fun n => int .i64 n) x.t), lst .ro 5 (map fldV x.fields)], [int .i64 y.op, int .i64 y.form, int .i64 y.field, int .i64 y.place, int .i64 y.to, int .i64 y.a, int .i64 y.b, int .i64 y.f.id, int .i64 y.f.kind, int .i64 y.f.lo, int .i64 y.f.hi, int .i64 y.f.most, int .i64 y.n, str y.s, lst .ro 1 (map (fun n => int .i64 n) y.t), lst .ro 5 (map fldV y.fields)], [int .i64 z.op, int .i64 z.form, int .i64 z.field, int .i64 z.place, int .i64 z.to, int .i64 z.a, int .i64 z.b, int .i64 z.f.id, int .i64 z.f.kind, int .i64 z.f.lo, int .i64 z.f.hi, int .i64 z.f.most, int .i64 z.n, str z.s, lst .ro 1 (map (fun n => int .i64 n) x.t), lst .ro 5 (map fldV z.fields)]])) else (bif (n1 == (9 : Int)) then (A.chk true (next [lst .ro 1 (map (fun n => int .i64 n) l), int .i64 m, int .i64 (IntKind.i64.wrap (i + (1 : Int)))] [[int .i64 x.op, int .i64 x.form, int .i64 x.field, int .i64 x.place, int .i64 x.to, int .i64 x.a, int .i64 x.b, int .i64 x.f.id, int .i64 x.f.kind, int .i64 x.f.lo, int .i64 x.f.hi, int .i64 x.f.most, int .i64 x.n, str x.s, lst .ro 1 (map (fun n => int .i64 n) x.t), lst .ro 5 (map fldV x.fields)], [int .i64 y.op, int .i64 y.form, int .i64 y.field, int .i64 y.place, int .i64 y.to, int .i64 y.a, int .i64 y.b, int .i64 y.f.id, int .i64 y.f.kind, int .i64 y.f.lo, int .i64 y.f.hi, int .i64 y.f.most, int .i64 y.n, str y.s, lst .ro 1 (map (fun n => int .i64 n) y.t), lst .ro 5 (map fldV y.fields)], [int .i64 z.op, int .i64 z.form, int .i64 z.field, int .i64 z.place, int .i64 z.to, int .i64 z.a, int .i64 z.b, int .i64 z.f.id, int .i64 z.f.kind, int .i64 z.f.lo, int .i64 z.f.hi, int .i64 z.f.most, int .i64 z.n, str z.s, lst .ro 1 (map (fun n => int .i64 n) z.t), lst .ro 5 (map fldV x.fields)]])) else (next [lst .ro 1 (map (fun n => int .i64 n) l), int .i64 m, int .i64 (IntKind.i64.wrap (i + (1 : Int)))] [[int .i64 x.op, int .i64 x.form, int .i64 x.field, int .i64 x.place, int .i64 x.to, int .i64 x.a, int .i64 x.b, int .i64 x.f.id, int .i64 x.f.kind, int .i64 x.f.lo, int .i64 x.f.hi, int .i64 x.f.most, int .i64 x.n, str x.s, lst .ro 1 (map (fun n => int .i64 n) x.t), lst .ro 5 (map fldV x.fields)], [int .i64 y.op, int .i64 y.form, int .i64 y.field, int .i64 y.place, int .i64 y.to, int .i64 y.a, int .i64 y.b, int .i64 y.f.id, int .i64 y.f.kind, int .i64 y.f.lo, int .i64 y.f.hi, int .i64 y.f.most, int .i64 y.n, str y.s, lst .ro 1 (map (fun n => int .i64 n) y.t), lst .ro 5 (map fldV y.fields)], [int .i64 z.op, int .i64 z.form, int .i64 z.field, int .i64 z.place, int .i64 z.to, int .i64 z.a, int .i64 z.b, int .i64 z.f.id, int .i64 z.f.kind, int .i64 z.f.lo, int .i64 z.f.hi, int .i64 z.f.most, int .i64 z.n, str z.s, lst .ro 1 (map (fun n => int .i64 n) z.t), lst .ro 5 (map fldV z.fields)]])))))))))))) else (kc 1 [] [[int .i64 y.op, int .i64 y.form, int .i64 y.field, int .i64 y.place, int .i64 y.to, int .i64 y.a, int .i64 y.b, int .i64 y.f.id, int .i64 y.f.kind, int .i64 y.f.lo, int .i64 y.f.hi, int .i64 y.f.most, int .i64 y.n, str y.s, lst .ro 1 (map (fun n => int .i64 n) y.t), lst .ro 5 (map fldV y.fields)], [int .i64 z.op, int .i64 z.form, int .i64 z.field, int .i64 z.place, int .i64 z.to, int .i64 z.a, int .i64 z.b, int .i64 z.f.id, int .i64 z.f.kind, int .i64 z.f.lo, int .i64 z.f.hi, int .i64 z.f.most, int .i64 z.n, str z.s, lst .ro 1 (map (fun n => int .i64 n) z.t), lst .ro 5 (map fldV z.fields)]])
def s_tapart {α : Type} (A : Alg α) (l : List Int) (below : Int) (kc : List AV → List (Nat × List AV) → α) : α :=
  A.asm ((map (fun n => int .i64 n) l).length ≤ maxL) (A.chk true (A.loop 3 [lst .ro 1 (map (fun n => int .i64 n) l), int .i64 below, lst .ro 1 (map (fun n => int .i64 n) l), int .i64 (↑(map (fun n => int .i64 n) l).length : Int), int .i64 0] [(List.replicate 1000 (bool false))] fun j0 l1 l2 => bif (j0.beq 0) then (asC A l1 fun v3 l4 => asB A v3 fun b5 => asN A l4 (asN A l2 (kc [bool b5] []))) else (bif (j0.beq 1) then (asC A l1 fun v6 l7 => asL A 1 v6 fun l8 => asN A l7 (asN A l2 (A.asm (l8.length ≤ maxL) (A.callx 143 [int .i64 (↑l8.length : Int), int .i64 1, int .i64 64] fun l9 => asC A l9 fun v10 l11 => asB A v10 fun b12 => asN A l11 (kc [bool b12] []))))) else A.fail)))
def s_tapartL {α : Type} (A : Alg α) (l : List Int) (below : Int) (m : Int) (i : Int) (seen : List Bool) (next : List AV → List (List AV) → α) (kc : Nat → List AV → List (List AV) → α) : α :=
  bif (decide (i < m)) then (A.chk (decide ((0 : Int) ≤ i)) (nthE A (map (fun n => int .i64 n) l) i.toNat fun v0 => asI A .i64 v0 fun n1 => A.join (fun x2 => A.callx 143 [int .i64 n1, int .i64 0, int .i64 (IntKind.i64.wrap (below - (1 : Int)))] fun l3 => asC A l3 fun v4 l5 => asB A v4 fun b6 => asN A l5 (bif (!b6) then (x2 true) else (A.chk (decide ((0 : Int) ≤ n1) && decide (n1 < (↑(1000 : Nat) : Int))) (nthE A (map bool seen) ((0 : Nat) + n1.toNat * 1) fun v7 => asB A v7 fun b8 => x2 b8)))) fun b9 => bif b9 then (kc 0 [bool false] []) else (A.chk (decide ((0 : Int) ≤ n1) && decide (n1 < (↑(1000 : Nat) : Int))) (A.chk (((0 : Nat) + n1.toNat * 1 + (1 : Nat)).ble (map bool seen).length) (A.chk ((setAt (map bool seen) ((0 : Nat) + n1.toNat * 1) [bool true]).all AV.flat1) (next [lst .ro 1 (map (fun n => int .i64 n) l), int .i64 below, lst .ro 1 (map (fun n => int .i64 n) l), int .i64 m, int .i64 (IntKind.i64.wrap (i + (1 : Int)))] [(setAt (map bool seen) ((0 : Nat) + n1.toNat * 1) [bool true])])))))) else (kc 1 [lst .ro 1 (map (fun n => int .i64 n) l)] [])
def s_tfits {α : Type} (A : Alg α) (x : Stp) (p : Int) (kc : List AV → List (Nat × List AV) → α) : α :=
  A.chk true (bif (p == (0 : Int)) then (A.callx 143 [int .i64 x.form, int .i64 0, int .i64 200] fun l0 => asC A l0 fun v1 l2 => asB A v1 fun b3 => asN A l2 (kc [bool b3] [])) else (bif (p == (1 : Int)) then (A.callx 143 [int .i64 x.field, int .i64 0, int .i64 255] fun l4 => asC A l4 fun v5 l6 => asB A v5 fun b7 => asN A l6 (kc [bool b7] [])) else (bif (p == (2 : Int)) then (A.callx 143 [int .i64 x.place, int .i64 0, int .i64 8] fun l8 => asC A l8 fun v9 l10 => asB A v9 fun b11 => asN A l10 (kc [bool b11] [])) else (bif (p == (3 : Int)) then (A.join (fun x12 => A.callx 143 [int .i64 x.to, int .i64 0, int .i64 255] fun l13 => asC A l13 fun v14 l15 => asB A v14 fun b16 => asN A l15 (bif b16 then (x12 (x.to != x.field)) else (x12 false))) fun b17 => kc [bool b17] []) else (bif (p == (4 : Int)) then (A.join (fun x18 => bif (x.op == (5 : Int)) then (A.callx 143 [int .i64 x.a, int .i64 1, int .i64 1000] fun l19 => asC A l19 fun v20 l21 => asB A v20 fun b22 => asN A l21 (bif b22 then (x18 true) else (bif (x.op != (5 : Int)) then (A.callx 143 [int .i64 x.a, int .i64 2, int .i64 1048576] fun l23 => asC A l23 fun v24 l25 => asB A v24 fun b26 => asN A l25 (x18 b26)) else (x18 false)))) else (bif (x.op != (5 : Int)) then (A.callx 143 [int .i64 x.a, int .i64 2, int .i64 1048576] fun l27 => asC A l27 fun v28 l29 => asB A v28 fun b30 => asN A l29 (x18 b30)) else (x18 false))) fun b31 => kc [bool b31] []) else (bif (p == (5 : Int)) then (A.join (fun x32 => A.callx 143 [int .i64 x.a, int .i64 (-1048576), int .i64 1048576] fun l33 => asC A l33 fun v34 l35 => asB A v34 fun b36 => asN A l35 (bif b36 then (bif (x.a != (0 : Int)) then (A.callx 143 [int .i64 x.b, int .i64 (-1099511627776), int .i64 1099511627776] fun l37 => asC A l37 fun v38 l39 => asB A v38 fun b40 => asN A l39 (x32 b40)) else (x32 false)) else (x32 false))) fun b41 => kc [bool b41] []) else (bif (p == (6 : Int)) then (A.join (fun x42 => bif (x.op == (1 : Int)) then (x42 true) else (bif (x.op == (22 : Int)) then (x42 true) else (x42 (x.f.id == x.field)))) fun b43 => A.join (fun x44 => A.chk true (A.callx 142 [agg [int .i64 x.f.id, int .i64 x.f.kind, int .i64 x.f.lo, int .i64 x.f.hi, int .i64 x.f.most]] fun l45 => asC A l45 fun v46 l47 => asB A v46 fun b48 => asN A l47 (bif b48 then (x44 b43) else (x44 false)))) fun b49 => kc [bool b49] []) else (bif (p == (7 : Int)) then (bif (x.op == (2 : Int)) then (A.join (fun x50 => A.callx 143 [int .i64 x.n, int .i64 (-1099511627776), int .i64 1099511627776] fun l51 => asC A l51 fun v52 l53 => asB A v52 fun b54 => asN A l53 (bif b54 then (A.asm (x.s.length ≤ maxL) (x50 (decide ((↑x.s.length : Int) ≤ (32 : Int))))) else (x50 false))) fun b55 => kc [bool b55] []) else (A.chk true (A.chk true (A.callx 144 [agg [int .i64 x.f.id, int .i64 x.f.kind, int .i64 x.f.lo, int .i64 x.f.hi, int .i64 x.f.most], agg [int .i64 x.n, str x.s]] fun l56 => asC A l56 fun v57 l58 => asB A v57 fun b59 => asN A l58 (kc [bool b59] []))))) else (bif (p == (8 : Int)) then (bif (x.op == (5 : Int)) then (A.callx 145 [lst .ro 1 (map (fun n => int .i64 n) x.t), int .i64 x.a] fun l60 => asC A l60 fun v61 l62 => asB A v61 fun b63 => asN A l62 (kc [bool b63] [])) else (A.callx 145 [lst .ro 1 (map (fun n => int .i64 n) x.t), int .i64 1000] fun l64 => asC A l64 fun v65 l66 => asB A v65 fun b67 => asN A l66 (kc [bool b67] []))) else (A.chk true (A.chk true (A.callx 118 [agg [int .i64 x.form, lst .ro 5 (map fldV x.fields)]] fun l68 => asC A l68 fun v69 l70 => asB A v69 fun b71 => asN A l70 (kc [bool b71] [])))))))))))))
def s_tRight {α : Type} (A : Alg α) (x : Stp) (kc : List AV → List (Nat × List AV) → α) : α :=
  A.chk true (A.callx 105 [int .i64 x.op] fun l0 => asC A l0 fun v1 l2 => asL A 1 v1 fun l3 => asN A l2 (A.asm (l3.length ≤ maxL) (A.loop 3 [lst .ro 1 l3, lst .ro 1 l3, int .i64 (↑l3.length : Int), int .i64 0] [[int .i64 x.op, int .i64 x.form, int .i64 x.field, int .i64 x.place, int .i64 x.to, int .i64 x.a, int .i64 x.b, int .i64 x.f.id, int .i64 x.f.kind, int .i64 x.f.lo, int .i64 x.f.hi, int .i64 x.f.most, int .i64 x.n, str x.s, lst .ro 1 (map (fun n => int .i64 n) x.t), lst .ro 5 (map fldV x.fields)]] fun j4 l5 l6 => bif (j4.beq 0) then (asC A l5 fun v7 l8 => asB A v7 fun b9 => asN A l8 (asN A l6 (kc [bool b9] []))) else (bif (j4.beq 1) then (asC A l5 fun v10 l11 => asL A 1 v10 fun l12 => asN A l11 (asC A l6 fun l13 l14 => asC A l13 fun v15 l16 => asI A .i64 v15 fun n17 => asC A l16 fun v18 l19 => asI A .i64 v18 fun n20 => asC A l19 fun v21 l22 => asI A .i64 v21 fun n23 => asC A l22 fun v24 l25 => asI A .i64 v24 fun n26 => asC A l25 fun v27 l28 => asI A .i64 v27 fun n29 => asC A l28 fun v30 l31 => asI A .i64 v30 fun n32 => asC A l31 fun v33 l34 => asI A .i64 v33 fun n35 => asC A l34 fun v36 l37 => asI A .i64 v36 fun n38 => asC A l37 fun v39 l40 => asI A .i64 v39 fun n41 => asC A l40 fun v42 l43 => asI A .i64 v42 fun n44 => asC A l43 fun v45 l46 => asI A .i64 v45 fun n47 => asC A l46 fun v48 l49 => asI A .i64 v48 fun n50 => asC A l49 fun v51 l52 => asI A .i64 v51 fun n53 => asC A l52 fun v54 l55 => asS A v54 fun l56 => asC A l55 fun v57 l58 => asL A 1 v57 fun l59 => asC A l58 fun v60 l61 => asL A 5 v60 fun l62 => asN A l61 (asN A l14 (A.asm (l12.length ≤ maxL) (bif (decide ((↑l12.length : Int) > (0 : Int))) then (A.chk true (A.chk true (A.callx 120 [agg [int .i64 n17, int .i64 n20, int .i64 n23, int .i64 n26, int .i64 n29, int .i64 n32, int .i64 n35, int .i64 n38, int .i64 n41, int .i64 n44, int .i64 n47, int .i64 n50, int .i64 n53, str l56, lst .ro 1 l59, lst .ro 5 l62]] fun l63 => asC A l63 fun v64 l65 => asA A v64 fun l66 => asC A l66 fun v67 l68 => asI A .i64 v67 fun n69 => asC A l68 fun v70 l71 => asI A .i64 v70 fun n72 => asC A l71 fun v73 l74 => asI A .i64 v73 fun n75 => asC A l74 fun v76 l77 => asI A .i64 v76 fun n78 => asC A l77 fun v79 l80 => asI A .i64 v79 fun n81 => asC A l80 fun v82 l83 => asI A .i64 v82 fun n84 => asC A l83 fun v85 l86 => asI A .i64 v85 fun n87 => asC A l86 fun v88 l89 => asI A .i64 v88 fun n90 => asC A l89 fun v91 l92 => asI A .i64 v91 fun n93 => asC A l92 fun v94 l95 => asI A .i64 v94 fun n96 => asC A l95 fun v97 l98 => asI A .i64 v97 fun n99 => asC A l98 fun v100 l101 => asI A .i64 v100 fun n102 => asC A l101 fun v103 l104 => asI A .i64 v103 fun n105 => asC A l104 fun v106 l107 => asS A v106 fun l108 => asC A l107 fun v109 l110 => asL A 1 v109 fun l111 => asC A l110 fun v112 l113 => asL A 5 v112 fun l114 => asN A l113 (asN A l65 (A.callx 55 [agg [int .i64 n17, int .i64 n20, int .i64 n23, int .i64 n26, int .i64 n29, int .i64 n32, int .i64 n35, int .i64 n38, int .i64 n41, int .i64 n44, int .i64 n47, int .i64 n50, int .i64 n53, str l56, lst .ro 1 l59, lst .ro 5 l62], agg [int .i64 n69, int .i64 n72, int .i64 n75, int .i64 n78, int .i64 n81, int .i64 n84, int .i64 n87, int .i64 n90, int .i64 n93, int .i64 n96, int .i64 n99, int .i64 n102, int .i64 n105, str l108, lst .ro 1 l111, lst .ro 5 l114]] fun l115 => asC A l115 fun v116 l117 => asB A v116 fun b118 => asN A l117 (kc [bool b118] [])))))) else (kc [bool false] [])))))) else A.fail))))
def s_tRightL {α : Type} (A : Alg α) (x : Stp) (l : List Int) (q : List Int) (m : Int) (i : Int) (next : List AV → List (List AV) → α) (kc : Nat → List AV → List (List AV) → α) : α :=
  bif (decide (i < m)) then (A.chk (decide ((0 : Int) ≤ i)) (nthE A (map (fun n => int .i64 n) q) i.toNat fun v0 => asI A .i64 v0 fun n1 => A.chk true (A.callx 119 [agg [int .i64 x.op, int .i64 x.form, int .i64 x.field, int .i64 x.place, int .i64 x.to, int .i64 x.a, int .i64 x.b, int .i64 x.f.id, int .i64 x.f.kind, int .i64 x.f.lo, int .i64 x.f.hi, int .i64 x.f.most, int .i64 x.n, str x.s, lst .ro 1 (map (fun n => int .i64 n) x.t), lst .ro 5 (map fldV x.fields)], int .i64 n1] fun l2 => asC A l2 fun v3 l4 => asB A v3 fun b5 => asN A l4 (bif (!b5) then (kc 0 [bool false] []) else (next [lst .ro 1 (map (fun n => int .i64 n) l), lst .ro 1 (map (fun n => int .i64 n) q), int .i64 m, int .i64 (IntKind.i64.wrap (i + (1 : Int)))] [[int .i64 x.op, int .i64 x.form, int .i64 x.field, int .i64 x.place, int .i64 x.to, int .i64 x.a, int .i64 x.b, int .i64 x.f.id, int .i64 x.f.kind, int .i64 x.f.lo, int .i64 x.f.hi, int .i64 x.f.most, int .i64 x.n, str x.s, lst .ro 1 (map (fun n => int .i64 n) x.t), lst .ro 5 (map fldV x.fields)]]))))) else (kc 1 [lst .ro 1 (map (fun n => int .i64 n) l)] [[int .i64 x.op, int .i64 x.form, int .i64 x.field, int .i64 x.place, int .i64 x.to, int .i64 x.a, int .i64 x.b, int .i64 x.f.id, int .i64 x.f.kind, int .i64 x.f.lo, int .i64 x.f.hi, int .i64 x.f.most, int .i64 x.n, str x.s, lst .ro 1 (map (fun n => int .i64 n) x.t), lst .ro 5 (map fldV x.fields)]])
def s_tSame {α : Type} (A : Alg α) (x : Stp) (y : Stp) (kc : List AV → List (Nat × List AV) → α) : α :=
  A.chk true (A.chk true (A.join (fun x0 => A.callx 104 [lst .ro 1 (map (fun n => int .i64 n) x.t), lst .ro 1 (map (fun n => int .i64 n) y.t)] fun l1 => asC A l1 fun v2 l3 => asB A v2 fun b4 => asN A l3 (bif b4 then (A.callx 103 [lst .ro 5 (map fldV x.fields), lst .ro 5 (map fldV y.fields)] fun l5 => asC A l5 fun v6 l7 => asB A v6 fun b8 => asN A l7 (x0 b8)) else (x0 false))) fun b9 => A.chk true (A.chk true (A.chk true (A.chk true (A.chk true (A.chk true (A.chk true (A.chk true (A.chk true (A.join (fun x10 => bif b9 then (A.chk true (bif (IntKind.i64.wrap (x.op - y.op) == (0 : Int) && (IntKind.i64.wrap (x.form - y.form) == (0 : Int) && (IntKind.i64.wrap (x.field - y.field) == (0 : Int) && (IntKind.i64.wrap (x.place - y.place) == (0 : Int) && (IntKind.i64.wrap (x.to - y.to) == (0 : Int) && (IntKind.i64.wrap (x.a - y.a) == (0 : Int) && (IntKind.i64.wrap (x.b - y.b) == (0 : Int) && true))))))) then (A.chk true (A.chk true (bif (x.f.id == y.f.id && (x.f.kind == y.f.kind && (x.f.lo == y.f.lo && (x.f.hi == y.f.hi && (x.f.most == y.f.most && true))))) then (A.chk true (A.chk true (x10 (x.n == y.n && (x.s == y.s && true))))) else (x10 false)))) else (x10 false))) else (x10 false)) fun b11 => kc [bool b11] [])))))))))))
def s_EqualI {α : Type} (A : Alg α) (a : List Int) (b : List Int) (kc : List AV → List (Nat × List AV) → α) : α :=
  A.asm ((map (fun n => int .i64 n) a).length ≤ maxL) (A.asm ((map (fun n => int .i64 n) b).length ≤ maxL) (bif ((↑(map (fun n => int .i64 n) a).length : Int) != (↑(map (fun n => int .i64 n) b).length : Int)) then (kc [bool false] []) else (A.asm ((map (fun n => int .i64 n) a).length ≤ maxL) (A.loop 4 [lst .ro 1 (map (fun n => int .i64 n) a), lst .ro 1 (map (fun n => int .i64 n) b), int .i64 (↑(map (fun n => int .i64 n) a).length : Int), int .i64 0] [] fun j0 l1 l2 => bif (j0.beq 0) then (asC A l1 fun v3 l4 => asB A v3 fun b5 => asN A l4 (asN A l2 (kc [bool b5] []))) else (bif (j0.beq 1) then (asN A l1 (asN A l2 (kc [bool true] []))) else A.fail)))))
def s_EqualIL {α : Type} (A : Alg α) (a : List Int) (b : List Int) (m : Int) (i : Int) (next : List AV → List (List AV) → α) (kc : Nat → List AV → List (List AV) → α) : α :=
  bif (decide (i < m)) then (A.chk (decide ((0 : Int) ≤ i)) (nthE A (map (fun n => int .i64 n) a) i.toNat fun v0 => asI A .i64 v0 fun n1 => A.chk (decide ((0 : Int) ≤ i)) (nthE A (map (fun n => int .i64 n) b) i.toNat fun v2 => asI A .i64 v2 fun n3 => bif (n1 != n3) then (kc 0 [bool false] []) else (next [lst .ro 1 (map (fun n => int .i64 n) a), lst .ro 1 (map (fun n => int .i64 n) b), int .i64 m, int .i64 (IntKind.i64.wrap (i + (1 : Int)))] [])))) else (kc 1 [] [])
def s_fHas {α : Type} (A : Alg α) (f : Fld) (n : Int) (s : List UInt8) (kc : List AV → List (Nat × List AV) → α) : α :=
  A.chk true (A.chk true (A.chk true (A.callx 156 [agg [int .i64 f.id, int .i64 f.kind, int .i64 f.lo, int .i64 f.hi, int .i64 f.most]] fun l0 => asC A l0 fun v1 l2 => asI A .i64 v1 fun n3 => asC A l2 fun v4 l5 => asI A .i64 v4 fun n6 => asN A l5 (bif (f.kind == (4 : Int)) then (A.join (fun x7 => A.chk true (A.callx 142 [agg [int .i64 f.id, int .i64 f.kind, int .i64 f.lo, int .i64 f.hi, int .i64 f.most]] fun l8 => asC A l8 fun v9 l10 => asB A v9 fun b11 => asN A l10 (bif b11 then (bif (decide (n ≥ n3)) then (bif (decide (n ≤ n6)) then (A.asm (s.length ≤ maxL) (x7 (decide ((↑s.length : Int) ≤ f.most)))) else (x7 false)) else (x7 false)) else (x7 false)))) fun b12 => kc [bool b12] []) else (A.join (fun x13 => A.chk true (A.callx 142 [agg [int .i64 f.id, int .i64 f.kind, int .i64 f.lo, int .i64 f.hi, int .i64 f.most]] fun l14 => asC A l14 fun v15 l16 => asB A v15 fun b17 => asN A l16 (bif b17 then (bif (decide (n ≥ n3)) then (bif (decide (n ≤ n6)) then (A.asm (s.length ≤ maxL) (x13 (decide ((↑s.length : Int) ≤ (0 : Int))))) else (x13 false)) else (x13 false)) else (x13 false)))) fun b18 => kc [bool b18] [])))))
def s_yHas {α : Type} (A : Alg α) (f : Fld) (n : Int) (s : List UInt8) (kc : List AV → List (Nat × List AV) → α) : α :=
  A.chk true (A.chk true (A.chk true (A.callx 136 [agg [int .i64 f.id, int .i64 f.kind, int .i64 f.lo, int .i64 f.hi, int .i64 f.most]] fun l0 => asC A l0 fun v1 l2 => asI A .i64 v1 fun n3 => asC A l2 fun v4 l5 => asI A .i64 v4 fun n6 => asC A l5 fun v7 l8 => asI A .i64 v7 fun n9 => asC A l8 fun v10 l11 => asB A v10 fun b12 => asN A l11 (A.join (fun x13 => bif b12 then (bif (decide (n ≥ n3)) then (bif (decide (n ≤ n6)) then (A.asm (s.length ≤ maxL) (x13 (decide ((↑s.length : Int) ≤ n9)))) else (x13 false)) else (x13 false)) else (x13 false)) fun b14 => kc [bool b14] []))))
def s_yuses {α : Type} (A : Alg α) (op : Int) (kc : List AV → List (Nat × List AV) → α) : α :=
  bif (op == (1 : Int)) then (A.loop 1000004 [int .i64 op, bool true] [] fun j0 l1 l2 => bif (j0.beq 50001) then (asN A l1 (asN A l2 (kc [str []] []))) else (bif (j0.beq 0) then (asC A l1 fun v3 l4 => asS A v3 fun l5 => asN A l4 (asN A l2 (kc [str l5] []))) else A.fail)) else (A.loop 1000004 [int .i64 op, bool (op == (22 : Int))] [] fun j6 l7 l8 => bif (j6.beq 50001) then (asN A l7 (asN A l8 (kc [str []] []))) else (bif (j6.beq 0) then (asC A l7 fun v9 l10 => asS A v9 fun l11 => asN A l10 (asN A l8 (kc [str l11] []))) else A.fail))
def s_yusesA {α : Type} (A : Alg α) (op : Int) (b : Bool) (next : List AV → List (List AV) → α) (kc : Nat → List AV → List (List AV) → α) : α :=
  bif b then (kc 0 [str [(102 : UInt8), (112 : UInt8), (70 : UInt8), (86 : UInt8)]] []) else (bif (op == (2 : Int)) then (kc 0 [str [(102 : UInt8), (100 : UInt8), (86 : UInt8)]] []) else (bif (op == (3 : Int)) then (A.loop 1000009 [int .i64 op, bool true] [] fun j0 l1 l2 => bif (j0.beq 50001) then (asN A l1 (asN A l2 (kc 50001 [] []))) else (bif (j0.beq 0) then (asC A l1 fun v3 l4 => asS A v3 fun l5 => asN A l4 (asN A l2 (kc 0 [str l5] []))) else A.fail)) else (A.loop 1000009 [int .i64 op, bool (op == (23 : Int))] [] fun j6 l7 l8 => bif (j6.beq 50001) then (asN A l7 (asN A l8 (kc 50001 [] []))) else (bif (j6.beq 0) then (asC A l7 fun v9 l10 => asS A v9 fun l11 => asN A l10 (asN A l8 (kc 0 [str l11] []))) else A.fail))))
def s_yusesB {α : Type} (A : Alg α) (op : Int) (b : Bool) (next : List AV → List (List AV) → α) (kc : Nat → List AV → List (List AV) → α) : α :=
  bif b then (kc 0 [str [(102 : UInt8), (100 : UInt8), (70 : UInt8)]] []) else (bif (op == (4 : Int)) then (kc 0 [str [(102 : UInt8), (100 : UInt8), (98 : UInt8)]] []) else (bif (op == (24 : Int)) then (kc 0 [str [(102 : UInt8), (100 : UInt8), (98 : UInt8), (70 : UInt8)]] []) else (bif (op == (5 : Int)) then (kc 0 [str [(102 : UInt8), (100 : UInt8), (97 : UInt8), (84 : UInt8)]] []) else (bif (op == (25 : Int)) then (kc 0 [str [(102 : UInt8), (100 : UInt8), (84 : UInt8)]] []) else (bif (op == (6 : Int)) then (kc 0 [str [(102 : UInt8), (100 : UInt8), (97 : UInt8), (116 : UInt8)]] []) else (bif (op == (26 : Int)) then (kc 0 [str [(102 : UInt8), (100 : UInt8), (97 : UInt8), (116 : UInt8), (70 : UInt8)]] []) else (bif (op == (7 : Int)) then (kc 0 [str [(102 : UInt8), (100 : UInt8), (112 : UInt8)]] []) else (bif (op == (27 : Int)) then (kc 0 [str [(102 : UInt8), (100 : UInt8), (112 : UInt8)]] []) else (bif (op == (8 : Int)) then (kc 0 [str [(102 : UInt8), (100 : UInt8), (116 : UInt8)]] []) else (bif (op == (28 : Int)) then (kc 0 [str [(102 : UInt8), (100 : UInt8), (116 : UInt8)]] []) else (bif (op == (9 : Int)) then (kc 0 [str [(102 : UInt8), (76 : UInt8)]] []) else (bif (op == (30 : Int)) then (kc 0 [str [(102 : UInt8), (76 : UInt8)]] []) else (bif (op == (10 : Int)) then (kc 0 [str [(102 : UInt8)]] []) else (bif (op == (29 : Int)) then (kc 0 [str [(102 : UInt8)]] []) else (bif (op == (21 : Int)) then (kc 0 [str [(102 : UInt8), (100 : UInt8)]] []) else (kc 50001 [] []))))))))))))))))
def s_yhas {α : Type} (A : Alg α) (op : Int) (c : Int) (kc : List AV → List (Nat × List AV) → α) : α :=
  A.callx 94 [int .i64 op] fun l0 => asC A l0 fun v1 l2 => asS A v1 fun l3 => asN A l2 (A.loop 3 [int .u8 c, str l3, int .i64 0] [] fun j4 l5 l6 => bif (j4.beq 0) then (asC A l5 fun v7 l8 => asB A v7 fun b9 => asN A l8 (asN A l6 (kc [bool b9] []))) else (bif (j4.beq 1) then (asN A l5 (asN A l6 (kc [bool false] []))) else A.fail))
def s_yhasL {α : Type} (A : Alg α) (c : Int) (i : Int) (s : List UInt8) (next : List AV → List (List AV) → α) (kc : Nat → List AV → List (List AV) → α) : α :=
  A.asm (s.length ≤ maxL) (bif (decide (i < (↑s.length : Int))) then (A.chk (decide ((0 : Int) ≤ i)) (nthE A s i.toNat fun x0 => bif ((↑x0.toNat : Int) == c) then (kc 0 [bool true] []) else (next [int .u8 c, str s, int .i64 (IntKind.i64.wrap (i + (1 : Int)))] []))) else (kc 1 [] []))
def s_yzero {α : Type} (A : Alg α) (x : Stp) (kc : List AV → List (Nat × List AV) → α) : α :=
  A.chk true (A.join (fun x0 => A.callx 98 [int .i64 x.op, int .u8 100] fun l1 => asC A l1 fun v2 l3 => asB A v2 fun b4 => asN A l3 (bif b4 then (A.callx 98 [int .i64 x.op, int .u8 112] fun l5 => asC A l5 fun v6 l7 => asB A v6 fun b8 => asN A l7 (bif b8 then (A.callx 98 [int .i64 x.op, int .u8 116] fun l9 => asC A l9 fun v10 l11 => asB A v10 fun b12 => asN A l11 (bif b12 then (x0 true) else (x0 (x.to == (0 : Int))))) else (bif (x.place == (0 : Int)) then (A.callx 98 [int .i64 x.op, int .u8 116] fun l13 => asC A l13 fun v14 l15 => asB A v14 fun b16 => asN A l15 (bif b16 then (x0 true) else (x0 (x.to == (0 : Int))))) else (x0 false)))) else (bif (x.field == (0 : Int)) then (A.callx 98 [int .i64 x.op, int .u8 112] fun l17 => asC A l17 fun v18 l19 => asB A v18 fun b20 => asN A l19 (bif b20 then (A.callx 98 [int .i64 x.op, int .u8 116] fun l21 => asC A l21 fun v22 l23 => asB A v22 fun b24 => asN A l23 (bif b24 then (x0 true) else (x0 (x.to == (0 : Int))))) else (bif (x.place == (0 : Int)) then (A.callx 98 [int .i64 x.op, int .u8 116] fun l25 => asC A l25 fun v26 l27 => asB A v26 fun b28 => asN A l27 (bif b28 then (x0 true) else (x0 (x.to == (0 : Int))))) else (x0 false)))) else (x0 false)))) fun b29 => A.join (fun x30 => bif b29 then (A.callx 98 [int .i64 x.op, int .u8 97] fun l31 => asC A l31 fun v32 l33 => asB A v32 fun b34 => asN A l33 (bif b34 then (A.callx 98 [int .i64 x.op, int .u8 98] fun l35 => asC A l35 fun v36 l37 => asB A v36 fun b38 => asN A l37 (bif b38 then (x30 true) else (x30 (x.b == (0 : Int))))) else (A.callx 98 [int .i64 x.op, int .u8 98] fun l39 => asC A l39 fun v40 l41 => asB A v40 fun b42 => asN A l41 (bif b42 then (A.callx 98 [int .i64 x.op, int .u8 98] fun l43 => asC A l43 fun v44 l45 => asB A v44 fun b46 => asN A l45 (bif b46 then (x30 true) else (x30 (x.b == (0 : Int))))) else (bif (x.a == (0 : Int)) then (A.callx 98 [int .i64 x.op, int .u8 98] fun l47 => asC A l47 fun v48 l49 => asB A v48 fun b50 => asN A l49 (bif b50 then (x30 true) else (x30 (x.b == (0 : Int))))) else (x30 false)))))) else (x30 false)) fun b51 => A.join (fun x52 => bif b51 then (A.callx 98 [int .i64 x.op, int .u8 70] fun l53 => asC A l53 fun v54 l55 => asB A v54 fun b56 => asN A l55 (bif b56 then (A.callx 98 [int .i64 x.op, int .u8 86] fun l57 => asC A l57 fun v58 l59 => asB A v58 fun b60 => asN A l59 (bif b60 then (x52 true) else (A.chk true (x52 (x.n == (0 : Int) && (x.s == [] && true)))))) else (A.chk true (bif (x.f.id == (0 : Int) && (x.f.kind == (0 : Int) && (x.f.lo == (0 : Int) && (x.f.hi == (0 : Int) && (x.f.most == (0 : Int) && true))))) then (A.callx 98 [int .i64 x.op, int .u8 86] fun l61 => asC A l61 fun v62 l63 => asB A v62 fun b64 => asN A l63 (bif b64 then (x52 true) else (A.chk true (x52 (x.n == (0 : Int) && (x.s == [] && true)))))) else (x52 false))))) else (x52 false)) fun b65 => A.join (fun x66 => bif b65 then (A.callx 98 [int .i64 x.op, int .u8 84] fun l67 => asC A l67 fun v68 l69 => asB A v68 fun b70 => asN A l69 (bif b70 then (A.callx 98 [int .i64 x.op, int .u8 76] fun l71 => asC A l71 fun v72 l73 => asB A v72 fun b74 => asN A l73 (bif b74 then (x66 true) else (A.asm ((map fldV x.fields).length ≤ maxL) (x66 ((↑(map fldV x.fields).length : Int) == (0 : Int)))))) else (A.asm ((map (fun n => int .i64 n) x.t).length ≤ maxL) (bif ((↑(map (fun n => int .i64 n) x.t).length : Int) == (0 : Int)) then (A.callx 98 [int .i64 x.op, int .u8 76] fun l75 => asC A l75 fun v76 l77 => asB A v76 fun b78 => asN A l77 (bif b78 then (x66 true) else (A.asm ((map fldV x.fields).length ≤ maxL) (x66 ((↑(map fldV x.fields).length : Int) == (0 : Int)))))) else (x66 false))))) else (x66 false)) fun b79 => kc [bool b79] [])
def s_ybetween {α : Type} (A : Alg α) (n : Int) (lo : Int) (hi : Int) (kc : List AV → List (Nat × List AV) → α) : α :=
  A.join (fun x0 => bif (decide (n ≥ lo)) then (x0 (decide (n ≤ hi))) else (x0 false)) fun b1 => kc [bool b1] []
def s_ytable {α : Type} (A : Alg α) (l : List Int) (below : Int) (kc : List AV → List (Nat × List AV) → α) : α :=
  A.loop 2 [lst .ro 1 (map (fun n => int .i64 n) l), int .i64 below, int .i64 0] [] fun j0 l1 l2 => bif (j0.beq 0) then (asC A l1 fun v3 l4 => asB A v3 fun b5 => asN A l4 (asN A l2 (kc [bool b5] []))) else (bif (j0.beq 1) then (asC A l1 fun v6 l7 => asL A 1 v6 fun l8 => asN A l7 (asN A l2 (A.join (fun x9 => A.asm (l8.length ≤ maxL) (bif (decide ((↑l8.length : Int) ≥ (1 : Int))) then (A.asm (l8.length ≤ maxL) (x9 (decide ((↑l8.length : Int) ≤ (64 : Int))))) else (x9 false))) fun b10 => kc [bool b10] []))) else A.fail)
def s_ytableL {α : Type} (A : Alg α) (l : List Int) (below : Int) (i : Int) (next : List AV → List (List AV) → α) (kc : Nat → List AV → List (List AV) → α) : α :=
  A.asm ((map (fun n => int .i64 n) l).length ≤ maxL) (bif (decide (i < (↑(map (fun n => int .i64 n) l).length : Int))) then (A.chk (decide ((0 : Int) ≤ i)) (nthE A (map (fun n => int .i64 n) l) i.toNat fun v0 => asI A .i64 v0 fun n1 => A.callx 96 [int .i64 n1, int .i64 0, int .i64 (IntKind.i64.wrap (below - (1 : Int)))] fun l2 => asC A l2 fun v3 l4 => asB A v3 fun b5 => asN A l4 (bif (!b5) then (kc 0 [bool false] []) else (A.loop 7 [lst .ro 1 (map (fun n => int .i64 n) l), int .i64 below, int .i64 i, int .i64 0] [] fun j6 l7 l8 => bif (j6.beq 0) then (asC A l7 fun v9 l10 => asB A v9 fun b11 => asN A l10 (asN A l8 (kc 0 [bool b11] []))) else (bif (j6.beq 3) then (asC A l7 fun v12 l13 => asL A 1 v12 fun l14 => asC A l13 fun v15 l16 => asI A .i64 v15 fun n17 => asC A l16 fun v18 l19 => asI A .i64 v18 fun n20 => asN A l19 (asN A l8 (next [lst .ro 1 l14, int .i64 n17, int .i64 (IntKind.i64.wrap (n20 + (1 : Int)))] []))) else A.fail))))) else (kc 1 [lst .ro 1 (map (fun n => int .i64 n) l)] []))
def s_ytableK {α : Type} (A : Alg α) (l : List Int) (below : Int) (i : Int) (k : Int) (next : List AV → List (List AV) → α) (kc : Nat → List AV → List (List AV) → α) : α :=
  bif (decide (k < i)) then (A.chk (decide ((0 : Int) ≤ k)) (nthE A (map (fun n => int .i64 n) l) k.toNat fun v0 => asI A .i64 v0 fun n1 => A.chk (decide ((0 : Int) ≤ i)) (nthE A (map (fun n => int .i64 n) l) i.toNat fun v2 => asI A .i64 v2 fun n3 => bif (n1 == n3) then (kc 0 [bool false] []) else (next [lst .ro 1 (map (fun n => int .i64 n) l), int .i64 below, int .i64 i, int .i64 (IntKind.i64.wrap (k + (1 : Int)))] [])))) else (kc 3 [lst .ro 1 (map (fun n => int .i64 n) l), int .i64 below, int .i64 i] [])
def s_ynumbers {α : Type} (A : Alg α) (x : Stp) (kc : List AV → List (Nat × List AV) → α) : α :=
  A.chk true (A.join (fun x0 => bif (x.op == (4 : Int)) then (x0 true) else (x0 (x.op == (24 : Int)))) fun b1 => bif b1 then (A.join (fun x2 => A.callx 96 [int .i64 x.a, int .i64 (-1048576), int .i64 1048576] fun l3 => asC A l3 fun v4 l5 => asB A v4 fun b6 => asN A l5 (bif b6 then (bif (x.a != (0 : Int)) then (A.callx 96 [int .i64 x.b, int .i64 (-1099511627776), int .i64 1099511627776] fun l7 => asC A l7 fun v8 l9 => asB A v8 fun b10 => asN A l9 (x2 b10)) else (x2 false)) else (x2 false))) fun b11 => kc [bool b11] []) else (A.join (fun x12 => bif (x.op == (6 : Int)) then (x12 true) else (x12 (x.op == (26 : Int)))) fun b13 => bif b13 then (A.callx 96 [int .i64 x.a, int .i64 2, int .i64 1048576] fun l14 => asC A l14 fun v15 l16 => asB A v15 fun b17 => asN A l16 (kc [bool b17] [])) else (bif (x.op == (5 : Int)) then (A.join (fun x18 => A.callx 96 [int .i64 x.a, int .i64 1, int .i64 1000] fun l19 => asC A l19 fun v20 l21 => asB A v20 fun b22 => asN A l21 (bif b22 then (A.callx 135 [lst .ro 1 (map (fun n => int .i64 n) x.t), int .i64 x.a] fun l23 => asC A l23 fun v24 l25 => asB A v24 fun b26 => asN A l25 (x18 b26)) else (x18 false))) fun b27 => kc [bool b27] []) else (bif (x.op == (25 : Int)) then (A.callx 135 [lst .ro 1 (map (fun n => int .i64 n) x.t), int .i64 1000] fun l28 => asC A l28 fun v29 l30 => asB A v29 fun b31 => asN A l30 (kc [bool b31] [])) else (kc [bool true] [])))))
def s_ytRight {α : Type} (A : Alg α) (x : Stp) (kc : List AV → List (Nat × List AV) → α) : α :=
  A.chk true (A.join (fun x0 => A.callx 94 [int .i64 x.op] fun l1 => asC A l1 fun v2 l3 => asS A v2 fun l4 => asN A l3 (bif (l4 == []) then (x0 true) else (A.chk true (A.callx 95 [agg [int .i64 x.op, int .i64 x.form, int .i64 x.field, int .i64 x.place, int .i64 x.to, int .i64 x.a, int .i64 x.b, int .i64 x.f.id, int .i64 x.f.kind, int .i64 x.f.lo, int .i64 x.f.hi, int .i64 x.f.most, int .i64 x.n, str x.s, lst .ro 1 (map (fun n => int .i64 n) x.t), lst .ro 5 (map fldV x.fields)]] fun l5 => asC A l5 fun v6 l7 => asB A v6 fun b8 => asN A l7 (bif (!b8) then (x0 true) else (A.callx 96 [int .i64 x.form, int .i64 0, int .i64 200] fun l9 => asC A l9 fun v10 l11 => asB A v10 fun b12 => asN A l11 (bif (!b12) then (x0 true) else (A.callx 96 [int .i64 x.field, int .i64 0, int .i64 255] fun l13 => asC A l13 fun v14 l15 => asB A v14 fun b16 => asN A l15 (bif (!b16) then (x0 true) else (A.callx 96 [int .i64 x.place, int .i64 0, int .i64 8] fun l17 => asC A l17 fun v18 l19 => asB A v18 fun b20 => asN A l19 (bif (!b20) then (x0 true) else (A.callx 96 [int .i64 x.to, int .i64 0, int .i64 255] fun l21 => asC A l21 fun v22 l23 => asB A v22 fun b24 => asN A l23 (bif (!b24) then (x0 true) else (A.chk true (A.callx 97 [agg [int .i64 x.op, int .i64 x.form, int .i64 x.field, int .i64 x.place, int .i64 x.to, int .i64 x.a, int .i64 x.b, int .i64 x.f.id, int .i64 x.f.kind, int .i64 x.f.lo, int .i64 x.f.hi, int .i64 x.f.most, int .i64 x.n, str x.s, lst .ro 1 (map (fun n => int .i64 n) x.t), lst .ro 5 (map fldV x.fields)]] fun l25 => asC A l25 fun v26 l27 => asB A v26 fun b28 => asN A l27 (x0 (!b28))))))))))))))))) fun b29 => bif b29 then (kc [bool false] []) else (A.join (fun x30 => A.callx 98 [int .i64 x.op, int .u8 116] fun l31 => asC A l31 fun v32 l33 => asB A v32 fun b34 => asN A l33 (bif b34 then (bif (x.to == x.field) then (x30 true) else (A.callx 98 [int .i64 x.op, int .u8 70] fun l35 => asC A l35 fun v36 l37 => asB A v36 fun b38 => asN A l37 (bif b38 then (A.chk true (A.callx 99 [agg [int .i64 x.f.id, int .i64 x.f.kind, int .i64 x.f.lo, int .i64 x.f.hi, int .i64 x.f.most]] fun l39 => asC A l39 fun v40 l41 => asB A v40 fun b42 => asN A l41 (x30 (!b42)))) else (x30 false)))) else (A.callx 98 [int .i64 x.op, int .u8 70] fun l43 => asC A l43 fun v44 l45 => asB A v44 fun b46 => asN A l45 (bif b46 then (A.chk true (A.callx 99 [agg [int .i64 x.f.id, int .i64 x.f.kind, int .i64 x.f.lo, int .i64 x.f.hi, int .i64 x.f.most]] fun l47 => asC A l47 fun v48 l49 => asB A v48 fun b50 => asN A l49 (x30 (!b50)))) else (x30 false))))) fun b51 => bif b51 then (kc [bool false] []) else (A.join (fun x52 => A.callx 98 [int .i64 x.op, int .u8 70] fun l53 => asC A l53 fun v54 l55 => asB A v54 fun b56 => asN A l55 (bif b56 then (A.callx 98 [int .i64 x.op, int .u8 100] fun l57 => asC A l57 fun v58 l59 => asB A v58 fun b60 => asN A l59 (bif b60 then (x52 (x.f.id != x.field)) else (x52 false))) else (x52 false))) fun b61 => bif b61 then (kc [bool false] []) else (A.join (fun x62 => bif (x.op == (2 : Int)) then (A.callx 96 [int .i64 x.n, int .i64 (-1099511627776), int .i64 1099511627776] fun l63 => asC A l63 fun v64 l65 => asB A v64 fun b66 => asN A l65 (bif (!b66) then (x62 true) else (A.asm (x.s.length ≤ maxL) (x62 (decide ((↑x.s.length : Int) > (32 : Int))))))) else (x62 false)) fun b67 => bif b67 then (kc [bool false] []) else (A.join (fun x68 => A.callx 98 [int .i64 x.op, int .u8 112] fun l69 => asC A l69 fun v70 l71 => asB A v70 fun b72 => asN A l71 (bif b72 then (A.callx 98 [int .i64 x.op, int .u8 86] fun l73 => asC A l73 fun v74 l75 => asB A v74 fun b76 => asN A l75 (bif b76 then (A.chk true (A.chk true (A.callx 100 [agg [int .i64 x.f.id, int .i64 x.f.kind, int .i64 x.f.lo, int .i64 x.f.hi, int .i64 x.f.most], agg [int .i64 x.n, str x.s]] fun l77 => asC A l77 fun v78 l79 => asB A v78 fun b80 => asN A l79 (x68 (!b80))))) else (x68 false))) else (x68 false))) fun b81 => bif b81 then (kc [bool false] []) else (A.join (fun x82 => A.callx 98 [int .i64 x.op, int .u8 76] fun l83 => asC A l83 fun v84 l85 => asB A v84 fun b86 => asN A l85 (bif (!b86) then (x82 true) else (A.chk true (A.chk true (A.callx 88 [agg [int .i64 x.form, lst .ro 5 (map fldV x.fields)]] fun l87 => asC A l87 fun v88 l89 => asB A v88 fun b90 => asN A l89 (x82 b90)))))) fun b91 => kc [bool b91] []))))))
def s_ytSame {α : Type} (A : Alg α) (x : Stp) (y : Stp) (kc : List AV → List (Nat × List AV) → α) : α :=
  A.chk true (A.chk true (A.join (fun x0 => bif (x.op != y.op) then (x0 true) else (bif (x.form != y.form) then (x0 true) else (bif (x.field != y.field) then (x0 true) else (bif (x.place != y.place) then (x0 true) else (bif (x.to != y.to) then (x0 true) else (bif (x.a != y.a) then (x0 true) else (bif (x.b != y.b) then (x0 true) else (A.chk true (A.chk true (bif (!(x.f.id == y.f.id && (x.f.kind == y.f.kind && (x.f.lo == y.f.lo && (x.f.hi == y.f.hi && (x.f.most == y.f.most && true)))))) then (x0 true) else (A.chk true (A.chk true (bif (!(x.n == y.n && (x.s == y.s && true))) then (x0 true) else (A.asm ((map (fun n => int .i64 n) x.t).length ≤ maxL) (A.asm ((map (fun n => int .i64 n) y.t).length ≤ maxL) (bif ((↑(map (fun n => int .i64 n) x.t).length : Int) != (↑(map (fun n => int .i64 n) y.t).length : Int)) then (x0 true) else (A.asm ((map fldV x.fields).length ≤ maxL) (A.asm ((map fldV y.fields).length ≤ maxL) (x0 ((↑(map fldV x.fields).length : Int) != (↑(map fldV y.fields).length : Int))))))))))))))))))))) fun b1 => bif b1 then (kc [bool false] []) else (A.loop 4 [int .i64 0] [[int .i64 x.op, int .i64 x.form, int .i64 x.field, int .i64 x.place, int .i64 x.to, int .i64 x.a, int .i64 x.b, int .i64 x.f.id, int .i64 x.f.kind, int .i64 x.f.lo, int .i64 x.f.hi, int .i64 x.f.most, int .i64 x.n, str x.s, lst .ro 1 (map (fun n => int .i64 n) x.t), lst .ro 5 (map fldV x.fields)], [int .i64 y.op, int .i64 y.form, int .i64 y.field, int .i64 y.place, int .i64 y.to, int .i64 y.a, int .i64 y.b, int .i64 y.f.id, int .i64 y.f.kind, int .i64 y.f.lo, int .i64 y.f.hi, int .i64 y.f.most, int .i64 y.n, str y.s, lst .ro 1 (map (fun n => int .i64 n) y.t), lst .ro 5 (map fldV y.fields)]] fun j2 l3 l4 => bif (j2.beq 0) then (asC A l3 fun v5 l6 => asB A v5 fun b7 => asN A l6 (asN A l4 (kc [bool b7] []))) else (bif (j2.beq 1) then (asN A l3 (asC A l4 fun l8 l9 => asC A l8 fun v10 l11 => asI A .i64 v10 fun n12 => asC A l11 fun v13 l14 => asI A .i64 v13 fun n15 => asC A l14 fun v16 l17 => asI A .i64 v16 fun n18 => asC A l17 fun v19 l20 => asI A .i64 v19 fun n21 => asC A l20 fun v22 l23 => asI A .i64 v22 fun n24 => asC A l23 fun v25 l26 => asI A .i64 v25 fun n27 => asC A l26 fun v28 l29 => asI A .i64 v28 fun n30 => asC A l29 fun v31 l32 => asI A .i64 v31 fun n33 => asC A l32 fun v34 l35 => asI A .i64 v34 fun n36 => asC A l35 fun v37 l38 => asI A .i64 v37 fun n39 => asC A l38 fun v40 l41 => asI A .i64 v40 fun n42 => asC A l41 fun v43 l44 => asI A .i64 v43 fun n45 => asC A l44 fun v46 l47 => asI A .i64 v46 fun n48 => asC A l47 fun v49 l50 => asS A v49 fun l51 => asC A l50 fun v52 l53 => asL A 1 v52 fun l54 => asC A l53 fun v55 l56 => asL A 5 v55 fun l57 => asN A l56 (asC A l9 fun l58 l59 => asC A l58 fun v60 l61 => asI A .i64 v60 fun n62 => asC A l61 fun v63 l64 => asI A .i64 v63 fun n65 => asC A l64 fun v66 l67 => asI A .i64 v66 fun n68 => asC A l67 fun v69 l70 => asI A .i64 v69 fun n71 => asC A l70 fun v72 l73 => asI A .i64 v72 fun n74 => asC A l73 fun v75 l76 => asI A .i64 v75 fun n77 => asC A l76 fun v78 l79 => asI A .i64 v78 fun n80 => asC A l79 fun v81 l82 => asI A .i64 v81 fun n83 => asC A l82 fun v84 l85 => asI A .i64 v84 fun n86 => asC A l85 fun v87 l88 => asI A .i64 v87 fun n89 => asC A l88 fun v90 l91 => asI A .i64 v90 fun n92 => asC A l91 fun v93 l94 => asI A .i64 v93 fun n95 => asC A l94 fun v96 l97 => asI A .i64 v96 fun n98 => asC A l97 fun v99 l100 => asS A v99 fun l101 => asC A l100 fun v102 l103 => asL A 1 v102 fun l104 => asC A l103 fun v105 l106 => asL A 5 v105 fun l107 => asN A l106 (asN A l59 (A.loop 9 [int .i64 0] [[int .i64 n12, int .i64 n15, int .i64 n18, int .i64 n21, int .i64 n24, int .i64 n27, int .i64 n30, int .i64 n33, int .i64 n36, int .i64 n39, int .i64 n42, int .i64 n45, int .i64 n48, str l51, lst .ro 1 l54, lst .ro 5 l57], [int .i64 n62, int .i64 n65, int .i64 n68, int .i64 n71, int .i64 n74, int .i64 n77, int .i64 n80, int .i64 n83, int .i64 n86, int .i64 n89, int .i64 n92, int .i64 n95, int .i64 n98, str l101, lst .ro 1 l104, lst .ro 5 l107]] fun j108 l109 l110 => bif (j108.beq 0) then (asC A l109 fun v111 l112 => asB A v111 fun b113 => asN A l112 (asN A l110 (kc [bool b113] []))) else (bif (j108.beq 3) then (asN A l109 (asN A l110 (kc [bool true] []))) else A.fail)))))) else A.fail))))
def s_ytSameL {α : Type} (A : Alg α) (x : Stp) (y : Stp) (i : Int) (next : List AV → List (List AV) → α) (kc : Nat → List AV → List (List AV) → α) : α :=
  A.asm ((map (fun n => int .i64 n) x.t).length ≤ maxL) (bif (decide (i < (↑(map (fun n => int .i64 n) x.t).length : Int))) then (A.chk (decide ((0 : Int) ≤ i)) (nthE A (map (fun n => int .i64 n) x.t) i.toNat fun v0 => asI A .i64 v0 fun n1 => A.chk (decide ((0 : Int) ≤ i)) (nthE A (map (fun n => int .i64 n) y.t) i.toNat fun v2 => asI A .i64 v2 fun n3 => bif (n1 != n3) then (kc 0 [bool false] []) else (next [int .i64 (IntKind.i64.wrap (i + (1 : Int)))] [[int .i64 x.op, int .i64 x.form, int .i64 x.field, int .i64 x.place, int .i64 x.to, int .i64 x.a, int .i64 x.b, int .i64 x.f.id, int .i64 x.f.kind, int .i64 x.f.lo, int .i64 x.f.hi, int .i64 x.f.most, int .i64 x.n, str x.s, lst .ro 1 (map (fun n => int .i64 n) x.t), lst .ro 5 (map fldV x.fields)], [int .i64 y.op, int .i64 y.form, int .i64 y.field, int .i64 y.place, int .i64 y.to, int .i64 y.a, int .i64 y.b, int .i64 y.f.id, int .i64 y.f.kind, int .i64 y.f.lo, int .i64 y.f.hi, int .i64 y.f.most, int .i64 y.n, str y.s, lst .ro 1 (map (fun n => int .i64 n) y.t), lst .ro 5 (map fldV y.fields)]])))) else (kc 1 [] [[int .i64 x.op, int .i64 x.form, int .i64 x.field, int .i64 x.place, int .i64 x.to, int .i64 x.a, int .i64 x.b, int .i64 x.f.id, int .i64 x.f.kind, int .i64 x.f.lo, int .i64 x.f.hi, int .i64 x.f.most, int .i64 x.n, str x.s, lst .ro 1 (map (fun n => int .i64 n) x.t), lst .ro 5 (map fldV x.fields)], [int .i64 y.op, int .i64 y.form, int .i64 y.field, int .i64 y.place, int .i64 y.to, int .i64 y.a, int .i64 y.b, int .i64 y.f.id, int .i64 y.f.kind, int .i64 y.f.lo, int .i64 y.f.hi, int .i64 y.f.most, int .i64 y.n, str y.s, lst .ro 1 (map (fun n => int .i64 n) y.t), lst .ro 5 (map fldV y.fields)]]))
def s_ytSameK {α : Type} (A : Alg α) (x : Stp) (y : Stp) (i : Int) (next : List AV → List (List AV) → α) (kc : Nat → List AV → List (List AV) → α) : α :=
  A.asm ((map fldV x.fields).length ≤ maxL) (bif (decide (i < (↑(map fldV x.fields).length : Int))) then (A.chk (decide ((0 : Int) ≤ i)) (nthE A (map fldV x.fields) i.toNat fun v0 => asA A v0 fun l1 => asC A l1 fun v2 l3 => asI A .i64 v2 fun n4 => asC A l3 fun v5 l6 => asI A .i64 v5 fun n7 => asC A l6 fun v8 l9 => asI A .i64 v8 fun n10 => asC A l9 fun v11 l12 => asI A .i64 v11 fun n13 => asC A l12 fun v14 l15 => asI A .i64 v14 fun n16 => asN A l15 (A.chk true (A.chk (decide ((0 : Int) ≤ i)) (nthE A (map fldV y.fields) i.toNat fun v17 => asA A v17 fun l18 => asC A l18 fun v19 l20 => asI A .i64 v19 fun n21 => asC A l20 fun v22 l23 => asI A .i64 v22 fun n24 => asC A l23 fun v25 l26 => asI A .i64 v25 fun n27 => asC A l26 fun v28 l29 => asI A .i64 v28 fun n30 => asC A l29 fun v31 l32 => asI A .i64 v31 fun n33 => asN A l32 (A.chk true (bif (!(n4 == n21 && (n7 == n24 && (n10 == n27 && (n13 == n30 && (n16 == n33 && true)))))) then (kc 0 [bool false] []) else (next [int .i64 (IntKind.i64.wrap (i + (1 : Int)))] [[int .i64 x.op, int .i64 x.form, int .i64 x.field, int .i64 x.place, int .i64 x.to, int .i64 x.a, int .i64 x.b, int .i64 x.f.id, int .i64 x.f.kind, int .i64 x.f.lo, int .i64 x.f.hi, int .i64 x.f.most, int .i64 x.n, str x.s, lst .ro 1 (map (fun n => int .i64 n) x.t), lst .ro 5 (map fldV x.fields)], [int .i64 y.op, int .i64 y.form, int .i64 y.field, int .i64 y.place, int .i64 y.to, int .i64 y.a, int .i64 y.b, int .i64 y.f.id, int .i64 y.f.kind, int .i64 y.f.lo, int .i64 y.f.hi, int .i64 y.f.most, int .i64 y.n, str y.s, lst .ro 1 (map (fun n => int .i64 n) y.t), lst .ro 5 (map fldV y.fields)]])))))))) else (kc 3 [] []))
def s_yGreat {α : Type} (A : Alg α) (l : List Stp) (kc : List AV → List (Nat × List AV) → α) : α :=
  A.loop 2 [lst .ro 16 (map stpV l), int .i64 0] [] fun j0 l1 l2 => bif (j0.beq 0) then (asC A l1 fun v3 l4 => asB A v3 fun b5 => asN A l4 (asN A l2 (kc [bool b5] []))) else (bif (j0.beq 1) then (asC A l1 fun v6 l7 => asL A 16 v6 fun l8 => asN A l7 (asN A l2 (A.asm (l8.length ≤ maxL) (kc [bool (decide ((↑l8.length : Int) > (60 : Int)))] [])))) else A.fail)
def s_yGreatL {α : Type} (A : Alg α) (l : List Stp) (i : Int) (next : List AV → List (List AV) → α) (kc : Nat → List AV → List (List AV) → α) : α :=
  A.join (fun x0 => A.asm ((map stpV l).length ≤ maxL) (bif (decide (i < (↑(map stpV l).length : Int))) then (x0 (decide (i < (61 : Int)))) else (x0 false))) fun b1 => bif b1 then (A.join (fun x2 => A.chk (decide ((0 : Int) ≤ i)) (nthE A (map stpV l) i.toNat fun v3 => asA A v3 fun l4 => asC A l4 fun v5 l6 => asI A .i64 v5 fun n7 => asC A l6 fun v8 l9 => asI A .i64 v8 fun n10 => asC A l9 fun v11 l12 => asI A .i64 v11 fun n13 => asC A l12 fun v14 l15 => asI A .i64 v14 fun n16 => asC A l15 fun v17 l18 => asI A .i64 v17 fun n19 => asC A l18 fun v20 l21 => asI A .i64 v20 fun n22 => asC A l21 fun v23 l24 => asI A .i64 v23 fun n25 => asC A l24 fun v26 l27 => asI A .i64 v26 fun n28 => asC A l27 fun v29 l30 => asI A .i64 v29 fun n31 => asC A l30 fun v32 l33 => asI A .i64 v32 fun n34 => asC A l33 fun v35 l36 => asI A .i64 v35 fun n37 => asC A l36 fun v38 l39 => asI A .i64 v38 fun n40 => asC A l39 fun v41 l42 => asI A .i64 v41 fun n43 => asC A l42 fun v44 l45 => asS A v44 fun l46 => asC A l45 fun v47 l48 => asL A 1 v47 fun l49 => asC A l48 fun v50 l51 => asL A 5 v50 fun l52 => asN A l51 (A.asm (l49.length ≤ maxL) (bif (decide ((↑l49.length : Int) > (100 : Int))) then (x2 true) else (A.chk (decide ((0 : Int) ≤ i)) (nthE A (map stpV l) i.toNat fun v53 => asA A v53 fun l54 => asC A l54 fun v55 l56 => asI A .i64 v55 fun n57 => asC A l56 fun v58 l59 => asI A .i64 v58 fun n60 => asC A l59 fun v61 l62 => asI A .i64 v61 fun n63 => asC A l62 fun v64 l65 => asI A .i64 v64 fun n66 => asC A l65 fun v67 l68 => asI A .i64 v67 fun n69 => asC A l68 fun v70 l71 => asI A .i64 v70 fun n72 => asC A l71 fun v73 l74 => asI A .i64 v73 fun n75 => asC A l74 fun v76 l77 => asI A .i64 v76 fun n78 => asC A l77 fun v79 l80 => asI A .i64 v79 fun n81 => asC A l80 fun v82 l83 => asI A .i64 v82 fun n84 => asC A l83 fun v85 l86 => asI A .i64 v85 fun n87 => asC A l86 fun v88 l89 => asI A .i64 v88 fun n90 => asC A l89 fun v91 l92 => asI A .i64 v91 fun n93 => asC A l92 fun v94 l95 => asS A v94 fun l96 => asC A l95 fun v97 l98 => asL A 1 v97 fun l99 => asC A l98 fun v100 l101 => asL A 5 v100 fun l102 => asN A l101 (A.asm (l102.length ≤ maxL) (x2 (decide ((↑l102.length : Int) > (40 : Int))))))))))) fun b103 => bif b103 then (kc 0 [bool true] []) else (next [lst .ro 16 (map stpV l), int .i64 (IntKind.i64.wrap (i + (1 : Int)))] [])) else (kc 1 [lst .ro 16 (map stpV l)] [])
theorem t_tuses (op : Int) {r : CR} (h : s_tuses (OA (tbl E0) (ltbl E0 105 0)) op (fun r o => some (r, o)) = some r) : tbl E0 105 [.int .i64 op] [] = some r :=
  tbl_of (body := bodyOf Try.f105) Try.func105 (by kernel_rfl) (by kernel_rfl) (by kernel_rfl) (Eq.trans (by kernel_rfl) h)
theorem t_tusesA (op : Int) (b : Bool) {r : LR} (h : s_tusesA (OA (tbl E0) (ltbl E0 105 0)) op b (fun vs os => ltbl E0 105 0 1000004 vs os) (fun j vs os => some (j, vs, os)) = some r) : ltbl E0 105 0 1000004 [.int .i64 op, .bool b] [] = some r :=
  ltbl_of (body := bodyOf Try.f105) Try.func105 (by kernel_rfl) (by kernel_rfl) (Eq.trans (by kernel_rfl) h)
theorem t_tusesB (op : Int) (b : Bool) {r : LR} (h : s_tusesB (OA (tbl E0) (ltbl E0 105 0)) op b (fun vs os => ltbl E0 105 0 1000009 vs os) (fun j vs os => some (j, vs, os)) = some r) : ltbl E0 105 0 1000009 [.int .i64 op, .bool b] [] = some r :=
  ltbl_of (body := bodyOf Try.f105) Try.func105 (by kernel_rfl) (by kernel_rfl) (Eq.trans (by kernel_rfl) h)
theorem t_tin (n lo hi : Int) {r : CR} (h : s_tin (OA (tbl E0) (ltbl E0 143 0)) n lo hi (fun r o => some (r, o)) = some r) : tbl E0 143 [.int .i64 n, .int .i64 lo, .int .i64 hi] [] = some r :=
  tbl_of (body := bodyOf Try.f143) Try.func143 (by kernel_rfl) (by kernel_rfl) (by kernel_rfl) (Eq.trans (by kernel_rfl) h)
theorem t_tonly (x : Stp) {r : CR} (h : s_tonly (OA (tbl E0) (ltbl E0 120 0)) x (fun r o => some (r, o)) = some r) : tbl E0 120 [stpV x] [] = some r :=
  tbl_of (body := bodyOf Try.f120) Try.func120 (by kernel_rfl) (by kernel_rfl) (by kernel_rfl) (Eq.trans (by kernel_rfl) h)
theorem t_tonlyL (x y z : Stp) (l : List Int) (m i : Int) {r : LR} (h : s_tonlyL (OA (tbl E0) (ltbl E0 120 0)) x y z l m i (fun vs os => ltbl E0 120 0 3 vs os) (fun j vs os => some (j, vs, os)) = some r) : ltbl E0 120 0 3 [intsV l, .int .i64 m, .int .i64 i] [stpC x, stpC y, stpC z] = some r :=
  ltbl_of (body := bodyOf Try.f120) Try.func120 (by kernel_rfl) (by kernel_rfl) (Eq.trans (by kernel_rfl) h)
theorem t_tapart (l : List Int) (below : Int) {r : CR} (h : s_tapart (OA (tbl E0) (ltbl E0 145 0)) l below (fun r o => some (r, o)) = some r) : tbl E0 145 [intsV l, .int .i64 below] [] = some r :=
  tbl_of (body := bodyOf Try.f145) Try.func145 (by kernel_rfl) (by kernel_rfl) (by kernel_rfl) (Eq.trans (by kernel_rfl) h)
theorem t_tapartL (l : List Int) (below m i : Int) (seen : List Bool) {r : LR} (h : s_tapartL (OA (tbl E0) (ltbl E0 145 0)) l below m i seen (fun vs os => ltbl E0 145 0 3 vs os) (fun j vs os => some (j, vs, os)) = some r) : ltbl E0 145 0 3 [intsV l, .int .i64 below, intsV l, .int .i64 m, .int .i64 i] [seen.map AV.bool] = some r :=
  ltbl_of (body := bodyOf Try.f145) Try.func145 (by kernel_rfl) (by kernel_rfl) (Eq.trans (by kernel_rfl) h)
theorem t_tfits (x : Stp) (p : Int) {r : CR} (h : s_tfits (OA (tbl E0) (ltbl E0 119 0)) x p (fun r o => some (r, o)) = some r) : tbl E0 119 [stpV x, .int .i64 p] [] = some r :=
  tbl_of (body := bodyOf Try.f119) Try.func119 (by kernel_rfl) (by kernel_rfl) (by kernel_rfl) (Eq.trans (by kernel_rfl) h)
theorem t_tRight (x : Stp) {r : CR} (h : s_tRight (OA (tbl E0) (ltbl E0 69 0)) x (fun r o => some (r, o)) = some r) : tbl E0 69 [stpV x] [] = some r :=
  tbl_of (body := bodyOf Try.f69) Try.func69 (by kernel_rfl) (by kernel_rfl) (by kernel_rfl) (Eq.trans (by kernel_rfl) h)
theorem t_tRightL (x : Stp) (l q : List Int) (m i : Int) {r : LR} (h : s_tRightL (OA (tbl E0) (ltbl E0 69 0)) x l q m i (fun vs os => ltbl E0 69 0 3 vs os) (fun j vs os => some (j, vs, os)) = some r) : ltbl E0 69 0 3 [intsV l, intsV q, .int .i64 m, .int .i64 i] [stpC x] = some r :=
  ltbl_of (body := bodyOf Try.f69) Try.func69 (by kernel_rfl) (by kernel_rfl) (Eq.trans (by kernel_rfl) h)
theorem t_tSame (x y : Stp) {r : CR} (h : s_tSame (OA (tbl E0) (ltbl E0 55 0)) x y (fun r o => some (r, o)) = some r) : tbl E0 55 [stpV x, stpV y] [] = some r :=
  tbl_of (body := bodyOf Try.f55) Try.func55 (by kernel_rfl) (by kernel_rfl) (by kernel_rfl) (Eq.trans (by kernel_rfl) h)
theorem t_EqualI (a b : List Int) {r : CR} (h : s_EqualI (OA (tbl E0) (ltbl E0 104 0)) a b (fun r o => some (r, o)) = some r) : tbl E0 104 [intsV a, intsV b] [] = some r :=
  tbl_of (body := bodyOf Try.f104) Try.func104 (by kernel_rfl) (by kernel_rfl) (by kernel_rfl) (Eq.trans (by kernel_rfl) h)
theorem t_EqualIL (a b : List Int) (m i : Int) {r : LR} (h : s_EqualIL (OA (tbl E0) (ltbl E0 104 0)) a b m i (fun vs os => ltbl E0 104 0 4 vs os) (fun j vs os => some (j, vs, os)) = some r) : ltbl E0 104 0 4 [intsV a, intsV b, .int .i64 m, .int .i64 i] [] = some r :=
  ltbl_of (body := bodyOf Try.f104) Try.func104 (by kernel_rfl) (by kernel_rfl) (Eq.trans (by kernel_rfl) h)
theorem t_fHas (f : Fld) (n : Int) (s : List UInt8) {r : CR} (h : s_fHas (OA (tbl E0) (ltbl E0 144 0)) f n s (fun r o => some (r, o)) = some r) : tbl E0 144 [fldV f, .agg [.int .i64 n, .str s]] [] = some r :=
  tbl_of (body := bodyOf Try.f144) Try.func144 (by kernel_rfl) (by kernel_rfl) (by kernel_rfl) (Eq.trans (by kernel_rfl) h)
theorem t_yHas (f : Fld) (n : Int) (s : List UInt8) {r : CR} (h : s_yHas (OA (tbl E0) (ltbl E0 100 0)) f n s (fun r o => some (r, o)) = some r) : tbl E0 100 [fldV f, .agg [.int .i64 n, .str s]] [] = some r :=
  tbl_of (body := bodyOf Try.f100) Try.func100 (by kernel_rfl) (by kernel_rfl) (by kernel_rfl) (Eq.trans (by kernel_rfl) h)
theorem t_yuses (op : Int) {r : CR} (h : s_yuses (OA (tbl E0) (ltbl E0 94 0)) op (fun r o => some (r, o)) = some r) : tbl E0 94 [.int .i64 op] [] = some r :=
  tbl_of (body := bodyOf Try.f94) Try.func94 (by kernel_rfl) (by kernel_rfl) (by kernel_rfl) (Eq.trans (by kernel_rfl) h)
theorem t_yusesA (op : Int) (b : Bool) {r : LR} (h : s_yusesA (OA (tbl E0) (ltbl E0 94 0)) op b (fun vs os => ltbl E0 94 0 1000004 vs os) (fun j vs os => some (j, vs, os)) = some r) : ltbl E0 94 0 1000004 [.int .i64 op, .bool b] [] = some r :=
  ltbl_of (body := bodyOf Try.f94) Try.func94 (by kernel_rfl) (by kernel_rfl) (Eq.trans (by kernel_rfl) h)
theorem t_yusesB (op : Int) (b : Bool) {r : LR} (h : s_yusesB (OA (tbl E0) (ltbl E0 94 0)) op b (fun vs os => ltbl E0 94 0 1000009 vs os) (fun j vs os => some (j, vs, os)) = some r) : ltbl E0 94 0 1000009 [.int .i64 op, .bool b] [] = some r :=
  ltbl_of (body := bodyOf Try.f94) Try.func94 (by kernel_rfl) (by kernel_rfl) (Eq.trans (by kernel_rfl) h)
theorem t_yhas (op c : Int) {r : CR} (h : s_yhas (OA (tbl E0) (ltbl E0 98 0)) op c (fun r o => some (r, o)) = some r) : tbl E0 98 [.int .i64 op, .int .u8 c] [] = some r :=
  tbl_of (body := bodyOf Try.f98) Try.func98 (by kernel_rfl) (by kernel_rfl) (by kernel_rfl) (Eq.trans (by kernel_rfl) h)
theorem t_yhasL (c i : Int) (s : List UInt8) {r : LR} (h : s_yhasL (OA (tbl E0) (ltbl E0 98 0)) c i s (fun vs os => ltbl E0 98 0 3 vs os) (fun j vs os => some (j, vs, os)) = some r) : ltbl E0 98 0 3 [.int .u8 c, .str s, .int .i64 i] [] = some r :=
  ltbl_of (body := bodyOf Try.f98) Try.func98 (by kernel_rfl) (by kernel_rfl) (Eq.trans (by kernel_rfl) h)
theorem t_yzero (x : Stp) {r : CR} (h : s_yzero (OA (tbl E0) (ltbl E0 95 0)) x (fun r o => some (r, o)) = some r) : tbl E0 95 [stpV x] [] = some r :=
  tbl_of (body := bodyOf Try.f95) Try.func95 (by kernel_rfl) (by kernel_rfl) (by kernel_rfl) (Eq.trans (by kernel_rfl) h)
theorem t_ybetween (n lo hi : Int) {r : CR} (h : s_ybetween (OA (tbl E0) (ltbl E0 96 0)) n lo hi (fun r o => some (r, o)) = some r) : tbl E0 96 [.int .i64 n, .int .i64 lo, .int .i64 hi] [] = some r :=
  tbl_of (body := bodyOf Try.f96) Try.func96 (by kernel_rfl) (by kernel_rfl) (by kernel_rfl) (Eq.trans (by kernel_rfl) h)
theorem t_ytable (l : List Int) (below : Int) {r : CR} (h : s_ytable (OA (tbl E0) (ltbl E0 135 0)) l below (fun r o => some (r, o)) = some r) : tbl E0 135 [intsV l, .int .i64 below] [] = some r :=
  tbl_of (body := bodyOf Try.f135) Try.func135 (by kernel_rfl) (by kernel_rfl) (by kernel_rfl) (Eq.trans (by kernel_rfl) h)
theorem t_ytableL (l : List Int) (below i : Int) {r : LR} (h : s_ytableL (OA (tbl E0) (ltbl E0 135 0)) l below i (fun vs os => ltbl E0 135 0 2 vs os) (fun j vs os => some (j, vs, os)) = some r) : ltbl E0 135 0 2 [intsV l, .int .i64 below, .int .i64 i] [] = some r :=
  ltbl_of (body := bodyOf Try.f135) Try.func135 (by kernel_rfl) (by kernel_rfl) (Eq.trans (by kernel_rfl) h)
theorem t_ytableK (l : List Int) (below i k : Int) {r : LR} (h : s_ytableK (OA (tbl E0) (ltbl E0 135 0)) l below i k (fun vs os => ltbl E0 135 0 7 vs os) (fun j vs os => some (j, vs, os)) = some r) : ltbl E0 135 0 7 [intsV l, .int .i64 below, .int .i64 i, .int .i64 k] [] = some r :=
  ltbl_of (body := bodyOf Try.f135) Try.func135 (by kernel_rfl) (by kernel_rfl) (Eq.trans (by kernel_rfl) h)
theorem t_ynumbers (x : Stp) {r : CR} (h : s_ynumbers (OA (tbl E0) (ltbl E0 97 0)) x (fun r o => some (r, o)) = some r) : tbl E0 97 [stpV x] [] = some r :=
  tbl_of (body := bodyOf Try.f97) Try.func97 (by kernel_rfl) (by kernel_rfl) (by kernel_rfl) (Eq.trans (by kernel_rfl) h)
theorem t_ytRight (x : Stp) {r : CR} (h : s_ytRight (OA (tbl E0) (ltbl E0 51 0)) x (fun r o => some (r, o)) = some r) : tbl E0 51 [stpV x] [] = some r :=
  tbl_of (body := bodyOf Try.f51) Try.func51 (by kernel_rfl) (by kernel_rfl) (by kernel_rfl) (Eq.trans (by kernel_rfl) h)
theorem t_ytSame (x y : Stp) {r : CR} (h : s_ytSame (OA (tbl E0) (ltbl E0 47 0)) x y (fun r o => some (r, o)) = some r) : tbl E0 47 [stpV x, stpV y] [] = some r :=
  tbl_of (body := bodyOf Try.f47) Try.func47 (by kernel_rfl) (by kernel_rfl) (by kernel_rfl) (Eq.trans (by kernel_rfl) h)
theorem t_ytSameL (x y : Stp) (i : Int) {r : LR} (h : s_ytSameL (OA (tbl E0) (ltbl E0 47 0)) x y i (fun vs os => ltbl E0 47 0 4 vs os) (fun j vs os => some (j, vs, os)) = some r) : ltbl E0 47 0 4 [.int .i64 i] [stpC x, stpC y] = some r :=
  ltbl_of (body := bodyOf Try.f47) Try.func47 (by kernel_rfl) (by kernel_rfl) (Eq.trans (by kernel_rfl) h)
theorem t_ytSameK (x y : Stp) (i : Int) {r : LR} (h : s_ytSameK (OA (tbl E0) (ltbl E0 47 0)) x y i (fun vs os => ltbl E0 47 0 9 vs os) (fun j vs os => some (j, vs, os)) = some r) : ltbl E0 47 0 9 [.int .i64 i] [stpC x, stpC y] = some r :=
  ltbl_of (body := bodyOf Try.f47) Try.func47 (by kernel_rfl) (by kernel_rfl) (Eq.trans (by kernel_rfl) h)
theorem t_yGreat (l : List Stp) {r : CR} (h : s_yGreat (OA (tbl E0) (ltbl E0 41 0)) l (fun r o => some (r, o)) = some r) : tbl E0 41 [stpsV l] [] = some r :=
  tbl_of (body := bodyOf Try.f41) Try.func41 (by kernel_rfl) (by kernel_rfl) (by kernel_rfl) (Eq.trans (by kernel_rfl) h)
theorem t_yGreatL (l : List Stp) (i : Int) {r : LR} (h : s_yGreatL (OA (tbl E0) (ltbl E0 41 0)) l i (fun vs os => ltbl E0 41 0 2 vs os) (fun j vs os => some (j, vs, os)) = some r) : ltbl E0 41 0 2 [stpsV l, .int .i64 i] [] = some r :=
  ltbl_of (body := bodyOf Try.f41) Try.func41 (by kernel_rfl) (by kernel_rfl) (Eq.trans (by kernel_rfl) h)
end Go.Proofs.Ytmpfeofeokmooaa.V
namespace Go.Proofs.Ytmpfeofeokmooaa.V
open Go
open AV (int lst agg str bool ref clo)
open List (map)
abbrev penA (b : List AV) (e : Int) : List (Nat × List AV) := [(0, [.lst (.own (.E 0 0)) 1 b, .int .i64 e])]
abbrev penV (b : List UInt8) (e : Int) : List (Nat × List AV) := penA (encB b) e
def s_put {α : Type} (A : Alg α) (b : List AV) (m : List AV) (e : Int) (kc : List AV → List (Nat × List AV) → α) : α :=
  A.chk (decide ((b.length + m.length) * 1 ≤ 140737488355328)) (A.chk true (kc [] [(0, [lst (.own (.E 0 0)) 1 (b ++ m), int .i64 e])]))
def s_groups {α : Type} (A : Alg α) (b : List AV) (u : Int) (e : Int) (kc : List AV → List (Nat × List AV) → α) : α :=
  A.loop 0 [int .u64 u] [[lst (.own (.O 0 0)) 1 b, int .i64 e]] fun j0 l1 l2 => bif (j0.beq 1) then (asC A l1 fun v3 l4 => asI A .u64 v3 fun n5 => asN A l4 (asC A l2 fun l6 l7 => asC A l6 fun v8 l9 => asOwn A 1 v8 fun x10 l11 => bif (x10.beq (.O (0 : Nat) (0 : Nat))) then (asC A l9 fun v12 l13 => asI A .i64 v12 fun n14 => asN A l13 (asN A l7 (A.call 108 [ref 0 0, lst .ro 1 [int .u8 (IntKind.u8.wrap n5)]] [(0, [lst (.own (.E 0 0)) 1 l11, int .i64 n14])] fun l15 l16 => asC A l16 fun x17 l18 => bif (x17.1.beq 0) then (asC A x17.2 fun v19 l20 => asOwn A 1 v19 fun x21 l22 => asC A l20 fun v23 l24 => asI A .i64 v23 fun n25 => asN A l24 (asN A l15 (asN A l18 (kc [] [(0, [lst (.own (.E 0 0)) 1 l22, int .i64 n25])])))) else A.fail))) else A.fail)) else A.fail
def s_groupsL {α : Type} (A : Alg α) (b : List AV) (u : Int) (e : Int) (next : List AV → List (List AV) → α) (kc : Nat → List AV → List (List AV) → α) : α :=
  bif (decide (u ≥ (128 : Int))) then (A.call 108 [ref 0 0, lst .ro 1 [int .u8 (bits Go.BinOp.or IntKind.u8 (IntKind.u8.wrap u) (128 : Int))]] [(0, [lst (.own (.E 0 0)) 1 b, int .i64 e])] fun l0 l1 => asC A l1 fun x2 l3 => bif (x2.1.beq 0) then (asC A x2.2 fun v4 l5 => asOwn A 1 v4 fun x6 l7 => asC A l5 fun v8 l9 => asI A .i64 v8 fun n10 => asN A l9 (asN A l0 (asN A l3 (A.chk true (next [int .u64 (u.fdiv ((2 : Int) ^ (7 : Nat)))] [[lst (.own (.O 0 0)) 1 l7, int .i64 n10]]))))) else A.fail) else (kc 1 [int .u64 u] [[lst (.own (.O 0 0)) 1 b, int .i64 e]])
def s_PCount {α : Type} (A : Alg α) (b : List AV) (n : Int) (e : Int) (kc : List AV → List (Nat × List AV) → α) : α :=
  bif (decide (n < (0 : Int))) then (A.chk true (kc [] [(0, [lst (.own (.E 0 0)) 1 b, int .i64 2])])) else (A.call 107 [ref 0 0, int .u64 (IntKind.u64.wrap n)] [(0, [lst (.own (.E 0 0)) 1 b, int .i64 e])] fun l0 l1 => asC A l1 fun x2 l3 => bif (x2.1.beq 0) then (asC A x2.2 fun v4 l5 => asOwn A 1 v4 fun x6 l7 => asC A l5 fun v8 l9 => asI A .i64 v8 fun n10 => asN A l9 (asN A l0 (asN A l3 (kc [] [(0, [lst (.own (.E 0 0)) 1 l7, int .i64 n10])])))) else A.fail)
def s_PNum {α : Type} (A : Alg α) (b : List AV) (n : Int) (e : Int) (kc : List AV → List (Nat × List AV) → α) : α :=
  A.chk true (A.chk true (A.call 107 [ref 0 0, int .u64 (bits Go.BinOp.xor IntKind.u64 (IntKind.u64.wrap (IntKind.u64.wrap n * (2 : Int) ^ (1 : Nat))) (IntKind.u64.wrap (n.fdiv ((2 : Int) ^ (63 : Nat)))))] [(0, [lst (.own (.E 0 0)) 1 b, int .i64 e])] fun l0 l1 => asC A l1 fun x2 l3 => bif (x2.1.beq 0) then (asC A x2.2 fun v4 l5 => asOwn A 1 v4 fun x6 l7 => asC A l5 fun v8 l9 => asI A .i64 v8 fun n10 => asN A l9 (asN A l0 (asN A l3 (kc [] [(0, [lst (.own (.E 0 0)) 1 l7, int .i64 n10])])))) else A.fail))
def s_PWord {α : Type} (A : Alg α) (b : List AV) (n : Int) (e : Int) (kc : List AV → List (Nat × List AV) → α) : α :=
  A.chk true (A.chk true (A.chk true (A.call 108 [ref 0 0, lst .ro 1 [int .u8 (IntKind.u8.wrap (n.fdiv ((2 : Int) ^ (24 : Nat)))), int .u8 (IntKind.u8.wrap (n.fdiv ((2 : Int) ^ (16 : Nat)))), int .u8 (IntKind.u8.wrap (n.fdiv ((2 : Int) ^ (8 : Nat)))), int .u8 (IntKind.u8.wrap n)]] [(0, [lst (.own (.E 0 0)) 1 b, int .i64 e])] fun l0 l1 => asC A l1 fun x2 l3 => bif (x2.1.beq 0) then (asC A x2.2 fun v4 l5 => asOwn A 1 v4 fun x6 l7 => asC A l5 fun v8 l9 => asI A .i64 v8 fun n10 => asN A l9 (asN A l0 (asN A l3 (kc [] [(0, [lst (.own (.E 0 0)) 1 l7, int .i64 n10])])))) else A.fail)))
def s_PText {α : Type} (A : Alg α) (b : List AV) (s : List UInt8) (e : Int) (kc : List AV → List (Nat × List AV) → α) : α :=
  A.asm (s.length ≤ maxL) (A.call 59 [ref 0 0, int .i64 (↑s.length : Int)] [(0, [lst (.own (.E 0 0)) 1 b, int .i64 e])] fun l0 l1 => asC A l1 fun x2 l3 => bif (x2.1.beq 0) then (asC A x2.2 fun v4 l5 => asOwn A 1 v4 fun x6 l7 => asC A l5 fun v8 l9 => asI A .i64 v8 fun n10 => asN A l9 (asN A l0 (asN A l3 (A.call 108 [ref 0 0, lst .ro 1 (encB s)] [(0, [lst (.own (.E 0 0)) 1 l7, int .i64 n10])] fun l11 l12 => asC A l12 fun x13 l14 => bif (x13.1.beq 0) then (asC A x13.2 fun v15 l16 => asOwn A 1 v15 fun x17 l18 => asC A l16 fun v19 l20 => asI A .i64 v19 fun n21 => asN A l20 (asN A l11 (asN A l14 (kc [] [(0, [lst (.own (.E 0 0)) 1 l18, int .i64 n21])])))) else A.fail)))) else A.fail)
def s_CloneB {α : Type} (A : Alg α) (b : List UInt8) (kc : List AV → List (Nat × List AV) → α) : α :=
  nilEq A Md.ro (encB b) fun b0 => bif b0 then (kc [lst .ro 1 []] []) else (A.chk (decide (((0 : Nat) + (encB b).length) * 1 ≤ 140737488355328)) (kc [lst .ro 1 ([] ++ encB b)] []))
def s_PDone {α : Type} (A : Alg α) (b : List AV) (e : Int) (kc : List AV → List (Nat × List AV) → α) : α :=
  bif (e != (0 : Int)) then (kc [lst .ro 1 [], int .i64 e] [(0, [lst (.own (.E 0 0)) 1 b, int .i64 e])]) else (A.callx 109 [lst .ro 1 b] fun l0 => asC A l0 fun v1 l2 => asL A 1 v1 fun l3 => asN A l2 (kc [lst .ro 1 l3, int .i64 0] [(0, [lst (.own (.E 0 0)) 1 b, int .i64 e])]))
def s_New {α : Type} (A : Alg α) (kc : List AV → List (Nat × List AV) → α) : α :=
  A.chk true (kc [ref 64 0] [(64, [lst (.own (.E 64 0)) 1 [], int .i64 0])])
theorem t_put (b m : List AV) (e : Int) {r : CR} (h : s_put (OA (tbl E0) (ltbl E0 108 0)) b m e (fun r o => some (r, o)) = some r) : tbl E0 108 [.ref 0 0, .lst .ro 1 m] (penA b e) = some r :=
  tbl_of (body := bodyOf Try.f108) Try.func108 (by kernel_rfl) (by kernel_rfl) (by kernel_rfl) (Eq.trans (by kernel_rfl) h)
theorem t_groups (b : List AV) (u : Int) (e : Int) {r : CR} (h : s_groups (OA (tbl E0) (ltbl E0 107 0)) b u e (fun r o => some (r, o)) = some r) : tbl E0 107 [.ref 0 0, .int .u64 u] (penA b e) = some r :=
  tbl_of (body := bodyOf Try.f107) Try.func107 (by kernel_rfl) (by kernel_rfl) (by kernel_rfl) (Eq.trans (by kernel_rfl) h)
theorem t_groupsL (b : List AV) (u : Int) (e : Int) {r : LR} (h : s_groupsL (OA (tbl E0) (ltbl E0 107 0)) b u e (fun vs os => ltbl E0 107 0 0 vs os) (fun j vs os => some (j, vs, os)) = some r) : ltbl E0 107 0 0 [.int .u64 u] [[.lst (.own (.O 0 0)) 1 b, .int .i64 e]] = some r :=
  ltbl_of (body := bodyOf Try.f107) Try.func107 (by kernel_rfl) (by kernel_rfl) (Eq.trans (by kernel_rfl) h)
theorem t_PCount (b : List AV) (n : Int) (e : Int) {r : CR} (h : s_PCount (OA (tbl E0) (ltbl E0 59 0)) b n e (fun r o => some (r, o)) = some r) : tbl E0 59 [.ref 0 0, .int .i64 n] (penA b e) = some r :=
  tbl_of (body := bodyOf Try.f59) Try.func59 (by kernel_rfl) (by kernel_rfl) (by kernel_rfl) (Eq.trans (by kernel_rfl) h)
theorem t_PNum (b : List AV) (n : Int) (e : Int) {r : CR} (h : s_PNum (OA (tbl E0) (ltbl E0 133 0)) b n e (fun r o => some (r, o)) = some r) : tbl E0 133 [.ref 0 0, .int .i64 n] (penA b e) = some r :=
  tbl_of (body := bodyOf Try.f133) Try.func133 (by kernel_rfl) (by kernel_rfl) (by kernel_rfl) (Eq.trans (by kernel_rfl) h)
theorem t_PWord (b : List AV) (n : Int) (e : Int) {r : CR} (h : s_PWord (OA (tbl E0) (ltbl E0 82 0)) b n e (fun r o => some (r, o)) = some r) : tbl E0 82 [.ref 0 0, .int .u32 n] (penA b e) = some r :=
  tbl_of (body := bodyOf Try.f82) Try.func82 (by kernel_rfl) (by kernel_rfl) (by kernel_rfl) (Eq.trans (by kernel_rfl) h)
theorem t_PText (b : List AV) (s : List UInt8) (e : Int) {r : CR} (h : s_PText (OA (tbl E0) (ltbl E0 60 0)) b s e (fun r o => some (r, o)) = some r) : tbl E0 60 [.ref 0 0, .str s] (penA b e) = some r :=
  tbl_of (body := bodyOf Try.f60) Try.func60 (by kernel_rfl) (by kernel_rfl) (by kernel_rfl) (Eq.trans (by kernel_rfl) h)
theorem t_CloneB (b : List UInt8) {r : CR} (h : s_CloneB (OA (tbl E0) (ltbl E0 109 0)) b (fun r o => some (r, o)) = some r) : tbl E0 109 [.lst .ro 1 (encB b)] [] = some r :=
  tbl_of (body := bodyOf Try.f109) Try.func109 (by kernel_rfl) (by kernel_rfl) (by kernel_rfl) (Eq.trans (by kernel_rfl) h)
theorem t_PDone (b : List AV) (e : Int) {r : CR} (h : s_PDone (OA (tbl E0) (ltbl E0 61 0)) b e (fun r o => some (r, o)) = some r) : tbl E0 61 [.ref 0 0] (penA b e) = some r :=
  tbl_of (body := bodyOf Try.f61) Try.func61 (by kernel_rfl) (by kernel_rfl) (by kernel_rfl) (Eq.trans (by kernel_rfl) h)
theorem t_New  {r : CR} (h : s_New (OA (tbl E0) (ltbl E0 58 0))  (fun r o => some (r, o)) = some r) : tbl E0 58 [] [] = some r :=
  tbl_of (body := bodyOf Try.f58) Try.func58 (by kernel_rfl) (by kernel_rfl) (by kernel_rfl) (Eq.trans (by kernel_rfl) h)
end Go.Proofs.Ytmpfeofeokmooaa.V
namespace Go.Proofs.Ytmpfeofeokmooaa.V
open Go
open AV (int lst agg str bool ref clo)
open List (map)
end Go.Proofs.Ytmpfeofeokmooaa.V
namespace Go.Proofs.Ytmpfeofeokmooaa.V
open Go
def cnt (u : Nat) : List UInt8 := if u < 128 then [byt u] else byt (u % 128 + 128) :: cnt (u / 128)
termination_by u
decreasing_by omega
def cntI (u : Nat) : List UInt8 := if u < 128 then [] else byt (u % 128 + 128) :: cntI (u / 128)
termination_by u
decreasing_by omega
def cntL (u : Nat) : Nat := if u < 128 then u else cntL (u / 128)
termination_by u
decreasing_by omega
theorem cnt_eq (u : Nat) : cnt u = cntI u ++ [byt (cntL u)] := by
  induction u using cnt.induct with
  | case1 u h => rw [cnt, cntI, cntL]; simp [h]
  | case2 u h ih => rw [cnt, cntI, cntL]; simp [h, ih]
theorem cntL_lt (u : Nat) : cntL u < 128 := by
  induction u using cntL.induct with
  | case1 u h => rw [cntL]; simp [h]
  | case2 u h ih => rw [cntL]; simp [h, ih]
theorem cnt_len (k u : Nat) (h : u < 128 ^ (k + 1)) : (cnt u).length ≤ k + 1 := by
  induction k generalizing u with
  | zero => rw [cnt]; simp at h; simp [h]
  | succ k ih =>
    rw [cnt]
    split
    · simp
    · have : u / 128 < 128 ^ (k + 1) := by rw [Nat.div_lt_iff_lt_mul (by omega)]; rw [Nat.pow_succ] at h; exact h
      have := ih _ this
      simp; omega
theorem cnt_len10 {u : Nat} (h : u < 18446744073709551616) : (cnt u).length ≤ 10 := cnt_len 9 u (Nat.lt_of_lt_of_le h (by decide))
theorem cntI_len {u : Nat} (h : u < 18446744073709551616) : (cntI u).length + 1 ≤ 10 := by
  have := cnt_len10 h
  rw [cnt_eq] at this
  simpa using this
theorem c_put (b m : List AV) (e : Int) (h : b.length + m.length ≤ 140737488355328) : tbl E0 108 [.ref 0 0, .lst .ro 1 m] (penA b e) = some ([], penA (b ++ m) e) :=
  t_put b m e (by simp [s_put, h, penA])
theorem fdiv7 (u : Nat) : (u : Int).fdiv ((2 : Int) ^ (7 : Nat)) = ((u / 128 : Nat) : Int) := by
  rw [Int.fdiv_eq_ediv_of_nonneg _ (by decide)]; omega
theorem or128' (u : Nat) : bits .or .u8 (IntKind.u8.wrap (u : Int)) 128 = ((u % 128 + 128 : Nat) : Int) := by
  rw [wrap_u8, show (u : Int) % 256 = ((u % 256 : Nat) : Int) by omega, or128 _ (by omega)]
  have : u % 256 % 128 = u % 128 := by omega
  rw [this]
theorem c_pgroupsL (u : Nat) : ∀ (b : List AV) (e : Int), u < 18446744073709551616 → b.length + (cntI u).length ≤ 140737488355328 → ltbl E0 107 0 0 [.int .u64 u] [[.lst (.own (.O 0 0)) 1 b, .int .i64 e]] = some (1, [.int .u64 (cntL u : Nat)], [[.lst (.own (.O 0 0)) 1 (b ++ encB (cntI u)), .int .i64 e]]) := by
  induction u using cnt.induct with
  | case1 u h =>
    intro b e hu hb
    refine t_groupsL b u e ?_
    rw [cntL, cntI]
    have : ¬ (128 : Int) ≤ (u : Int) := by omega
    simp [s_groupsL, h, this, encB_nil]
  | case2 u h ih =>
    intro b e hu hb
    refine t_groupsL b u e ?_
    rw [cntI] at hb
    simp only [h, if_false, List.length_cons] at hb
    rw [cntL, cntI]
    have h1 : (128 : Int) ≤ (u : Int) := by omega
    have hp := c_put b [.int .u8 ((u % 128 + 128 : Nat) : Int)] e (by simp; omega)
    simp only [penA] at hp
    have h2 := ih (b ++ [.int .u8 ((u % 128 + 128 : Nat) : Int)]) e (by omega) (by simp; omega)
    simp only [s_groupsL, or128', fdiv7]
    simp only [ge_iff_le, h1, decide_true, cond_true, OA_call, hp, Option.bind_some, u_asC, u_asOwn, u_asI, u_asN, OA_chk, Nat.beq_eq_true_eq, h2, h, if_false]
    simp only [encB_cons, byt_toNat (show u % 128 + 128 < 256 by omega), List.append_assoc, List.singleton_append]
    rfl
theorem c_pgroups (b : List AV) (u : Nat) (e : Int) (hu : u < 18446744073709551616) (hb : b.length + 10 ≤ 140737488355328) : tbl E0 107 [.ref 0 0, .int .u64 u] (penA b e) = some ([], penA (b ++ encB (cnt u)) e) :=
  t_groups b u e (by
    have hl := cntI_len hu
    have h1 := c_pgroupsL u b e hu (by omega)
    have h2 := c_put (b ++ encB (cntI u)) [.int .u8 (cntL u : Nat)] e (by simp; omega)
    have h3 := cntL_lt u
    simp only [penA] at h2
    simp [s_groups, h1, wrap_u8_id (show (0 : Int) ≤ (cntL u : Nat) by omega) (by omega), h2, penA, cnt_eq, encB_append, encB_cons, encB_nil, byt_toNat (show cntL u < 256 by omega)])
end Go.Proofs.Ytmpfeofeokmooaa.V
namespace Go.Proofs.Ytmpfeofeokmooaa.V
open Go
theorem c_PCount (b : List AV) (n e : Int) (hb : b.length + 10 ≤ 140737488355328) (hn : n ≤ 9223372036854775807) : tbl E0 59 [.ref 0 0, .int .i64 n] (penA b e) = some ([], if n < 0 then penA b 2 else penA (b ++ encB (cnt n.toNat)) e) :=
  t_PCount b n e (by
    by_cases h : n < 0
    · simp [s_PCount, h]
    · have h1 := c_pgroups b n.toNat e (by omega) hb
      rw [Int.toNat_of_nonneg (by omega)] at h1
      simp [s_PCount, h, wrap_u64_id (show 0 ≤ n by omega) (by omega), h1])
theorem c_PNum (b : List AV) (n e : Int) (hb : b.length + 10 ≤ 140737488355328) (h : -9223372036854775808 ≤ n) (h' : n ≤ 9223372036854775807) : tbl E0 133 [.ref 0 0, .int .i64 n] (penA b e) = some ([], penA (b ++ encB (cnt (zz n))) e) :=
  t_PNum b n e (by simp [s_PNum, xor_zz h h', c_pgroups b (zz n) e (zz_lt h h') hb, -Int.reducePow])
def word4 (n : Nat) : List UInt8 := [byt (n / 16777216), byt (n / 65536 % 256), byt (n / 256 % 256), byt (n % 256)]
theorem c_PWord (b : List AV) (n : Nat) (e : Int) (hb : b.length + 4 ≤ 140737488355328) (hn : n < 4294967296) : tbl E0 82 [.ref 0 0, .int .u32 (n : Int)] (penA b e) = some ([], penA (b ++ encB (word4 n)) e) :=
  t_PWord b n e (by
    have e1 : IntKind.u8.wrap ((n : Int).fdiv ((2 : Int) ^ (24 : Nat))) = ((byt (n / 16777216)).toNat : Int) := by rw [Int.fdiv_eq_ediv_of_nonneg _ (by decide), wrap_u8, byt_toNat (by omega)]; omega
    have e2 : IntKind.u8.wrap ((n : Int).fdiv ((2 : Int) ^ (16 : Nat))) = ((byt (n / 65536 % 256)).toNat : Int) := by rw [Int.fdiv_eq_ediv_of_nonneg _ (by decide), wrap_u8, byt_toNat (by omega)]; omega
    have e3 : IntKind.u8.wrap ((n : Int).fdiv ((2 : Int) ^ (8 : Nat))) = ((byt (n / 256 % 256)).toNat : Int) := by rw [Int.fdiv_eq_ediv_of_nonneg _ (by decide), wrap_u8, byt_toNat (by omega)]; omega
    have e4 : IntKind.u8.wrap (n : Int) = ((byt (n % 256)).toNat : Int) := by rw [wrap_u8, byt_toNat (by omega)]; omega
    unfold s_PWord
    rw [e1, e2, e3, e4]
    have hp := c_put b (encB (word4 n)) e (by simpa [word4] using hb)
    rw [show encB (word4 n) = [.int .u8 ((byt (n / 16777216)).toNat : Int), .int .u8 ((byt (n / 65536 % 256)).toNat : Int), .int .u8 ((byt (n / 256 % 256)).toNat : Int), .int .u8 ((byt (n % 256)).toNat : Int)] from rfl] at hp
    simp only [OA_chk, cond_true, OA_call, hp, Option.bind_some, u_asC, u_asOwn, u_asI, u_asN, Nat.beq_eq_true_eq]
    rfl)
theorem c_PText (b : List AV) (s : List UInt8) (e : Int) (hb : b.length + 10 + s.length ≤ 140737488355328) : tbl E0 60 [.ref 0 0, .str s] (penA b e) = some ([], penA (b ++ encB (cnt s.length ++ s)) e) :=
  t_PText b s e (by
    have h1 := c_PCount b s.length e (by omega) (by omega)
    have h0 : ¬ ((s.length : Int) < 0) := by omega
    have hc := cnt_len10 (u := s.length) (by omega)
    simp only [h0, if_false, Int.toNat_natCast] at h1
    have h2 := c_put (b ++ encB (cnt s.length)) (encB s) e (by simp; omega)
    simp [s_PText, h1, h2, encB_append])
theorem c_CloneB (b : List UInt8) (hb : b.length ≤ 140737488355328) : tbl E0 109 [.lst .ro 1 (encB b)] [] = some ([.lst .ro 1 (encB b)], []) :=
  t_CloneB b (by
    unfold s_CloneB
    cases b with
    | nil => exact OA_amb_same fun b => by cases b <;> rfl
    | cons c l => simp only [encB_cons, u_nil_cons, cond_false, List.length_cons, encB_length, OA_chk]; simp at hb; simp [hb])
theorem c_PDone (b : List UInt8) (e : Int) (hb : b.length ≤ 140737488355328) : tbl E0 61 [.ref 0 0] (penV b e) = some ([.lst .ro 1 (if e = 0 then encB b else []), .int .i64 e], penV b e) :=
  t_PDone (encB b) e (by
    by_cases h : e = 0
    · subst h; simp [s_PDone, c_CloneB b hb]
    · simp [s_PDone, h, bne_t h])
theorem c_New : tbl E0 58 [] [] = some ([.ref 64 0], [(64, [.lst (.own (.E 64 0)) 1 [], .int .i64 0])]) := t_New rfl
end Go.Proofs.Ytmpfeofeokmooaa.V
namespace Go.Proofs.Ytmpfeofeokmooaa.V
open Go
end Go.Proofs.Ytmpfeofeokmooaa.V
namespace Go.Proofs.Ytmpfeofeokmooaa.V
open Go
end Go.Proofs.Ytmpfeofeokmooaa.V
namespace Go.Proofs.Ytmpfeofeokmooaa.V
open Go
end Go.Proofs.Ytmpfeofeokmooaa.V
namespace Go.Proofs.Ytmpfeofeokmooaa.V
open Go
end Go.Proofs.Ytmpfeofeokmooaa.V
namespace Go.Proofs.Ytmpfeofeokmooaa.V
open Go
theorem rgtS_1 {f : Fld} (k : f.kind = 1) : rgtS f = (decide (0 ≤ f.id) && (decide (f.id ≤ 255) && (decide (-1099511627776 ≤ f.lo) && (decide (f.lo ≤ f.hi) && (decide (f.hi ≤ 1099511627776) && decide (f.most = 0)))))) := by
  simp [rgtS, k, Bool.and_assoc, Bool.decide_and]
theorem rgtS_2 {f : Fld} (k : f.kind = 2) : rgtS f = (decide (0 ≤ f.id) && (decide (f.id ≤ 255) && (decide (f.lo = 0) && (decide (f.hi = 0) && decide (f.most = 0))))) := by
  simp [rgtS, k, Bool.and_assoc, Bool.decide_and]
theorem rgtS_3 {f : Fld} (k : f.kind = 3) : rgtS f = (decide (0 ≤ f.id) && (decide (f.id ≤ 255) && (decide (f.lo = 0) && (decide (f.hi = 0) && (decide (1 ≤ f.most) && decide (f.most ≤ 1000)))))) := by
  simp [rgtS, k, Bool.and_assoc, Bool.decide_and]
theorem rgtS_4 {f : Fld} (k : f.kind = 4) : rgtS f = (decide (0 ≤ f.id) && (decide (f.id ≤ 255) && (decide (f.lo = 0) && (decide (f.hi = 0) && (decide (0 ≤ f.most) && decide (f.most ≤ 32)))))) := by
  simp [rgtS, k, Bool.and_assoc, Bool.decide_and]
theorem rgtS_0 {f : Fld} (k1 : f.kind ≠ 1) (k2 : f.kind ≠ 2) (k3 : f.kind ≠ 3) (k4 : f.kind ≠ 4) : rgtS f = false := by
  simp [rgtS, k1, k2, k3, k4]
theorem c_fRight (f : Fld) : tbl E0 142 [fldV f] [] = some ([.bool (rgtS f)], []) :=
  t_fRight f (by
    unfold s_fRight
    by_cases i0 : f.id < 0
    · have : rgtS f = false := by have : ¬ (0 ≤ f.id) := by omega
                                  simp [rgtS, this]
      simp [i0, this]
    · by_cases i1 : 255 < f.id
      · have : rgtS f = false := by have : ¬ (f.id ≤ 255) := by omega
                                    simp [rgtS, this]
        simp [i0, i1, this]
      · have j0 : 0 ≤ f.id := by omega
        have j1 : f.id ≤ 255 := by omega
        simp only [OA_chk, cond_true, OA_join, i0, decide_false, cond_false, show ¬ (f.id > 255) from i1, Option.bind_some, Tok.untok_tok, tok_cond]
        by_cases k1 : f.kind = 1
        · rw [rgtS_1 k1]
          by_cases a : -1099511627776 ≤ f.lo <;> by_cases b : f.lo ≤ f.hi <;> by_cases c : f.hi ≤ 1099511627776 <;> by_cases d : f.lo = 0 <;> by_cases e : f.most = 0 <;> simp [*]
        · by_cases k2 : f.kind = 2
          · rw [rgtS_2 k2]
            by_cases a : f.lo = 0 <;> by_cases b : f.hi = 0 <;> by_cases e : f.most = 0 <;> simp [*]
          · by_cases k3 : f.kind = 3
            · rw [rgtS_3 k3]
              by_cases a : f.lo = 0 <;> by_cases b : f.hi = 0 <;> by_cases c : 1 ≤ f.most <;> simp [*]
            · by_cases k4 : f.kind = 4
              · rw [rgtS_4 k4]
                by_cases a : f.lo = 0 <;> by_cases b : f.hi = 0 <;> by_cases c : 0 ≤ f.most <;> simp [*]
              · rw [rgtS_0 k1 k2 k3 k4]
                by_cases a : f.lo = 0 <;> simp [*])
theorem c_fbounds (f : Fld) (h : f.kind = 3 → rgtS f = true) : tbl E0 156 [fldV f] [] = some ([.int .i64 (loS f), .int .i64 (hiS f)], []) :=
  t_fbounds f (by
    unfold s_fbounds
    by_cases k1 : f.kind = 1
    · simp [k1, loS, hiS]
    · by_cases k2 : f.kind = 2
      · simp [k2, loS, hiS]
      · by_cases k3 : f.kind = 3
        · have h' := h k3
          rw [rgtS_3 k3] at h'
          simp only [Bool.and_eq_true, decide_eq_true_eq] at h'
          rw [wrap_i64 _ (by omega) (by omega)]
          simp [k3, loS, hiS]
        · simp [k1, k2, k3, loS, hiS])
theorem c_fwidthL (n : Nat) : ∀ (w : Nat), n < 9223372036854775808 → w + n < 9223372036854775808 → ltbl E0 162 0 2 [.int .i64 (n : Int), .int .i64 (w : Int)] [] = some (1, [.int .i64 ((w + wdS n : Nat) : Int)], []) := by
  induction n using wdS.induct with
  | case1 =>
    intro w hn hw
    exact t_fwidthL _ _ (by rw [wdS]; simp [s_fwidthL])
  | case2 n h ih =>
    intro w hn hw
    refine t_fwidthL _ _ ?_
    have h0 : (n : Int) > 0 := by omega
    have e : (n : Int).fdiv ((2 : Int) ^ (8 : Nat)) = ((n / 256 : Nat) : Int) := by rw [Int.fdiv_eq_ediv_of_nonneg _ (by decide)]; omega
    have e2 : IntKind.i64.wrap ((w : Int) + 1) = ((w + 1 : Nat) : Int) := by rw [wrap_i64 _ (by omega) (by omega)]; omega
    have e3 : wdS n = wdS (n / 256) + 1 := by rw [wdS]; simp [h]
    have := ih (w + 1) (by omega) (by omega)
    rw [e3, show w + (wdS (n / 256) + 1) = w + 1 + wdS (n / 256) by omega, ← this]
    simp only [s_fwidthL, h0, decide_true, cond_true, OA_chk, e, e2]
theorem c_fwidth (n : Int) (h : n < 9223372036854775808) : tbl E0 162 [.int .i64 n] [] = some ([.int .i64 (wdS n.toNat : Nat)], []) :=
  t_fwidth n (by
    by_cases h0 : 0 ≤ n
    · have := c_fwidthL n.toNat 0 (by omega) (by omega)
      rw [show (n.toNat : Int) = n by omega] at this
      simp only [Int.natCast_zero] at this
      simp [s_fwidth, this]
    · have e : ltbl E0 162 0 2 [.int .i64 n, .int .i64 0] [] = some (1, [.int .i64 0], []) := t_fwidthL _ _ (by
        have : ¬ (0 < n) := by omega
        simp [s_fwidthL, this])
      have e0 : n.toNat = 0 := by omega
      rw [e0, wdS]
      simp [s_fwidth, e])
theorem c_ywideL (n : Nat) : ∀ (w : Nat), n < 9223372036854775808 → w + n < 9223372036854775808 → ltbl E0 159 0 2 [.int .i64 (n : Int), .int .i64 (w : Int)] [] = some (1, [.int .i64 ((w + wdS n : Nat) : Int)], []) := by
  induction n using wdS.induct with
  | case1 =>
    intro w hn hw
    exact t_ywideL _ _ (by rw [wdS]; simp [s_ywideL])
  | case2 n h ih =>
    intro w hn hw
    refine t_ywideL _ _ ?_
    have h0 : (n : Int) > 0 := by omega
    have e : IntKind.i64.wrap ((n : Int).tdiv 256) = ((n / 256 : Nat) : Int) := by
      have e1 : (n : Int).tdiv 256 = ((n / 256 : Nat) : Int) := by rw [Int.tdiv_eq_ediv_of_nonneg (by omega)]; omega
      rw [e1, wrap_i64 _ (by omega) (by omega)]
    have e2 : IntKind.i64.wrap ((w : Int) + 1) = ((w + 1 : Nat) : Int) := by rw [wrap_i64 _ (by omega) (by omega)]; omega
    have e3 : wdS n = wdS (n / 256) + 1 := by rw [wdS]; simp [h]
    have := ih (w + 1) (by omega) (by omega)
    rw [e3, show w + (wdS (n / 256) + 1) = w + 1 + wdS (n / 256) by omega, ← this]
    simp only [s_ywideL, h0, decide_true, cond_true, OA_chk, e, e2]
theorem c_ywide (n : Int) (h : n < 9223372036854775808) : tbl E0 159 [.int .i64 n] [] = some ([.int .i64 (wdS n.toNat : Nat)], []) :=
  t_ywide n (by
    by_cases h0 : 0 ≤ n
    · have := c_ywideL n.toNat 0 (by omega) (by omega)
      rw [show (n.toNat : Int) = n by omega] at this
      simp only [Int.natCast_zero] at this
      simp [s_ywide, this]
    · have e : ltbl E0 159 0 2 [.int .i64 n, .int .i64 0] [] = some (1, [.int .i64 0], []) := t_ywideL _ _ (by
        have : ¬ (0 < n) := by omega
        simp [s_ywideL, this])
      have e0 : n.toNat = 0 := by omega
      rw [e0, wdS]
      simp [s_ywide, e])
theorem rgt_rng {f : Fld} (h : rgtS f = true) : 0 ≤ f.id ∧ f.id ≤ 255 ∧ (f.kind = 1 ∨ f.kind = 2 ∨ f.kind = 3 ∨ f.kind = 4) ∧ 0 ≤ hiS f - loS f ∧ hiS f - loS f ≤ 2199023255552 ∧ (f.kind ≠ 1 → f.lo = 0 ∧ f.hi = 0) ∧ (f.kind = 1 → -1099511627776 ≤ f.lo ∧ f.lo ≤ f.hi ∧ f.hi ≤ 1099511627776 ∧ f.most = 0) ∧ 0 ≤ f.most ∧ f.most ≤ 1000 ∧ (f.kind = 4 → f.most ≤ 32) ∧ (f.kind = 3 → 1 ≤ f.most) ∧ (f.kind = 2 → f.most = 0) := by
  by_cases k1 : f.kind = 1
  · rw [rgtS_1 k1] at h; simp [k1, loS, hiS] at h ⊢; omega
  · by_cases k2 : f.kind = 2
    · rw [rgtS_2 k2] at h; simp [k2, loS, hiS] at h ⊢; omega
    · by_cases k3 : f.kind = 3
      · rw [rgtS_3 k3] at h; simp [k3, loS, hiS] at h ⊢; omega
      · by_cases k4 : f.kind = 4
        · rw [rgtS_4 k4] at h; simp [k4, loS, hiS] at h ⊢; omega
        · rw [rgtS_0 k1 k2 k3 k4] at h; cases h
theorem c_fwide (f : Fld) (h : rgtS f = true) : tbl E0 160 [fldV f] [] = some ([.int .i64 (wdS (hiS f - loS f).toNat : Nat)], []) :=
  t_fwide f (by
    have r := rgt_rng h
    have e := c_fbounds f (fun _ => h)
    have e2 := c_fwidth (hiS f - loS f) (by omega)
    simp only [s_fwide, OA_chk, cond_true, OA_callx, e, Option.bind_some, u_asC, u_asI, u_asN, wrap_i64 (hiS f - loS f) (by omega) (by omega), e2])
theorem c_fSize (f : Fld) : tbl E0 155 [fldV f] [] = some ([.int .i64 (sizeS f)], []) :=
  t_fSize f (by
    have e := c_fRight f
    simp only [s_fSize, OA_chk, cond_true, OA_callx, e, Option.bind_some, u_asC, u_asB, u_asI, u_asN]
    cases h : rgtS f with
    | false => simp [sizeS, h]
    | true =>
      have r := rgt_rng h
      have e2 := c_fwide f h
      by_cases k4 : f.kind = 4
      · rw [wrap_i64 (f.most + 1) (by omega) (by omega)]
        simp [sizeS, h, k4]
      · by_cases k2 : f.kind = 2
        · simp [sizeS, h, k2, hiS, loS, wdS]
        · simp only [sizeS, h, k4, k2, beq_f k4, beq_f k2, if_true, if_false, Bool.not_true, cond_false, e2, Option.bind_some, u_asC, u_asI, u_asN])
theorem c_ySpan (f : Fld) : ∃ lo hi most, tbl E0 136 [fldV f] [] = some ([.int .i64 lo, .int .i64 hi, .int .i64 most, .bool (rgtS f)], []) ∧ (rgtS f = true → lo = loS f ∧ hi = hiS f ∧ most = if f.kind = 4 then f.most else 0) := by
  by_cases k1 : f.kind = 1
  · refine ⟨f.lo, f.hi, 0, t_ySpan f ?_, fun _ => by simp [k1, loS, hiS]⟩
    rw [rgtS_1 k1]
    simp only [s_ySpan]
    by_cases a : 0 ≤ f.id <;> by_cases b : f.id ≤ 255 <;> by_cases c : -1099511627776 ≤ f.lo <;> by_cases d : f.lo ≤ f.hi <;> by_cases e : f.hi ≤ 1099511627776 <;> by_cases e2 : f.most = 0 <;> simp [*]
  · by_cases k2 : f.kind = 2
    · refine ⟨0, 1, 0, t_ySpan f ?_, fun _ => by simp [k2, loS, hiS]⟩
      rw [rgtS_2 k2]
      simp only [s_ySpan]
      by_cases a : 0 ≤ f.id <;> by_cases b : f.id ≤ 255 <;> by_cases c : f.lo = 0 <;> by_cases d : f.hi = 0 <;> by_cases e2 : f.most = 0 <;> simp [*]
    · by_cases k3 : f.kind = 3
      · refine ⟨0, IntKind.i64.wrap (f.most - 1), 0, t_ySpan f ?_, fun h => ?_⟩
        · rw [rgtS_3 k3]
          simp only [s_ySpan]
          by_cases a : 0 ≤ f.id <;> by_cases b : f.id ≤ 255 <;> by_cases c : f.lo = 0 <;> by_cases d : f.hi = 0 <;> by_cases e : 1 ≤ f.most <;> simp [*]
        · have r := rgt_rng h
          rw [wrap_i64 _ (by omega) (by omega)]
          simp [k3, loS, hiS]
      · by_cases k4 : f.kind = 4
        · refine ⟨0, 0, f.most, t_ySpan f ?_, fun _ => by simp [k4, loS, hiS]⟩
          rw [rgtS_4 k4]
          simp only [s_ySpan]
          by_cases a : 0 ≤ f.id <;> by_cases b : f.id ≤ 255 <;> by_cases c : f.lo = 0 <;> by_cases d : f.hi = 0 <;> by_cases e : 0 ≤ f.most <;> simp [*]
        · refine ⟨0, 0, 0, t_ySpan f ?_, fun h => by rw [rgtS_0 k1 k2 k3 k4] at h; cases h⟩
          rw [rgtS_0 k1 k2 k3 k4]
          simp only [s_ySpan]
          by_cases a : 0 ≤ f.id <;> simp [*]
theorem c_yRight (f : Fld) : tbl E0 99 [fldV f] [] = some ([.bool (rgtS f)], []) := by
  obtain ⟨lo, hi, most, e, _⟩ := c_ySpan f
  exact t_yRight f (by simp only [s_yRight, OA_chk, cond_true, OA_callx, e, Option.bind_some, u_asC, u_asI, u_asB, u_asN])
theorem c_ySize (f : Fld) : tbl E0 154 [fldV f] [] = some ([.int .i64 (sizeS f)], []) := by
  obtain ⟨lo, hi, most, e, h⟩ := c_ySpan f
  refine t_ySize f ?_
  simp only [s_ySize, OA_chk, cond_true, OA_callx, e, Option.bind_some, u_asC, u_asI, u_asB, u_asN]
  cases hr : rgtS f with
  | false => simp [sizeS, hr]
  | true =>
    obtain ⟨rfl, rfl, rfl⟩ := h hr
    have r := rgt_rng hr
    by_cases k4 : f.kind = 4
    · rw [if_pos k4, wrap_i64 (1 + f.most) (by omega) (by omega)]
      simp [sizeS, hr, k4, Int.add_comm]
    · have e2 := c_ywide (hiS f - loS f) (by omega)
      simp only [sizeS, hr, k4, beq_f k4, if_true, if_false, Bool.not_true, cond_false, wrap_i64 (hiS f - loS f) (by omega) (by omega), e2, Option.bind_some, u_asC, u_asI, u_asN]
end Go.Proofs.Ytmpfeofeokmooaa.V
namespace Go.Proofs.Ytmpfeofeokmooaa.V
open Go
theorem drop_c {α : Type} {l r : List α} {i : Nat} {a : α} (h : l.drop i = a :: r) : i < l.length ∧ l[i]? = some a ∧ l.drop (i + 1) = r := by
  have hlt : i < l.length := by
    rcases Nat.lt_or_ge i l.length with h' | h'
    · exact h'
    · rw [List.drop_eq_nil_of_le h'] at h; cases h
  rw [List.drop_eq_getElem_cons hlt] at h
  injection h with h1 h2
  exact ⟨hlt, by rw [List.getElem?_eq_getElem hlt, h1], h2⟩
theorem i64_succ {i : Nat} (h : i < 9223372036854775807) : IntKind.i64.wrap ((i : Int) + 1) = ((i + 1 : Nat) : Int) := by rw [wrap_i64 _ (by omega) (by omega)]; omega
theorem wdS_le (k : Nat) : ∀ n, n < 256 ^ k → wdS n ≤ k := by
  induction k with
  | zero => intro n h; simp at h; subst h; rw [wdS]; simp
  | succ k ih =>
    intro n h
    rw [wdS]
    split
    · omega
    · have := ih (n / 256) (by rw [Nat.div_lt_iff_lt_mul (by omega)]; rw [Nat.pow_succ] at h; exact h)
      omega
theorem sizeS_rng (f : Fld) : 0 ≤ sizeS f ∧ sizeS f ≤ 33 := by
  unfold sizeS
  split
  · rename_i h
    have r := rgt_rng h
    split
    · rename_i k; have := r.2.2.2.2.2.2.2.2.2.1 k; omega
    · have := wdS_le 6 (hiS f - loS f).toNat (by have : (256 : Nat) ^ 6 = 281474976710656 := by decide
                                                 omega)
      omega
  · omega
theorem longS_cons (f : Fld) (l : List Fld) : longS (f :: l) = sizeS f + longS l := by simp [longS]
theorem c_sLongL (l : List Fld) (hl : l.length ≤ 140737488355328) : ∀ (r : List Fld) (i : Nat) (n : Int), l.drop i = r → 0 ≤ n → n ≤ 33 * i →
    ltbl E0 141 0 3 [.int .i64 n, fldsV l, .int .i64 l.length, .int .i64 i] [] = some (1, [.int .i64 (n + longS r)], []) := by
  intro r
  induction r with
  | nil =>
    intro i n hr h0 h1
    have h : l.length ≤ i := by simpa using hr
    refine t_sLongL _ _ _ _ ?_
    have : ¬ ((i : Int) < l.length) := by omega
    simp [s_sLongL, this, longS]
  | cons f r ih =>
    intro i n hr h0 h1
    obtain ⟨hlt, hget, hr2⟩ := drop_c hr
    have hs := sizeS_rng f
    have h2 : (i : Int) < l.length := by omega
    have e1 := i64_succ (i := i) (by omega)
    have e2 : IntKind.i64.wrap (n + sizeS f) = n + sizeS f := wrap_i64 _ (by omega) (by omega)
    have h := ih (i + 1) (n + sizeS f) hr2 (by omega) (by omega)
    have c := c_fSize f
    refine t_sLongL _ _ _ _ ?_
    rw [longS_cons, ← Int.add_assoc, ← h]
    simp only [s_sLongL, h2, decide_true, cond_true, OA_chk, Int.natCast_nonneg, nthE, Int.toNat_natCast, List.getElem?_map, hget, Option.map_some, u_asA, u_asC, u_asI, u_asN, OA_callx, c, Option.bind_some, e1, e2]
theorem c_sLong (f : Frm) (h : f.fields.length ≤ 140737488355328) : tbl E0 141 [frmV f] [] = some ([.int .i64 (longS f.fields)], []) :=
  t_sLong f (by
    have e := c_sLongL f.fields h f.fields 0 0 rfl (by omega) (by omega)
    simp only [Int.natCast_zero, Int.zero_add] at e
    simp [s_sLong, e])
theorem c_yLongL (f : Frm) (hl : f.fields.length ≤ 140737488355328) : ∀ (r : List Fld) (i : Nat) (n : Int), f.fields.drop i = r → 0 ≤ n → n ≤ 33 * i →
    ltbl E0 134 0 3 [.int .i64 n, .int .i64 i] [[.int .i64 f.id, fldsV f.fields]] = some (1, [.int .i64 (n + longS r)], []) := by
  intro r
  induction r with
  | nil =>
    intro i n hr h0 h1
    have h : f.fields.length ≤ i := by simpa using hr
    refine t_yLongL _ _ _ ?_
    have : ¬ ((i : Int) < f.fields.length) := by omega
    simp [s_yLongL, this, longS]
  | cons x r ih =>
    intro i n hr h0 h1
    obtain ⟨hlt, hget, hr2⟩ := drop_c hr
    have hs := sizeS_rng x
    have h2 : (i : Int) < f.fields.length := by omega
    have e1 := i64_succ (i := i) (by omega)
    have e2 : IntKind.i64.wrap (n + sizeS x) = n + sizeS x := wrap_i64 _ (by omega) (by omega)
    have h := ih (i + 1) (n + sizeS x) hr2 (by omega) (by omega)
    have c := c_ySize x
    refine t_yLongL _ _ _ ?_
    rw [longS_cons, ← Int.add_assoc, ← h]
    simp only [s_yLongL, OA_asm, List.length_map, h2, decide_true, cond_true, OA_chk, Int.natCast_nonneg, nthE, Int.toNat_natCast, List.getElem?_map, hget, Option.map_some, u_asA, u_asC, u_asI, u_asN, OA_callx, c, Option.bind_some, e1, e2]
theorem c_yLong (f : Frm) (h : f.fields.length ≤ 140737488355328) : tbl E0 134 [frmV f] [] = some ([.int .i64 (longS f.fields)], []) :=
  t_yLong f (by
    have e := c_yLongL f h f.fields 0 0 rfl (by omega) (by omega)
    simp only [Int.natCast_zero, Int.zero_add] at e
    simp [s_yLong, e])
def atS (l : List Fld) (id : Int) : Int := firstS (fun f : Fld => f.id == id) l
def fromS {α : Type} (p : α → Bool) (i : Nat) (l : List α) : LR := match l.findIdx? p with | some j => (0, [.int .i64 ((i + j : Nat) : Int)], []) | none => (1, [], [])
theorem fromS_nil {α : Type} (p : α → Bool) (i : Nat) : fromS p i [] = (1, [], []) := rfl
theorem fromS_cons {α : Type} (p : α → Bool) (i : Nat) (a : α) (l : List α) : fromS p i (a :: l) = if p a then (0, [.int .i64 (i : Int)], []) else fromS p (i + 1) l := by
  unfold fromS
  rw [List.findIdx?_cons]
  cases p a with
  | true => simp
  | false =>
    simp only [Bool.false_eq_true, if_false]
    cases l.findIdx? p with
    | none => rfl
    | some j => simp [Nat.add_assoc, Nat.add_comm 1 j]
theorem c_yAtL (f : Frm) (id : Int) (hl : f.fields.length ≤ 140737488355328) : ∀ (r : List Fld) (i : Nat), f.fields.drop i = r →
    ltbl E0 78 0 2 [.int .i64 id, .int .i64 i] [[.int .i64 f.id, fldsV f.fields]] = some (fromS (fun f : Fld => f.id == id) i r) := by
  intro r
  induction r with
  | nil =>
    intro i hr
    have h : f.fields.length ≤ i := by simpa using hr
    refine t_yAtL _ _ _ ?_
    have : ¬ ((i : Int) < f.fields.length) := by omega
    simp [s_yAtL, this, fromS_nil]
  | cons x r ih =>
    intro i hr
    obtain ⟨hlt, hget, hr2⟩ := drop_c hr
    have h2 : (i : Int) < f.fields.length := by omega
    have e1 := i64_succ (i := i) (by omega)
    have h := ih (i + 1) hr2
    refine t_yAtL _ _ _ ?_
    rw [fromS_cons]
    simp only [s_yAtL, OA_asm, List.length_map, h2, decide_true, cond_true, OA_chk, Int.natCast_nonneg, nthE, Int.toNat_natCast, List.getElem?_map, hget, Option.map_some, u_asA, u_asC, u_asI, u_asB, u_asN, e1, h]
    cases x.id == id <;> rfl
theorem c_yAt (f : Frm) (id : Int) (h : f.fields.length ≤ 140737488355328) : tbl E0 78 [frmV f, .int .i64 id] [] = some ([.int .i64 (atS f.fields id)], []) :=
  t_yAt f id (by
    have e := c_yAtL f id h f.fields 0 rfl
    simp only [Int.natCast_zero] at e
    simp only [s_yAt, OA_chk, cond_true, OA_loop, e, Option.bind_some, fromS, atS, firstS]
    cases f.fields.findIdx? (fun f : Fld => f.id == id) <;> simp)
theorem setAt_bool (s : List Bool) (k : Nat) (b : Bool) : setAt (s.map AV.bool) k [AV.bool b] = (s.set k b).map AV.bool := by
  simp [setAt, List.map_set]
theorem all_flat_bool (s : List Bool) : (s.map AV.bool).all AV.flat1 = true := by
  simp [List.all_map, Function.comp_def, AV.flat1]
def freshS : List Bool → List Fld → Bool
  | _, [] => true
  | s, f :: l => rgtS f && !((s[f.id.toNat]?).getD false) && freshS (s.set f.id.toNat true) l
theorem c_sFineL (l : List Fld) (hl : l.length ≤ 140737488355328) : ∀ (r : List Fld) (i : Nat) (s : List Bool), l.drop i = r → s.length = 256 →
    ltbl E0 118 0 5 [fldsV l, .int .i64 l.length, .int .i64 i] [s.map AV.bool] = some (if freshS s r then (1, [], []) else (0, [.bool false], [])) := by
  intro r
  induction r with
  | nil =>
    intro i s hr hs
    have h : l.length ≤ i := by simpa using hr
    refine t_sFineL _ _ _ _ ?_
    have : ¬ ((i : Int) < l.length) := by omega
    simp [s_sFineL, this, freshS]
  | cons f r ih =>
    intro i s hr hs
    obtain ⟨hlt, hget, hr2⟩ := drop_c hr
    have h2 : (i : Int) < l.length := by omega
    have e1 := i64_succ (i := i) (by omega)
    have h := ih (i + 1) (s.set f.id.toNat true) hr2 (by simpa using hs)
    have c := c_fRight f
    refine t_sFineL _ _ _ _ ?_
    simp only [s_sFineL, h2, decide_true, cond_true, OA_chk, Int.natCast_nonneg, nthE, Int.toNat_natCast, List.getElem?_map, hget, Option.map_some, u_asA, u_asC, u_asI, u_asB, u_asN, OA_callx, OA_join, c, Option.bind_some, e1, freshS]
    by_cases hg : rgtS f = true
    · have rr := rgt_rng hg
      have hk : f.id.toNat < s.length := by omega
      have g : s[f.id.toNat]? = some s[f.id.toNat] := List.getElem?_eq_getElem hk
      have a1 : 0 ≤ f.id := rr.1
      have a2 : f.id < ((256 : Nat) : Int) := by omega
      have a3 : 0 + f.id.toNat * 1 = f.id.toNat := by omega
      have a4 : (f.id.toNat + 1).ble (List.map AV.bool s).length = true := by rw [Nat.ble_eq, List.length_map]; omega
      simp only [hg, a1, a2, a3, a4, decide_true, Bool.and_self, cond_true, g, Option.map_some, u_asB, Bool.not_true, cond_false, Option.bind_some, Tok.untok_tok, setAt_bool, all_flat_bool, h, Option.getD_some, Bool.true_and]
      by_cases hb : s[f.id.toNat] = true
      · simp [hb]
      · have hb : s[f.id.toNat] = false := by simpa using hb
        simp [hb]
    · have hg : rgtS f = false := by simpa using hg
      simp [hg]
theorem freshS_iff : ∀ (l : List Fld) (s : List Bool), s.length = 256 → (freshS s l = true ↔ (∀ f ∈ l, rgtS f = true ∧ s[f.id.toNat]? = some false) ∧ nodupI (l.map Fld.id) = true)
  | [], s, _ => by simp [freshS, nodupI]
  | f :: l, s, hs => by
    have ih := freshS_iff l (s.set f.id.toNat true) (by simpa using hs)
    simp only [freshS, Bool.and_eq_true, ih, List.map_cons, nodupI, Bool.not_eq_true', List.mem_cons, forall_eq_or_imp]
    have key : rgtS f = true → ((s[f.id.toNat]?).getD false = false ↔ s[f.id.toNat]? = some false) := by
      intro hg
      have rr := rgt_rng hg
      have hk : f.id.toNat < s.length := by omega
      rw [List.getElem?_eq_getElem hk]
      simp
    have key2 : rgtS f = true → ∀ g, rgtS g = true → ((s.set f.id.toNat true)[g.id.toNat]? = some false ↔ (s[g.id.toNat]? = some false ∧ g.id ≠ f.id)) := by
      intro hg g hgg
      have r1 := rgt_rng hg
      have r2 := rgt_rng hgg
      rw [List.getElem?_set]
      by_cases e : f.id.toNat = g.id.toNat
      · have e' : g.id = f.id := by omega
        rw [if_pos e, if_pos (by omega)]
        simp [e']
      · have e' : g.id ≠ f.id := by omega
        rw [if_neg e]
        simp [e']
    constructor
    · rintro ⟨⟨h1, h2⟩, h3, h4⟩
      refine ⟨⟨⟨h1, (key h1).1 h2⟩, fun g hg => ⟨(h3 g hg).1, ((key2 h1 g (h3 g hg).1).1 (h3 g hg).2).1⟩⟩, ?_, h4⟩
      simp only [List.any_map, List.any_eq_false, Function.comp_apply, beq_iff_eq]
      intro g hg
      exact ((key2 h1 g (h3 g hg).1).1 (h3 g hg).2).2
    · rintro ⟨⟨⟨h1, h2⟩, h3⟩, h4, h5⟩
      refine ⟨⟨h1, (key h1).2 h2⟩, fun g hg => ⟨(h3 g hg).1, (key2 h1 g (h3 g hg).1).2 ⟨(h3 g hg).2, ?_⟩⟩, h5⟩
      simp only [List.any_map, List.any_eq_false, Function.comp_apply, beq_iff_eq] at h4
      exact h4 g hg
theorem freshS_0 (l : List Fld) : freshS (List.replicate 256 false) l = (l.all rgtS && nodupI (l.map Fld.id)) := by
  rw [Bool.eq_iff_iff, freshS_iff _ _ List.length_replicate]
  simp only [Bool.and_eq_true, List.all_eq_true]
  constructor
  · rintro ⟨h1, h2⟩; exact ⟨fun f hf => (h1 f hf).1, h2⟩
  · rintro ⟨h1, h2⟩
    refine ⟨fun f hf => ⟨h1 f hf, ?_⟩, h2⟩
    have r := rgt_rng (h1 f hf)
    rw [List.getElem?_replicate, if_pos (by omega)]
set_option maxRecDepth 20000 in
theorem bools256 : (List.replicate 256 false).map AV.bool = [.bool false, .bool false, .bool false, .bool false, .bool false, .bool false, .bool false, .bool false, .bool false, .bool false, .bool false, .bool false, .bool false, .bool false, .bool false, .bool false, .bool false, .bool false, .bool false, .bool false, .bool false, .bool false, .bool false, .bool false, .bool false, .bool false, .bool false, .bool false, .bool false, .bool false, .bool false, .bool false, .bool false, .bool false, .bool false, .bool false, .bool false, .bool false, .bool false, .bool false, .bool false, .bool false, .bool false, .bool false, .bool false, .bool false, .bool false, .bool false, .bool false, .bool false, .bool false, .bool false, .bool false, .bool false, .bool false, .bool false, .bool false, .bool false, .bool false, .bool false, .bool false, .bool false, .bool false, .bool false, .bool false, .bool false, .bool false, .bool false, .bool false, .bool false, .bool false, .bool false, .bool false, .bool false, .bool false, .bool false, .bool false, .bool false, .bool false, .bool false, .bool false, .bool false, .bool false, .bool false, .bool false, .bool false, .bool false, .bool false, .bool false, .bool false, .bool false, .bool false, .bool false, .bool false, .bool false, .bool false, .bool false, .bool false, .bool false, .bool false, .bool false, .bool false, .bool false, .bool false, .bool false, .bool false, .bool false, .bool false, .bool false, .bool false, .bool false, .bool false, .bool false, .bool false, .bool false, .bool false, .bool false, .bool false, .bool false, .bool false, .bool false, .bool false, .bool false, .bool false, .bool false, .bool false, .bool false, .bool false, .bool false, .bool false, .bool false, .bool false, .bool false, .bool false, .bool false, .bool false, .bool false, .bool false, .bool false, .bool false, .bool false, .bool false, .bool false, .bool false, .bool false, .bool false, .bool false, .bool false, .bool false, .bool false, .bool false, .bool false, .bool false, .bool false, .bool false, .bool false, .bool false, .bool false, .bool false, .bool false, .bool false, .bool false, .bool false, .bool false, .bool false, .bool false, .bool false, .bool false, .bool false, .bool false, .bool false, .bool false, .bool false, .bool false, .bool false, .bool false, .bool false, .bool false, .bool false, .bool false, .bool false, .bool false, .bool false, .bool false, .bool false, .bool false, .bool false, .bool false, .bool false, .bool false, .bool false, .bool false, .bool false, .bool false, .bool false, .bool false, .bool false, .bool false, .bool false, .bool false, .bool false, .bool false, .bool false, .bool false, .bool false, .bool false, .bool false, .bool false, .bool false, .bool false, .bool false, .bool false, .bool false, .bool false, .bool false, .bool false, .bool false, .bool false, .bool false, .bool false, .bool false, .bool false, .bool false, .bool false, .bool false, .bool false, .bool false, .bool false, .bool false, .bool false, .bool false, .bool false, .bool false, .bool false, .bool false, .bool false, .bool false, .bool false, .bool false, .bool false, .bool false, .bool false, .bool false, .bool false, .bool false, .bool false, .bool false, .bool false, .bool false, .bool false, .bool false, .bool false, .bool false, .bool false, .bool false, .bool false] := rfl
set_option maxRecDepth 20000 in
theorem c_sFine (f : Frm) (h : f.fields.length ≤ 140737488355328) : tbl E0 118 [frmV f] [] = some ([.bool (fineS f)], []) :=
  t_sFine f (by
    have e := c_sFineL f.fields h f.fields 0 (List.replicate 256 false) rfl List.length_replicate
    simp only [Int.natCast_zero, freshS_0] at e
    rw [bools256] at e
    have c := c_sLong f h
    simp only [s_sFine, OA_chk, cond_true, OA_join, OA_asm, List.length_map, OA_callx, c, Option.bind_some, u_asC, u_asI, u_asB, u_asN, OA_loop, e]
    unfold fineS
    by_cases a1 : f.id < 0
    · have : ¬ (0 ≤ f.id) := by omega
      simp [a1, this]
    · by_cases a2 : f.id > 200
      · have : ¬ (f.id ≤ 200) := by omega
        simp [a1, a2, this]
      · by_cases a3 : (f.fields.length : Int) < 1
        · have : ¬ (1 ≤ f.fields.length) := by omega
          simp [a1, a2, a3, this]
        · by_cases a4 : (f.fields.length : Int) > 8
          · have : ¬ (f.fields.length ≤ 8) := by omega
            simp [a1, a2, a3, a4, this]
          · by_cases a5 : longS f.fields > 64
            · have : ¬ (longS f.fields ≤ 64) := by omega
              simp [a1, a2, a3, a4, a5, this]
            · have b1 : 0 ≤ f.id ∧ f.id ≤ 200 := by omega
              have b2 : 1 ≤ f.fields.length ∧ f.fields.length ≤ 8 := by omega
              have b3 : longS f.fields ≤ 64 := by omega
              simp only [a1, a2, a3, a4, a5, b1, b2, b3, decide_true, decide_false, cond_false, Option.bind_some, Tok.untok_tok, Bool.true_and, and_self]
              cases (f.fields.all rgtS && nodupI (f.fields.map Fld.id)) <;> simp)
def idxS (l : List Fld) : Nat → List Fld → Bool
  | _, [] => true
  | i, x :: r => rgtS x && decide (atS l x.id = i) && idxS l (i + 1) r
theorem atS_app (p r : List Fld) (x : Fld) : atS (p ++ x :: r) x.id = p.length ↔ ∀ f ∈ p, f.id ≠ x.id := by
  unfold atS firstS
  constructor
  · intro h f hf e
    have h1 : (p ++ x :: r).findIdx? (fun f : Fld => f.id == x.id) = (p.findIdx? (fun f : Fld => f.id == x.id)).or _ := List.findIdx?_append
    cases h2 : p.findIdx? (fun f : Fld => f.id == x.id) with
    | none =>
      rw [List.findIdx?_eq_none_iff] at h2
      have := h2 f hf
      simp [e] at this
    | some j =>
      rw [h1, h2] at h
      obtain ⟨hj, _⟩ := List.findIdx?_eq_some_iff_getElem.1 h2
      simp only [Option.some_or] at h
      omega
  · intro h
    have h2 : p.findIdx? (fun f : Fld => f.id == x.id) = none := by
      rw [List.findIdx?_eq_none_iff]
      intro f hf
      simpa using h f hf
    rw [List.findIdx?_append, h2, List.findIdx?_cons]
    simp
theorem idxS_iff : ∀ (r p : List Fld), idxS (p ++ r) p.length r = true ↔ (∀ x ∈ r, rgtS x = true ∧ ∀ f ∈ p, f.id ≠ x.id) ∧ nodupI (r.map Fld.id) = true
  | [], p => by simp [idxS, nodupI]
  | x :: r, p => by
    have ih := idxS_iff r (p ++ [x])
    simp only [List.append_assoc, List.singleton_append, List.length_append, List.length_singleton] at ih
    simp only [idxS, Bool.and_eq_true, ih, decide_eq_true_eq, atS_app, List.map_cons, nodupI, List.mem_cons, forall_eq_or_imp, Bool.not_eq_true', List.any_map, List.any_eq_false, Function.comp_apply, beq_iff_eq, List.mem_append, List.not_mem_nil, or_false]
    constructor
    · rintro ⟨⟨h1, h2⟩, h3, h4⟩
      refine ⟨⟨⟨h1, h2⟩, fun y hy => ⟨(h3 y hy).1, fun f hf => (h3 y hy).2 f (Or.inl hf)⟩⟩, fun y hy e => (h3 y hy).2 x (Or.inr rfl) e.symm, h4⟩
    · rintro ⟨⟨⟨h1, h2⟩, h3⟩, h4, h5⟩
      refine ⟨⟨h1, h2⟩, fun y hy => ⟨(h3 y hy).1, ?_⟩, h5⟩
      rintro f (hf | rfl)
      · exact (h3 y hy).2 f hf
      · exact fun e => h4 y hy e.symm
theorem idxS_0 (l : List Fld) : idxS l 0 l = (l.all rgtS && nodupI (l.map Fld.id)) := by
  rw [Bool.eq_iff_iff]
  have := idxS_iff l []
  simp only [List.nil_append, List.length_nil] at this
  rw [this]
  simp
theorem c_yFineL (f : Frm) (hl : f.fields.length ≤ 140737488355328) : ∀ (r : List Fld) (i : Nat), f.fields.drop i = r →
    ltbl E0 88 0 4 [.int .i64 i] [[.int .i64 f.id, fldsV f.fields]] = some (if idxS f.fields i r then (1, [], [[.int .i64 f.id, fldsV f.fields]]) else (0, [.bool false], [])) := by
  intro r
  induction r with
  | nil =>
    intro i hr
    have h : f.fields.length ≤ i := by simpa using hr
    refine t_yFineL _ _ ?_
    have : ¬ ((i : Int) < f.fields.length) := by omega
    simp [s_yFineL, this, idxS]
  | cons x r ih =>
    intro i hr
    obtain ⟨hlt, hget, hr2⟩ := drop_c hr
    have h2 : (i : Int) < f.fields.length := by omega
    have e1 := i64_succ (i := i) (by omega)
    have h := ih (i + 1) hr2
    have c := c_yRight x
    have c2 := c_yAt f x.id hl
    refine t_yFineL _ _ ?_
    simp only [s_yFineL, OA_asm, List.length_map, h2, decide_true, cond_true, OA_chk, Int.natCast_nonneg, nthE, Int.toNat_natCast, List.getElem?_map, hget, Option.map_some, u_asA, u_asC, u_asI, u_asB, u_asN, OA_callx, c, c2, Option.bind_some, e1, h, idxS]
    by_cases hg : rgtS x = true
    · by_cases ha : atS f.fields x.id = i
      · simp [hg, ha]
      · simp [hg, ha]
    · have hg : rgtS x = false := by simpa using hg
      simp [hg]
theorem c_yFine (f : Frm) (h : f.fields.length ≤ 140737488355328) : tbl E0 88 [frmV f] [] = some ([.bool (fineS f)], []) :=
  t_yFine f (by
    have e := c_yFineL f h f.fields 0 rfl
    simp only [Int.natCast_zero, idxS_0] at e
    have c := c_yLong f h
    simp only [s_yFine, OA_chk, cond_true, OA_join, OA_asm, List.length_map, OA_callx, c, Option.bind_some, u_asC, u_asI, u_asB, u_asL, u_asN, OA_loop, e]
    unfold fineS
    by_cases a1 : f.id < 0
    · have : ¬ (0 ≤ f.id) := by omega
      simp [a1, this]
    · by_cases a2 : f.id > 200
      · have : ¬ (f.id ≤ 200) := by omega
        simp [a1, a2, this]
      · by_cases a3 : (f.fields.length : Int) < 1
        · have : ¬ (1 ≤ f.fields.length) := by omega
          simp [a1, a2, a3, this]
        · by_cases a4 : (f.fields.length : Int) > 8
          · have : ¬ (f.fields.length ≤ 8) := by omega
            simp [a1, a2, a3, a4, this]
          · have b1 : 0 ≤ f.id ∧ f.id ≤ 200 := by omega
            have b2 : 1 ≤ f.fields.length ∧ f.fields.length ≤ 8 := by omega
            simp only [a1, a2, a3, a4, b1, b2, decide_true, decide_false, cond_false, Option.bind_some, Tok.untok_tok, Bool.true_and, and_self]
            cases f.fields.all rgtS <;> cases nodupI (f.fields.map Fld.id) <;> simp [c])
end Go.Proofs.Ytmpfeofeokmooaa.V
namespace Go.Proofs.Ytmpfeofeokmooaa.V
open Go
theorem bor (b : Bool) : b = true ∨ b = false := by cases b <;> simp
def Sml (s : Sch) : Prop := s.forms.length ≤ 140737488355328 ∧ ∀ f ∈ s.forms, f.fields.length ≤ 140737488355328
theorem mem_drop {α : Type} {l r : List α} {i : Nat} {a : α} (h : l.drop i = a :: r) : a ∈ l := List.mem_of_mem_drop (h ▸ List.mem_cons_self : a ∈ l.drop i)
theorem c_sRightL (l : List Frm) (hl : l.length ≤ 140737488355328) (hf : ∀ f ∈ l, f.fields.length ≤ 140737488355328) : ∀ (r : List Frm) (i : Nat) (last : Int), l.drop i = r →
    ltbl E0 68 0 5 [.int .i64 last, frmsV l, .int .i64 l.length, .int .i64 i] [] = some (if risingS last r then (1, [], []) else (0, [.bool false], [])) := by
  intro r
  induction r with
  | nil =>
    intro i last hr
    have h : l.length ≤ i := by simpa using hr
    refine t_sRightL _ _ _ _ ?_
    have : ¬ ((i : Int) < l.length) := by omega
    simp [s_sRightL, this, risingS]
  | cons f r ih =>
    intro i last hr
    obtain ⟨hlt, hget, hr2⟩ := drop_c hr
    have h2 : (i : Int) < l.length := by omega
    have e1 := i64_succ (i := i) (by omega)
    have h := ih (i + 1) f.id hr2
    have c := c_sFine f (hf f (mem_drop hr))
    refine t_sRightL _ _ _ _ ?_
    simp only [s_sRightL, h2, decide_true, cond_true, OA_chk, Int.natCast_nonneg, nthE, Int.toNat_natCast, List.getElem?_map, hget, Option.map_some, u_asA, u_asC, u_asI, u_asB, u_asL, u_asN, OA_callx, OA_join, c, Option.bind_some, e1, h, risingS]
    by_cases a : f.id ≤ last
    · have : ¬ (last < f.id) := by omega
      rcases bor (fineS f) with hb | hb <;> simp [hb, a, this]
    · have b : last < f.id := by omega
      rcases bor (fineS f) with hb | hb <;> simp [hb, a, b]
theorem c_sRight (s : Sch) (h : Sml s) : tbl E0 68 [schV s] [] = some ([.bool (schS s)], []) :=
  t_sRight s (by
    have e := c_sRightL s.forms h.1 h.2 s.forms 0 (-1) rfl
    simp only [Int.natCast_zero] at e
    simp only [s_sRight, OA_chk, cond_true, OA_join, OA_asm, List.length_map, Option.bind_some, u_asC, u_asI, u_asB, u_asN, OA_loop, e]
    unfold schS
    by_cases a1 : s.ver < 1
    · have : ¬ (1 ≤ s.ver) := by omega
      simp [a1, this]
    · by_cases a2 : s.ver > 65535
      · have : ¬ (s.ver ≤ 65535) := by omega
        simp [a1, a2, this]
      · by_cases a4 : (s.forms.length : Int) > 8
        · have : ¬ (s.forms.length ≤ 8) := by omega
          simp [a1, a2, a4, this]
        · have b1 : 1 ≤ s.ver ∧ s.ver ≤ 65535 := by omega
          have b2 : s.forms.length ≤ 8 := by omega
          simp only [a1, a2, a4, b1, b2, decide_true, decide_false, cond_false, Option.bind_some, Tok.untok_tok, Bool.true_and, and_self]
          rcases bor (risingS (-1) s.forms) with hb | hb <;> simp [hb])
def riseS (l : List Frm) : Nat → List Frm → Bool
  | _, [] => true
  | i, f :: r => fineS f && (i == 0 || (match l[i - 1]? with | some g => decide (g.id < f.id) | none => false)) && riseS l (i + 1) r
theorem riseS_eq : ∀ (r : List Frm) (p : List Frm) (g : Frm), riseS (p ++ g :: r) (p.length + 1) r = risingS g.id r
  | [], p, g => rfl
  | f :: r, p, g => by
    have ih := riseS_eq r (p ++ [g]) f
    simp only [List.append_assoc, List.singleton_append, List.length_append, List.length_singleton] at ih
    simp [riseS, risingS, ih]
theorem riseS_0 (l : List Frm) : riseS l 0 l = risingS (-1) l := by
  cases l with
  | nil => rfl
  | cons f r =>
    have h := riseS_eq r [] f
    simp only [List.nil_append, List.length_nil, Nat.zero_add] at h
    simp only [riseS, h, risingS, beq_self_eq_true, Bool.true_or, Bool.and_true, Nat.zero_add]
    by_cases hf : fineS f = true
    · have : -1 < f.id := by
        unfold fineS at hf
        simp only [Bool.and_eq_true, decide_eq_true_eq] at hf
        omega
      simp [this]
    · have hf : fineS f = false := by simpa using hf
      simp [hf]
theorem c_ysRightL (s : Sch) (hs : Sml s) : ∀ (r : List Frm) (i : Nat), s.forms.drop i = r →
    ltbl E0 37 0 4 [.int .i64 i] [[.int .i64 s.ver, frmsV s.forms]] = some (if riseS s.forms i r then (1, [], []) else (0, [.bool false], [])) := by
  have hl := hs.1
  intro r
  induction r with
  | nil =>
    intro i hr
    have h : s.forms.length ≤ i := by simpa using hr
    refine t_ysRightL _ _ ?_
    have : ¬ ((i : Int) < s.forms.length) := by omega
    simp [s_ysRightL, this, riseS]
  | cons f r ih =>
    intro i hr
    obtain ⟨hlt, hget, hr2⟩ := drop_c hr
    have h2 : (i : Int) < s.forms.length := by omega
    have e1 := i64_succ (i := i) (by omega)
    have h := ih (i + 1) hr2
    have c := c_yFine f (hs.2 f (mem_drop hr))
    refine t_ysRightL _ _ ?_
    by_cases i0 : i = 0
    · subst i0
      simp only [Int.natCast_zero] at h2
      simp only [s_ysRightL, OA_asm, List.length_map, Int.natCast_zero, h2, decide_true, cond_true, OA_chk, Int.natCast_nonneg, nthE, Int.toNat_natCast, Int.toNat_zero, Int.le_refl, List.getElem?_map, hget, Option.map_some, u_asA, u_asC, u_asI, u_asB, u_asL, u_asN, OA_callx, c, Option.bind_some, riseS]
      simp only [Int.natCast_zero] at e1
      rcases bor (fineS f) with hb | hb
      · simp only [Int.zero_add, Nat.zero_add] at e1 h
        simp [hb]
        rw [e1]
        exact h
      · simp [hb]
    · have g0 : (i : Int) > 0 := by omega
      have g1 : IntKind.i64.wrap ((i : Int) - 1) = ((i - 1 : Nat) : Int) := by rw [wrap_i64 _ (by omega) (by omega)]; omega
      have g2 : s.forms[i - 1]? = some (s.forms[i - 1]'(by omega)) := List.getElem?_eq_getElem _
      simp only [s_ysRightL, OA_asm, List.length_map, h2, decide_true, cond_true, OA_chk, Int.natCast_nonneg, nthE, Int.toNat_natCast, List.getElem?_map, hget, Option.map_some, u_asA, u_asC, u_asI, u_asB, u_asL, u_asN, OA_callx, c, Option.bind_some, riseS, g0, g1, g2, e1, h, beq_f i0, Bool.false_or]
      rcases bor (fineS f) with hb | hb
      rotate_left
      · simp [hb]
      · by_cases a : (s.forms[i - 1]'(by omega)).id ≥ f.id
        · have b : ¬ ((s.forms[i - 1]'(by omega)).id < f.id) := by omega
          simp [hb, a, b]
        · have b : (s.forms[i - 1]'(by omega)).id < f.id := by omega
          simp [hb, a, b]
theorem c_ysRight (s : Sch) (h : Sml s) : tbl E0 37 [schV s] [] = some ([.bool (schS s)], []) :=
  t_ysRight s (by
    have e := c_ysRightL s h s.forms 0 rfl
    simp only [Int.natCast_zero, riseS_0] at e
    simp only [s_ysRight, OA_chk, cond_true, OA_join, OA_asm, List.length_map, Option.bind_some, u_asC, u_asI, u_asB, u_asN, OA_loop, e]
    unfold schS
    by_cases a1 : s.ver < 1
    · have : ¬ (1 ≤ s.ver) := by omega
      simp [a1, this]
    · by_cases a2 : s.ver > 65535
      · have : ¬ (s.ver ≤ 65535) := by omega
        simp [a1, a2, this]
      · by_cases a4 : (s.forms.length : Int) > 8
        · have : ¬ (s.forms.length ≤ 8) := by omega
          simp [a1, a2, a4, this]
        · have b1 : 1 ≤ s.ver ∧ s.ver ≤ 65535 := by omega
          have b2 : s.forms.length ≤ 8 := by omega
          simp only [a1, a2, a4, b1, b2, decide_true, decide_false, cond_false, Option.bind_some, Tok.untok_tok, Bool.true_and, and_self]
          rcases bor (risingS (-1) s.forms) with hb | hb <;> simp [hb])
end Go.Proofs.Ytmpfeofeokmooaa.V
namespace Go.Proofs.Ytmpfeofeokmooaa.V
open Go
def big (f : Frm) : Bool := decide (40 < f.fields.length)
def greatS (s : Sch) : Bool := (s.forms.take 41).any big || decide (40 < s.forms.length)
theorem sml_of {s : Sch} (h : greatS s = false) : Sml s := by
  unfold greatS at h
  simp only [Bool.or_eq_false_iff, decide_eq_false_iff_not, List.any_eq_false, big, decide_eq_true_eq] at h
  refine ⟨by omega, fun f hf => ?_⟩
  have := h.1 f (by rw [List.take_of_length_le (by omega)]; exact hf)
  omega
theorem fld_eq (a b : Fld) : (a.id == b.id && (a.kind == b.kind && (a.lo == b.lo && (a.hi == b.hi && (a.most == b.most && true))))) = decide (a = b) := by
  rw [Bool.eq_iff_iff]
  cases a; cases b
  simp
theorem frm_eq (a b : Frm) : decide (a = b) = (decide (a.id = b.id) && decide (a.fields = b.fields)) := by
  rw [Bool.eq_iff_iff]
  cases a; cases b
  simp
theorem sch_eq (a b : Sch) : decide (a = b) = (decide (a.ver = b.ver) && decide (a.forms = b.forms)) := by
  rw [Bool.eq_iff_iff]
  cases a; cases b
  simp
theorem c_ySameFormL (a b : Frm) (hl : a.fields.length ≤ 140737488355328) (hab : a.fields.length = b.fields.length) : ∀ (r r' : List Fld) (i : Nat), a.fields.drop i = r → b.fields.drop i = r' →
    ltbl E0 39 0 4 [.int .i64 i] [[.int .i64 a.id, fldsV a.fields], [.int .i64 b.id, fldsV b.fields]] = some (if r = r' then (1, [], []) else (0, [.bool false], [])) := by
  intro r
  induction r with
  | nil =>
    intro r' i hr hr'
    have h : a.fields.length ≤ i := by simpa using hr
    have : r' = [] := by rw [← hr']; simp; omega
    subst this
    refine t_ySameFormL _ _ _ ?_
    have : ¬ ((i : Int) < a.fields.length) := by omega
    simp [s_ySameFormL, this]
  | cons x r ih =>
    intro r' i hr hr'
    obtain ⟨hlt, hget, hr2⟩ := drop_c hr
    cases r' with
    | nil => simp at hr'; omega
    | cons y r' =>
      obtain ⟨_, hget', hr2'⟩ := drop_c hr'
      have h2 : (i : Int) < a.fields.length := by omega
      have e1 := i64_succ (i := i) (by omega)
      have h := ih r' (i + 1) hr2 hr2'
      refine t_ySameFormL _ _ _ ?_
      simp only [s_ySameFormL, OA_asm, List.length_map, h2, decide_true, cond_true, OA_chk, Int.natCast_nonneg, nthE, Int.toNat_natCast, List.getElem?_map, hget, hget', Option.map_some, u_asA, u_asC, u_asI, u_asB, u_asL, u_asN, e1, h, fld_eq]
      by_cases e : x = y
      · simp [e]
      · simp [e]
theorem c_ySameForm (a b : Frm) (h : a.fields.length ≤ 140737488355328) : tbl E0 39 [frmV a, frmV b] [] = some ([.bool (decide (a = b))], []) :=
  t_ySameForm a b (by
    rw [frm_eq]
    simp only [s_ySameForm, OA_chk, cond_true, OA_join, OA_asm, List.length_map, OA_loop]
    by_cases i0 : a.id = b.id
    · rw [show (a.id != b.id) = false by simp [i0], cond_false]
      by_cases hab : a.fields.length = b.fields.length
      · have e := c_ySameFormL a b h hab a.fields b.fields 0 rfl rfl
        simp only [Int.natCast_zero] at e
        rw [show ((a.fields.length : Int) != (b.fields.length : Int)) = false by rw [hab]; simp]
        simp only [Option.bind_some, Tok.untok_tok, cond_false, e]
        by_cases e2 : a.fields = b.fields <;> simp [i0, e2]
      · have : ¬ (a.fields = b.fields) := fun e => hab (by rw [e])
        rw [show ((a.fields.length : Int) != (b.fields.length : Int)) = true from bne_t (by omega)]
        simp [i0, this]
    · simp [i0])
theorem c_EqualFL (a b : List Fld) (hl : a.length ≤ 140737488355328) (hab : a.length = b.length) : ∀ (r r' : List Fld) (i : Nat), a.drop i = r → b.drop i = r' →
    ltbl E0 103 0 4 [fldsV a, fldsV b, .int .i64 a.length, .int .i64 i] [] = some (if r = r' then (1, [], []) else (0, [.bool false], [])) := by
  intro r
  induction r with
  | nil =>
    intro r' i hr hr'
    have h : a.length ≤ i := by simpa using hr
    have : r' = [] := by rw [← hr']; simp; omega
    subst this
    refine t_EqualFL _ _ _ _ ?_
    have : ¬ ((i : Int) < a.length) := by omega
    simp [s_EqualFL, this]
  | cons x r ih =>
    intro r' i hr hr'
    obtain ⟨hlt, hget, hr2⟩ := drop_c hr
    cases r' with
    | nil => simp at hr'; omega
    | cons y r' =>
      obtain ⟨_, hget', hr2'⟩ := drop_c hr'
      have h2 : (i : Int) < a.length := by omega
      have e1 := i64_succ (i := i) (by omega)
      have h := ih r' (i + 1) hr2 hr2'
      refine t_EqualFL _ _ _ _ ?_
      simp only [s_EqualFL, OA_asm, List.length_map, h2, decide_true, cond_true, OA_chk, Int.natCast_nonneg, nthE, Int.toNat_natCast, List.getElem?_map, hget, hget', Option.map_some, u_asA, u_asC, u_asI, u_asB, u_asL, u_asN, e1, h, fld_eq]
      by_cases e : x = y
      · simp [e]
      · simp [e]
theorem c_EqualF (a b : List Fld) (h : a.length ≤ 140737488355328) : tbl E0 103 [fldsV a, fldsV b] [] = some ([.bool (decide (a = b))], []) :=
  t_EqualF a b (by
    simp only [s_EqualF, OA_asm, List.length_map, OA_loop]
    by_cases hab : a.length = b.length
    · have e := c_EqualFL a b h hab a b 0 rfl rfl
      simp only [Int.natCast_zero] at e
      have h' : ((a.length : Int) != (b.length : Int)) = false := by rw [hab]; simp
      rw [h', cond_false, e]
      by_cases e2 : a = b <;> simp [e2]
    · have : ¬ (a = b) := fun e => hab (by rw [e])
      have h' : ((a.length : Int) != (b.length : Int)) = true := bne_t (by omega)
      rw [h']
      simp [this])
theorem c_sSame1 (a b : Frm) (h : a.fields.length ≤ 140737488355328) : tbl E0 102 [frmV a, frmV b] [] = some ([.bool (decide (a = b))], []) :=
  t_sSame1 a b (by
    have c := c_EqualF a.fields b.fields h
    rw [frm_eq]
    simp only [s_sSame1, OA_chk, cond_true, OA_join, OA_callx, c, Option.bind_some, u_asC, u_asB, u_asN]
    by_cases i0 : a.id = b.id <;> simp [i0])
theorem c_EqualFuncL (a b : List Frm) (hl : a.length ≤ 140737488355328) (hf : ∀ f ∈ a, f.fields.length ≤ 140737488355328) (hab : a.length = b.length) : ∀ (r r' : List Frm) (i : Nat), a.drop i = r → b.drop i = r' →
    ltbl E0 101 0 4 [frmsV b, .clo 102 [], frmsV a, .int .i64 a.length, .int .i64 i] [] = some (if r = r' then (1, [], []) else (0, [.bool false], [])) := by
  intro r
  induction r with
  | nil =>
    intro r' i hr hr'
    have h : a.length ≤ i := by simpa using hr
    have : r' = [] := by rw [← hr']; simp; omega
    subst this
    refine t_EqualFuncL _ _ _ _ ?_
    have : ¬ ((i : Int) < a.length) := by omega
    simp [s_EqualFuncL, this]
  | cons x r ih =>
    intro r' i hr hr'
    obtain ⟨hlt, hget, hr2⟩ := drop_c hr
    cases r' with
    | nil => simp at hr'; omega
    | cons y r' =>
      obtain ⟨_, hget', hr2'⟩ := drop_c hr'
      have h2 : (i : Int) < a.length := by omega
      have e1 := i64_succ (i := i) (by omega)
      have h := ih r' (i + 1) hr2 hr2'
      have c := c_sSame1 x y (hf x (mem_drop hr))
      refine t_EqualFuncL _ _ _ _ ?_
      simp only [s_EqualFuncL, OA_asm, List.length_map, h2, decide_true, cond_true, OA_chk, Int.natCast_nonneg, nthE, Int.toNat_natCast, List.getElem?_map, hget, hget', Option.map_some, u_asA, u_asC, u_asI, u_asB, u_asL, u_asN, OA_callx, c, Option.bind_some, e1, h]
      by_cases e : x = y
      · simp [e]
      · simp [e]
theorem c_EqualFunc (a b : List Frm) (h : a.length ≤ 140737488355328) (hf : ∀ f ∈ a, f.fields.length ≤ 140737488355328) : tbl E0 101 [frmsV a, frmsV b, .clo 102 []] [] = some ([.bool (decide (a = b))], []) :=
  t_EqualFunc a b (by
    simp only [s_EqualFunc, OA_asm, List.length_map, OA_loop]
    by_cases hab : a.length = b.length
    · have e := c_EqualFuncL a b h hf hab a b 0 rfl rfl
      simp only [Int.natCast_zero] at e
      have h' : ((a.length : Int) != (b.length : Int)) = false := by rw [hab]; simp
      rw [h', cond_false, e]
      by_cases e2 : a = b <;> simp [e2]
    · have : ¬ (a = b) := fun e => hab (by rw [e])
      have h' : ((a.length : Int) != (b.length : Int)) = true := bne_t (by omega)
      rw [h']
      simp [this])
theorem c_sSame (a b : Sch) (h : Sml a) : tbl E0 53 [schV a, schV b] [] = some ([.bool (decide (a = b))], []) :=
  t_sSame a b (by
    have c := c_EqualFunc a.forms b.forms h.1 h.2
    rw [sch_eq]
    simp only [s_sSame, OA_chk, cond_true, OA_join, OA_callx, c, Option.bind_some, u_asC, u_asB, u_asN]
    by_cases i0 : a.ver = b.ver <;> simp [i0])
theorem c_ySameL (a b : Sch) (hs : Sml a) (hab : a.forms.length = b.forms.length) : ∀ (r r' : List Frm) (i : Nat), a.forms.drop i = r → b.forms.drop i = r' →
    ltbl E0 31 0 4 [.int .i64 i] [[.int .i64 a.ver, frmsV a.forms], [.int .i64 b.ver, frmsV b.forms]] = some (if r = r' then (1, [], []) else (0, [.bool false], [])) := by
  have hl := hs.1
  intro r
  induction r with
  | nil =>
    intro r' i hr hr'
    have h : a.forms.length ≤ i := by simpa using hr
    have : r' = [] := by rw [← hr']; simp; omega
    subst this
    refine t_ySameL _ _ _ ?_
    have : ¬ ((i : Int) < a.forms.length) := by omega
    simp [s_ySameL, this]
  | cons x r ih =>
    intro r' i hr hr'
    obtain ⟨hlt, hget, hr2⟩ := drop_c hr
    cases r' with
    | nil => simp at hr'; omega
    | cons y r' =>
      obtain ⟨_, hget', hr2'⟩ := drop_c hr'
      have h2 : (i : Int) < a.forms.length := by omega
      have e1 := i64_succ (i := i) (by omega)
      have h := ih r' (i + 1) hr2 hr2'
      have c := c_ySameForm x y (hs.2 x (mem_drop hr))
      refine t_ySameL _ _ _ ?_
      simp only [s_ySameL, OA_asm, List.length_map, h2, decide_true, cond_true, OA_chk, Int.natCast_nonneg, nthE, Int.toNat_natCast, List.getElem?_map, hget, hget', Option.map_some, u_asA, u_asC, u_asI, u_asB, u_asL, u_asN, OA_callx, c, Option.bind_some, e1, h]
      by_cases e : x = y
      · simp [e]
      · simp [e]
theorem c_ySame (a b : Sch) (h : Sml a) : tbl E0 31 [schV a, schV b] [] = some ([.bool (decide (a = b))], []) :=
  t_ySame a b (by
    rw [sch_eq]
    simp only [s_ySame, OA_chk, cond_true, OA_join, OA_asm, List.length_map, OA_loop]
    by_cases i0 : a.ver = b.ver
    · rw [show (a.ver != b.ver) = false by simp [i0], cond_false]
      by_cases hab : a.forms.length = b.forms.length
      · have e := c_ySameL a b h hab a.forms b.forms 0 rfl rfl
        simp only [Int.natCast_zero] at e
        rw [show ((a.forms.length : Int) != (b.forms.length : Int)) = false by rw [hab]; simp]
        simp only [Option.bind_some, Tok.untok_tok, cond_false, e]
        by_cases e2 : a.forms = b.forms <;> simp [i0, e2]
      · have : ¬ (a.forms = b.forms) := fun e => hab (by rw [e])
        rw [show ((a.forms.length : Int) != (b.forms.length : Int)) = true from bne_t (by omega)]
        simp [i0, this]
    · simp [i0])
end Go.Proofs.Ytmpfeofeokmooaa.V
namespace Go.Proofs.Ytmpfeofeokmooaa.V
open Go
end Go.Proofs.Ytmpfeofeokmooaa.V
namespace Go.Proofs.Ytmpfeofeokmooaa.V
open Go
def fldB (f : Fld) : List UInt8 := cnt f.id.toNat ++ cnt f.kind.toNat ++ (if f.kind = 1 then cnt (zz f.lo) ++ cnt (zz f.hi) else if f.kind = 3 ∨ f.kind = 4 then cnt f.most.toNat else [])
def fldsB (l : List Fld) : List UInt8 := (l.map fldB).flatten
def frmB (f : Frm) : List UInt8 := cnt f.id.toNat ++ cnt f.fields.length ++ fldsB f.fields
def frmsB (l : List Frm) : List UInt8 := (l.map frmB).flatten
def schB (s : Sch) : List UInt8 := cnt s.ver.toNat ++ cnt s.forms.length ++ frmsB s.forms
theorem fineS_iff (f : Frm) : fineS f = true ↔ (0 ≤ f.id ∧ f.id ≤ 200) ∧ (1 ≤ f.fields.length ∧ f.fields.length ≤ 8) ∧ longS f.fields ≤ 64 ∧ (∀ x ∈ f.fields, rgtS x = true) ∧ nodupI (f.fields.map Fld.id) = true := by
  unfold fineS
  simp only [Bool.and_eq_true, decide_eq_true_eq, List.all_eq_true, and_assoc]
theorem risingS_all : ∀ (l : List Frm) (n : Int), risingS n l = true → ∀ f ∈ l, fineS f = true
  | [], n, _, f, hf => by cases hf
  | g :: l, n, h, f, hf => by
    simp only [risingS, Bool.and_eq_true] at h
    rcases List.mem_cons.1 hf with rfl | hf
    · exact h.1.1
    · exact risingS_all l _ h.2 f hf
theorem schS_iff (s : Sch) : schS s = true ↔ (1 ≤ s.ver ∧ s.ver ≤ 65535) ∧ s.forms.length ≤ 8 ∧ risingS (-1) s.forms = true := by
  unfold schS
  simp only [Bool.and_eq_true, decide_eq_true_eq, and_assoc]
def FldsOK (l : List Fld) : Prop := ∀ f ∈ l, f.ok ∧ rgtS f = true
end Go.Proofs.Ytmpfeofeokmooaa.V
namespace Go.Proofs.Ytmpfeofeokmooaa.V
open Go
end Go.Proofs.Ytmpfeofeokmooaa.V
namespace Go.Proofs.Ytmpfeofeokmooaa.V
open Go
def Stp.ok (x : Stp) : Prop := i64 x.op ∧ i64 x.form ∧ i64 x.field ∧ i64 x.place ∧ i64 x.to ∧ i64 x.a ∧ i64 x.b ∧ x.f.ok ∧ i64 x.n ∧ (∀ n ∈ x.t, i64 n) ∧ ∀ f ∈ x.fields, f.ok
def Stp.sml (x : Stp) : Prop := x.t.length ≤ 140737488355328 ∧ x.fields.length ≤ 140737488355328
def opsL : List Int := [1, 2, 3, 4, 5, 6, 7, 8, 9, 10, 21, 22, 23, 24, 25, 26, 27, 28, 29, 30]
def usesS (op : Int) : List Int :=
  if op = 1 then [0, 2, 6, 7] else if op = 22 then [0, 2, 6, 7] else if op = 2 then [0, 1, 7] else if op = 3 then [0, 1, 6] else if op = 23 then [0, 1, 6]
  else if op = 4 then [0, 1, 5] else if op = 24 then [0, 1, 5, 6] else if op = 5 then [0, 1, 4, 8] else if op = 25 then [0, 1, 8] else if op = 6 then [0, 1, 4, 3]
  else if op = 26 then [0, 1, 4, 3, 6] else if op = 7 then [0, 1, 2] else if op = 27 then [0, 1, 2] else if op = 8 then [0, 1, 3] else if op = 28 then [0, 1, 3]
  else if op = 9 then [0, 9] else if op = 30 then [0, 9] else if op = 10 then [0] else if op = 29 then [0] else if op = 21 then [0, 1] else []
def hasS (op p : Int) : Bool := (usesS op).contains p
def inS (n lo hi : Int) : Bool := decide (lo ≤ n) && decide (n ≤ hi)
def longestS (f : Fld) : Int := if f.kind = 4 then f.most else 0
def hasV (f : Fld) (n : Int) (s : List UInt8) : Bool := rgtS f && (inS n (loS f) (hiS f) && decide ((s.length : Int) ≤ longestS f))
def apartS (l : List Int) (below : Int) : Bool := (l.all fun n => inS n 0 (below - 1)) && nodupI l && decide (1 ≤ l.length ∧ l.length ≤ 64)
def fitsS (x : Stp) (p : Int) : Bool :=
  if p = 0 then inS x.form 0 200 else if p = 1 then inS x.field 0 255 else if p = 2 then inS x.place 0 8 else if p = 3 then inS x.to 0 255 && x.to != x.field
  else if p = 4 then (if x.op = 5 then inS x.a 1 1000 else inS x.a 2 1048576)
  else if p = 5 then inS x.a (-1048576) 1048576 && (x.a != 0 && inS x.b (-1099511627776) 1099511627776)
  else if p = 6 then rgtS x.f && (x.op == 1 || (x.op == 22 || x.f.id == x.field))
  else if p = 7 then (if x.op = 2 then inS x.n (-1099511627776) 1099511627776 && decide ((x.s.length : Int) ≤ 32) else hasV x.f x.n x.s)
  else if p = 8 then apartS x.t (if x.op = 5 then x.a else 1000)
  else fineS ⟨x.form, x.fields⟩
def fld0 : Fld := ⟨0, 0, 0, 0, 0⟩
def onlyS (x : Stp) : Stp :=
  ⟨x.op, if hasS x.op 0 then x.form else 0, if hasS x.op 1 then x.field else 0, if hasS x.op 2 then x.place else 0, if hasS x.op 3 then x.to else 0,
    if hasS x.op 4 || hasS x.op 5 then x.a else 0, if hasS x.op 5 then x.b else 0, if hasS x.op 6 then x.f else fld0, if hasS x.op 7 then x.n else 0, if hasS x.op 7 then x.s else [],
    if hasS x.op 8 then x.t else [], if hasS x.op 9 then x.fields else []⟩
def tRightS (x : Stp) : Bool := (usesS x.op).all (fitsS x) && (!(usesS x.op).isEmpty && decide (x = onlyS x))
def zeroS (x : Stp) : Bool :=
  (hasS x.op 1 || x.field == 0) && ((hasS x.op 2 || x.place == 0) && ((hasS x.op 3 || x.to == 0) && ((hasS x.op 4 || (hasS x.op 5 || x.a == 0)) && ((hasS x.op 5 || x.b == 0) &&
    ((hasS x.op 6 || decide (x.f = fld0)) && ((hasS x.op 7 || (x.n == 0 && x.s == [])) && ((hasS x.op 8 || x.t.isEmpty) && (hasS x.op 9 || x.fields.isEmpty))))))))
def numbersS (x : Stp) : Bool :=
  if x.op = 4 ∨ x.op = 24 then inS x.a (-1048576) 1048576 && (x.a != 0 && inS x.b (-1099511627776) 1099511627776)
  else if x.op = 6 ∨ x.op = 26 then inS x.a 2 1048576
  else if x.op = 5 then inS x.a 1 1000 && apartS x.t x.a
  else if x.op = 25 then apartS x.t 1000 else true
def ytRightS (x : Stp) : Bool :=
  !(usesS x.op).isEmpty && (zeroS x && (inS x.form 0 200 && (inS x.field 0 255 && (inS x.place 0 8 && (inS x.to 0 255 && (numbersS x &&
    (!(hasS x.op 3 && x.to == x.field) && (!(hasS x.op 6 && !rgtS x.f) && (!(hasS x.op 6 && (hasS x.op 1 && x.f.id != x.field)) &&
      (!(x.op == 2 && !(inS x.n (-1099511627776) 1099511627776 && decide ((x.s.length : Int) ≤ 32))) && (!(hasS x.op 2 && (hasS x.op 7 && !hasV x.f x.n x.s)) && (!hasS x.op 9 || fineS ⟨x.form, x.fields⟩))))))))))))
theorem op_in (op : Int) : op ∈ opsL ∨ (op ∉ opsL ∧ usesS op = []) := by
  by_cases h : op ∈ opsL
  · exact .inl h
  · refine .inr ⟨h, ?_⟩
    simp only [opsL, List.mem_cons, List.not_mem_nil, or_false, not_or] at h
    obtain ⟨h1, h2, h3, h4, h5, h6, h7, h8, h9, h10, h11, h12, h13, h14, h15, h16, h17, h18, h19, h20⟩ := h
    simp only [usesS, h1, h2, h3, h4, h5, h6, h7, h8, h9, h10, h11, h12, h13, h14, h15, h16, h17, h18, h19, h20, if_false]
theorem op_all {p : Int → Prop} (op : Int) (h : ∀ o ∈ opsL, p o) (h0 : op ∉ opsL → usesS op = [] → p op) : p op := by
  rcases op_in op with h1 | ⟨h1, h2⟩
  · exact h op h1
  · exact h0 h1 h2
theorem tRight_eq (x : Stp) : tRightS x = ytRightS x := by
  obtain ⟨op, form, field, place, to, a, b, f, n, s, t, fields⟩ := x
  refine op_all (p := fun op => tRightS ⟨op, form, field, place, to, a, b, f, n, s, t, fields⟩ = ytRightS ⟨op, form, field, place, to, a, b, f, n, s, t, fields⟩) op ?_ ?_
  · intro o ho
    simp only [opsL, List.mem_cons, List.not_mem_nil, or_false] at ho
    rcases ho with rfl | rfl | rfl | rfl | rfl | rfl | rfl | rfl | rfl | rfl | rfl | rfl | rfl | rfl | rfl | rfl | rfl | rfl | rfl | rfl <;>
    · simp [tRightS, ytRightS, usesS, fitsS, onlyS, zeroS, numbersS, hasS, inS, List.isEmpty_iff]
      rw [Bool.eq_iff_iff]
      simp only [Bool.and_eq_true, Bool.or_eq_true, decide_eq_true_eq, Bool.not_eq_true', beq_iff_eq, bne_iff_ne, ne_eq]
      constructor <;> (intro h; simp_all) <;> (try omega) <;> grind
  · intro _ h
    simp [tRightS, ytRightS, h]
theorem uses_bound (x : Stp) : ∀ (i : Nat) (p : Int), (usesS x.op)[i]? = some p → p = 8 → ((usesS x.op).take i).all (fitsS x) = true → 1 ≤ (if x.op = 5 then x.a else 1000) ∧ (if x.op = 5 then x.a else 1000) ≤ 1000 := by
  intro i p h1 h2 h3
  by_cases ho : x.op = 5
  · subst h2
    have hu : usesS x.op = [0, 1, 4, 8] := by rw [ho]; rfl
    rw [hu] at h1 h3
    match i, h1, h3 with
    | 3, _, h3 =>
      simp [fitsS, ho, inS] at h3
      simp only [ho, if_true]
      omega
    | 0, h1, _ => simp at h1
    | 1, h1, _ => simp at h1
    | 2, h1, _ => simp at h1
    | n + 4, h1, _ => simp at h1
  · simp [ho]
theorem uses_len (op : Int) : (usesS op).length ≤ 5 := by
  refine op_all (p := fun op => (usesS op).length ≤ 5) op ?_ ?_
  · decide
  · intro _ h; simp [h]
end Go.Proofs.Ytmpfeofeokmooaa.V
namespace Go.Proofs.Ytmpfeofeokmooaa.V
open Go
def fldW (f : Fld) : List UInt8 := cnt f.id.toNat ++ (cnt f.kind.toNat ++ (cnt (zz f.lo) ++ (cnt (zz f.hi) ++ cnt f.most.toNat)))
def fldsW (l : List Fld) : List UInt8 := (l.map fldW).flatten
def intsB (l : List Int) : List UInt8 := (l.map fun n => cnt n.toNat).flatten
def prtB (x : Stp) (p : Int) : List UInt8 :=
  if p = 0 then cnt x.form.toNat else if p = 1 then cnt x.field.toNat else if p = 2 then cnt x.place.toNat else if p = 3 then cnt x.to.toNat
  else if p = 4 then cnt x.a.toNat else if p = 5 then cnt (zz x.a) ++ cnt (zz x.b) else if p = 6 then fldW x.f
  else if p = 7 then cnt (zz x.n) ++ (cnt x.s.length ++ x.s) else if p = 8 then cnt x.t.length ++ intsB x.t
  else cnt x.fields.length ++ fldsW x.fields
def prtsB (x : Stp) (l : List Int) : List UInt8 := (l.map (prtB x)).flatten
def stpB (x : Stp) : List UInt8 := cnt x.op.toNat ++ prtsB x (usesS x.op)
def stpsB (l : List Stp) : List UInt8 := (l.map stpB).flatten
def lstB (l : List Stp) : List UInt8 := cnt l.length ++ stpsB l
theorem pr_cases {p : Int} (hp : 0 ≤ p ∧ p ≤ 9) : p = 0 ∨ p = 1 ∨ p = 2 ∨ p = 3 ∨ p = 4 ∨ p = 5 ∨ p = 6 ∨ p = 7 ∨ p = 8 ∨ p = 9 := by omega
theorem fineS_fld {x : Stp} (h : fineS ⟨x.form, x.fields⟩ = true) : x.fields.length ≤ 8 ∧ ∀ f ∈ x.fields, rgtS f = true := by
  obtain ⟨_, h2, _, h4, _⟩ := (fineS_iff _).1 h
  exact ⟨h2.2, h4⟩
theorem hasV_s {f : Fld} {n : Int} {s : List UInt8} (h : hasV f n s = true) : s.length ≤ 32 := by
  simp only [hasV, Bool.and_eq_true, decide_eq_true_eq] at h
  obtain ⟨g1, _, g2⟩ := h
  unfold longestS at g2
  by_cases k : f.kind = 4
  · rw [if_pos k] at g2
    rw [rgtS_4 k] at g1
    simp only [Bool.and_eq_true, decide_eq_true_eq] at g1
    omega
  · rw [if_neg k] at g2
    omega
def Fits (x : Stp) (p : Int) : Prop := (0 ≤ p ∧ p ≤ 9) ∧ fitsS x p = true ∧ (p = 8 → (if x.op = 5 then x.a else 1000) ≤ 1000)
theorem fits_s {x : Stp} (h : fitsS x 7 = true) : x.s.length ≤ 32 := by
  simp [fitsS, inS] at h
  split at h
  · omega
  · exact hasV_s h
theorem fits_t {x : Stp} (h : Fits x 8) : (∀ n ∈ x.t, 0 ≤ n ∧ n ≤ 1000) ∧ x.t.length ≤ 64 := by
  obtain ⟨_, h2, h3⟩ := h
  simp [fitsS, apartS, inS] at h2
  have := h3 rfl
  exact ⟨fun n hn => by have := h2.1.1 n hn; omega, h2.2.2⟩
theorem fits_l {x : Stp} (h : fitsS x 9 = true) : x.fields.length ≤ 8 ∧ ∀ f ∈ x.fields, rgtS f = true := by
  simp [fitsS] at h
  exact fineS_fld h
theorem uses_rng (op : Int) : ∀ p ∈ usesS op, 0 ≤ p ∧ p ≤ 9 := by
  refine op_all (p := fun op => ∀ p ∈ usesS op, 0 ≤ p ∧ p ≤ 9) op ?_ ?_
  · decide
  · intro _ h; simp [h]
theorem right_fits {x : Stp} (h : tRightS x = true) : (∀ p ∈ usesS x.op, Fits x p) ∧ x.op ∈ opsL ∧ x = onlyS x := by
  simp only [tRightS, Bool.and_eq_true, List.all_eq_true, decide_eq_true_eq, Bool.not_eq_true', List.isEmpty_eq_false_iff] at h
  obtain ⟨h1, h2, h3⟩ := h
  refine ⟨fun p hp => ⟨uses_rng _ p hp, h1 p hp, fun h8 => ?_⟩, ?_, h3⟩
  · obtain ⟨i, hi, e⟩ := List.mem_iff_getElem.1 hp
    exact (uses_bound x i p (by rw [← e]; exact List.getElem?_eq_getElem hi) h8 (List.all_eq_true.2 fun q hq => h1 q (List.mem_of_mem_take hq))).2
  · rcases op_in x.op with h | ⟨_, h⟩
    · exact h
    · exact absurd h h2
theorem ops_rng {op : Int} (h : op ∈ opsL) : 1 ≤ op ∧ op ≤ 30 := by
  revert op; decide
end Go.Proofs.Ytmpfeofeokmooaa.V
namespace Go.Proofs.Ytmpfeofeokmooaa.V
open Go
open AV (int lst agg str bool ref clo)
open List (map)
def s_writeField {α : Type} (A : Alg α) (b : List AV) (x : Fld) (e : Int) (kc : List AV → List (Nat × List AV) → α) : α :=
  A.chk true (A.call 59 [ref 0 0, int .i64 x.id] [(0, [lst (.own (.E 0 0)) 1 b, int .i64 e])] fun l0 l1 => asC A l1 fun x2 l3 => bif (x2.1.beq 0) then (asC A x2.2 fun v4 l5 => asOwn A 1 v4 fun x6 l7 => asC A l5 fun v8 l9 => asI A .i64 v8 fun n10 => asN A l9 (asN A l0 (asN A l3 (A.call 59 [ref 0 0, int .i64 x.kind] [(0, [lst (.own (.E 0 0)) 1 l7, int .i64 n10])] fun l11 l12 => asC A l12 fun x13 l14 => bif (x13.1.beq 0) then (asC A x13.2 fun v15 l16 => asOwn A 1 v15 fun x17 l18 => asC A l16 fun v19 l20 => asI A .i64 v19 fun n21 => asN A l20 (asN A l11 (asN A l14 (A.call 133 [ref 0 0, int .i64 x.lo] [(0, [lst (.own (.E 0 0)) 1 l18, int .i64 n21])] fun l22 l23 => asC A l23 fun x24 l25 => bif (x24.1.beq 0) then (asC A x24.2 fun v26 l27 => asOwn A 1 v26 fun x28 l29 => asC A l27 fun v30 l31 => asI A .i64 v30 fun n32 => asN A l31 (asN A l22 (asN A l25 (A.call 133 [ref 0 0, int .i64 x.hi] [(0, [lst (.own (.E 0 0)) 1 l29, int .i64 n32])] fun l33 l34 => asC A l34 fun x35 l36 => bif (x35.1.beq 0) then (asC A x35.2 fun v37 l38 => asOwn A 1 v37 fun x39 l40 => asC A l38 fun v41 l42 => asI A .i64 v41 fun n43 => asN A l42 (asN A l33 (asN A l36 (A.call 59 [ref 0 0, int .i64 x.most] [(0, [lst (.own (.E 0 0)) 1 l40, int .i64 n43])] fun l44 l45 => asC A l45 fun x46 l47 => bif (x46.1.beq 0) then (asC A x46.2 fun v48 l49 => asOwn A 1 v48 fun x50 l51 => asC A l49 fun v52 l53 => asI A .i64 v52 fun n54 => asN A l53 (asN A l44 (asN A l47 (kc [] [(0, [lst (.own (.E 0 0)) 1 l51, int .i64 n54])])))) else A.fail)))) else A.fail)))) else A.fail)))) else A.fail)))) else A.fail)
def s_twrite {α : Type} (A : Alg α) (b : List AV) (x : Stp) (p : Int) (e : Int) (kc : List AV → List (Nat × List AV) → α) : α :=
  A.chk true (bif (p == (0 : Int)) then (A.call 59 [ref 0 0, int .i64 x.form] [(0, [lst (.own (.E 0 0)) 1 b, int .i64 e])] fun l0 l1 => asC A l1 fun x2 l3 => bif (x2.1.beq 0) then (asC A x2.2 fun v4 l5 => asOwn A 1 v4 fun x6 l7 => asC A l5 fun v8 l9 => asI A .i64 v8 fun n10 => asN A l9 (asN A l0 (asN A l3 (kc [] [(0, [lst (.own (.E 0 0)) 1 l7, int .i64 n10])])))) else A.fail) else (bif (p == (1 : Int)) then (A.call 59 [ref 0 0, int .i64 x.field] [(0, [lst (.own (.E 0 0)) 1 b, int .i64 e])] fun l11 l12 => asC A l12 fun x13 l14 => bif (x13.1.beq 0) then (asC A x13.2 fun v15 l16 => asOwn A 1 v15 fun x17 l18 => asC A l16 fun v19 l20 => asI A .i64 v19 fun n21 => asN A l20 (asN A l11 (asN A l14 (kc [] [(0, [lst (.own (.E 0 0)) 1 l18, int .i64 n21])])))) else A.fail) else (bif (p == (2 : Int)) then (A.call 59 [ref 0 0, int .i64 x.place] [(0, [lst (.own (.E 0 0)) 1 b, int .i64 e])] fun l22 l23 => asC A l23 fun x24 l25 => bif (x24.1.beq 0) then (asC A x24.2 fun v26 l27 => asOwn A 1 v26 fun x28 l29 => asC A l27 fun v30 l31 => asI A .i64 v30 fun n32 => asN A l31 (asN A l22 (asN A l25 (kc [] [(0, [lst (.own (.E 0 0)) 1 l29, int .i64 n32])])))) else A.fail) else (bif (p == (3 : Int)) then (A.call 59 [ref 0 0, int .i64 x.to] [(0, [lst (.own (.E 0 0)) 1 b, int .i64 e])] fun l33 l34 => asC A l34 fun x35 l36 => bif (x35.1.beq 0) then (asC A x35.2 fun v37 l38 => asOwn A 1 v37 fun x39 l40 => asC A l38 fun v41 l42 => asI A .i64 v41 fun n43 => asN A l42 (asN A l33 (asN A l36 (kc [] [(0, [lst (.own (.E 0 0)) 1 l40, int .i64 n43])])))) else A.fail) else (bif (p == (4 : Int)) then (A.call 59 [ref 0 0, int .i64 x.a] [(0, [lst (.own (.E 0 0)) 1 b, int .i64 e])] fun l44 l45 => asC A l45 fun x46 l47 => bif (x46.1.beq 0) then (asC A x46.2 fun v48 l49 => asOwn A 1 v48 fun x50 l51 => asC A l49 fun v52 l53 => asI A .i64 v52 fun n54 => asN A l53 (asN A l44 (asN A l47 (kc [] [(0, [lst (.own (.E 0 0)) 1 l51, int .i64 n54])])))) else A.fail) else (bif (p == (5 : Int)) then (A.call 133 [ref 0 0, int .i64 x.a] [(0, [lst (.own (.E 0 0)) 1 b, int .i64 e])] fun l55 l56 => asC A l56 fun x57 l58 => bif (x57.1.beq 0) then (asC A x57.2 fun v59 l60 => asOwn A 1 v59 fun x61 l62 => asC A l60 fun v63 l64 => asI A .i64 v63 fun n65 => asN A l64 (asN A l55 (asN A l58 (A.call 133 [ref 0 0, int .i64 x.b] [(0, [lst (.own (.E 0 0)) 1 l62, int .i64 n65])] fun l66 l67 => asC A l67 fun x68 l69 => bif (x68.1.beq 0) then (asC A x68.2 fun v70 l71 => asOwn A 1 v70 fun x72 l73 => asC A l71 fun v74 l75 => asI A .i64 v74 fun n76 => asN A l75 (asN A l66 (asN A l69 (kc [] [(0, [lst (.own (.E 0 0)) 1 l73, int .i64 n76])])))) else A.fail)))) else A.fail) else (bif (p == (6 : Int)) then (A.chk true (A.call 137 [ref 0 0, agg [int .i64 x.f.id, int .i64 x.f.kind, int .i64 x.f.lo, int .i64 x.f.hi, int .i64 x.f.most]] [(0, [lst (.own (.E 0 0)) 1 b, int .i64 e])] fun l77 l78 => asC A l78 fun x79 l80 => bif (x79.1.beq 0) then (asC A x79.2 fun v81 l82 => asOwn A 1 v81 fun x83 l84 => asC A l82 fun v85 l86 => asI A .i64 v85 fun n87 => asN A l86 (asN A l77 (asN A l80 (kc [] [(0, [lst (.own (.E 0 0)) 1 l84, int .i64 n87])])))) else A.fail)) else (bif (p == (7 : Int)) then (A.call 133 [ref 0 0, int .i64 x.n] [(0, [lst (.own (.E 0 0)) 1 b, int .i64 e])] fun l88 l89 => asC A l89 fun x90 l91 => bif (x90.1.beq 0) then (asC A x90.2 fun v92 l93 => asOwn A 1 v92 fun x94 l95 => asC A l93 fun v96 l97 => asI A .i64 v96 fun n98 => asN A l97 (asN A l88 (asN A l91 (A.call 60 [ref 0 0, str x.s] [(0, [lst (.own (.E 0 0)) 1 l95, int .i64 n98])] fun l99 l100 => asC A l100 fun x101 l102 => bif (x101.1.beq 0) then (asC A x101.2 fun v103 l104 => asOwn A 1 v103 fun x105 l106 => asC A l104 fun v107 l108 => asI A .i64 v107 fun n109 => asN A l108 (asN A l99 (asN A l102 (kc [] [(0, [lst (.own (.E 0 0)) 1 l106, int .i64 n109])])))) else A.fail)))) else A.fail) else (bif (p == (8 : Int)) then (A.asm ((map (fun n => int .i64 n) x.t).length ≤ maxL) (A.call 59 [ref 0 0, int .i64 (↑(map (fun n => int .i64 n) x.t).length : Int)] [(0, [lst (.own (.E 0 0)) 1 b, int .i64 e])] fun l110 l111 => asC A l111 fun x112 l113 => bif (x112.1.beq 0) then (asC A x112.2 fun v114 l115 => asOwn A 1 v114 fun x116 l117 => asC A l115 fun v118 l119 => asI A .i64 v118 fun n120 => asN A l119 (asN A l110 (asN A l113 (A.asm ((map (fun n => int .i64 n) x.t).length ≤ maxL) (A.loop 23 [lst .ro 1 (map (fun n => int .i64 n) x.t), int .i64 (↑(map (fun n => int .i64 n) x.t).length : Int), int .i64 0] [[lst (.own (.O 0 0)) 1 l117, int .i64 n120]] fun j121 l122 l123 => bif (j121.beq 2) then (asN A l122 (asC A l123 fun l124 l125 => asC A l124 fun v126 l127 => asOwn A 1 v126 fun x128 l129 => bif (x128.beq (.O (0 : Nat) (0 : Nat))) then (asC A l127 fun v130 l131 => asI A .i64 v130 fun n132 => asN A l131 (asN A l125 (kc [] [(0, [lst (.own (.E 0 0)) 1 l129, int .i64 n132])]))) else A.fail)) else A.fail))))) else A.fail)) else (bif (p == (9 : Int)) then (A.asm ((map fldV x.fields).length ≤ maxL) (A.call 59 [ref 0 0, int .i64 (↑(map fldV x.fields).length : Int)] [(0, [lst (.own (.E 0 0)) 1 b, int .i64 e])] fun l133 l134 => asC A l134 fun x135 l136 => bif (x135.1.beq 0) then (asC A x135.2 fun v137 l138 => asOwn A 1 v137 fun x139 l140 => asC A l138 fun v141 l142 => asI A .i64 v141 fun n143 => asN A l142 (asN A l133 (asN A l136 (A.asm ((map fldV x.fields).length ≤ maxL) (A.loop 30 [lst .ro 5 (map fldV x.fields), int .i64 (↑(map fldV x.fields).length : Int), int .i64 0] [[lst (.own (.O 0 0)) 1 l140, int .i64 n143]] fun j144 l145 l146 => bif (j144.beq 4) then (asN A l145 (asC A l146 fun l147 l148 => asC A l147 fun v149 l150 => asOwn A 1 v149 fun x151 l152 => bif (x151.beq (.O (0 : Nat) (0 : Nat))) then (asC A l150 fun v153 l154 => asI A .i64 v153 fun n155 => asN A l154 (asN A l148 (kc [] [(0, [lst (.own (.E 0 0)) 1 l152, int .i64 n155])]))) else A.fail)) else A.fail))))) else A.fail)) else (kc [] [(0, [lst (.own (.E 0 0)) 1 b, int .i64 e])])))))))))))
def s_twriteT {α : Type} (A : Alg α) (l : List Int) (b : List AV) (m : Int) (i : Int) (e : Int) (next : List AV → List (List AV) → α) (kc : Nat → List AV → List (List AV) → α) : α :=
  bif (decide (i < m)) then (A.chk (decide ((0 : Int) ≤ i)) (nthE A (map (fun n => int .i64 n) l) i.toNat fun v0 => asI A .i64 v0 fun n1 => A.call 59 [ref 0 0, int .i64 n1] [(0, [lst (.own (.E 0 0)) 1 b, int .i64 e])] fun l2 l3 => asC A l3 fun x4 l5 => bif (x4.1.beq 0) then (asC A x4.2 fun v6 l7 => asOwn A 1 v6 fun x8 l9 => asC A l7 fun v10 l11 => asI A .i64 v10 fun n12 => asN A l11 (asN A l2 (asN A l5 (next [lst .ro 1 (map (fun n => int .i64 n) l), int .i64 m, int .i64 (IntKind.i64.wrap (i + (1 : Int)))] [[lst (.own (.O 0 0)) 1 l9, int .i64 n12]])))) else A.fail)) else (kc 2 [] [[lst (.own (.O 0 0)) 1 b, int .i64 e]])
def s_twriteF {α : Type} (A : Alg α) (l : List Fld) (b : List AV) (m : Int) (i : Int) (e : Int) (next : List AV → List (List AV) → α) (kc : Nat → List AV → List (List AV) → α) : α :=
  bif (decide (i < m)) then (A.chk (decide ((0 : Int) ≤ i)) (nthE A (map fldV l) i.toNat fun v0 => asA A v0 fun l1 => asC A l1 fun v2 l3 => asI A .i64 v2 fun n4 => asC A l3 fun v5 l6 => asI A .i64 v5 fun n7 => asC A l6 fun v8 l9 => asI A .i64 v8 fun n10 => asC A l9 fun v11 l12 => asI A .i64 v11 fun n13 => asC A l12 fun v14 l15 => asI A .i64 v14 fun n16 => asN A l15 (A.chk true (A.chk true (A.chk true (A.chk true (A.call 137 [ref 0 0, agg [int .i64 n4, int .i64 n7, int .i64 n10, int .i64 n13, int .i64 n16]] [(0, [lst (.own (.E 0 0)) 1 b, int .i64 e])] fun l17 l18 => asC A l18 fun x19 l20 => bif (x19.1.beq 0) then (asC A x19.2 fun v21 l22 => asOwn A 1 v21 fun x23 l24 => asC A l22 fun v25 l26 => asI A .i64 v25 fun n27 => asN A l26 (asN A l17 (asN A l20 (next [lst .ro 5 (map fldV l), int .i64 m, int .i64 (IntKind.i64.wrap (i + (1 : Int)))] [[lst (.own (.O 0 0)) 1 l24, int .i64 n27]])))) else A.fail))))))) else (kc 4 [] [[lst (.own (.O 0 0)) 1 b, int .i64 e]])
def s_tPrint {α : Type} (A : Alg α) (l : List Stp) (kc : List AV → List (Nat × List AV) → α) : α :=
  A.asm ((map stpV l).length ≤ maxL) (bif (decide ((↑(map stpV l).length : Int) > (40 : Int))) then (kc [lst .ro 1 [], int .i64 7] []) else (A.call 58 [] [] fun l0 l1 => asC A l0 fun v2 l3 => asRef0 A v2 fun o4 => bif (o4.beq 64) then (asC A l1 fun x5 l6 => bif (x5.1.beq 64) then (asC A x5.2 fun v7 l8 => asOwn A 1 v7 fun x9 l10 => asC A l8 fun v11 l12 => asI A .i64 v11 fun n13 => asN A l12 (asN A l3 (asN A l6 (A.asm ((map stpV l).length ≤ maxL) (A.call 59 [ref 0 0, int .i64 (↑(map stpV l).length : Int)] [(0, [lst (.own (.E 0 0)) 1 l10, int .i64 n13])] fun l14 l15 => asC A l15 fun x16 l17 => bif (x16.1.beq 0) then (asC A x16.2 fun v18 l19 => asOwn A 1 v18 fun x20 l21 => asC A l19 fun v22 l23 => asI A .i64 v22 fun n24 => asN A l23 (asN A l14 (asN A l17 (A.asm ((map stpV l).length ≤ maxL) (A.loop 6 [lst .ro 16 (map stpV l), int .i64 (↑(map stpV l).length : Int), int .i64 0] [[lst (.own (.O 1012 0)) 1 l21, int .i64 n24]] fun j25 l26 l27 => bif (j25.beq 0) then (asC A l26 fun v28 l29 => asL A 1 v28 fun l30 => asC A l29 fun v31 l32 => asI A .i64 v31 fun n33 => asN A l32 (asN A l27 (kc [lst .ro 1 l30, int .i64 n33] []))) else (bif (j25.beq 1) then (asN A l26 (asC A l27 fun l34 l35 => asC A l34 fun v36 l37 => asOwn A 1 v36 fun x38 l39 => bif (x38.beq (.O (1012 : Nat) (0 : Nat))) then (asC A l37 fun v40 l41 => asI A .i64 v40 fun n42 => asN A l41 (asN A l35 (A.call 61 [ref 0 0] [(0, [lst (.own (.E 0 0)) 1 l39, int .i64 n42])] fun l43 l44 => asC A l44 fun x45 l46 => bif (x45.1.beq 0) then (asC A x45.2 fun v47 l48 => asOwn A 1 v47 fun x49 l50 => asC A l48 fun v51 l52 => asI A .i64 v51 fun n53 => asN A l52 (asC A l43 fun v54 l55 => asL A 1 v54 fun l56 => asC A l55 fun v57 l58 => asI A .i64 v57 fun n59 => asN A l58 (asN A l46 (kc [lst .ro 1 l56, int .i64 n59] [])))) else A.fail))) else A.fail)) else A.fail)))))) else A.fail))))) else A.fail) else A.fail))
def s_tPrintL {α : Type} (A : Alg α) (l : List Stp) (b : List AV) (m : Int) (i : Int) (e : Int) (next : List AV → List (List AV) → α) (kc : Nat → List AV → List (List AV) → α) : α :=
  bif (decide (i < m)) then (A.chk (decide ((0 : Int) ≤ i)) (nthE A (map stpV l) i.toNat fun v0 => asA A v0 fun l1 => asC A l1 fun v2 l3 => asI A .i64 v2 fun n4 => asC A l3 fun v5 l6 => asI A .i64 v5 fun n7 => asC A l6 fun v8 l9 => asI A .i64 v8 fun n10 => asC A l9 fun v11 l12 => asI A .i64 v11 fun n13 => asC A l12 fun v14 l15 => asI A .i64 v14 fun n16 => asC A l15 fun v17 l18 => asI A .i64 v17 fun n19 => asC A l18 fun v20 l21 => asI A .i64 v20 fun n22 => asC A l21 fun v23 l24 => asI A .i64 v23 fun n25 => asC A l24 fun v26 l27 => asI A .i64 v26 fun n28 => asC A l27 fun v29 l30 => asI A .i64 v29 fun n31 => asC A l30 fun v32 l33 => asI A .i64 v32 fun n34 => asC A l33 fun v35 l36 => asI A .i64 v35 fun n37 => asC A l36 fun v38 l39 => asI A .i64 v38 fun n40 => asC A l39 fun v41 l42 => asS A v41 fun l43 => asC A l42 fun v44 l45 => asL A 1 v44 fun l46 => asC A l45 fun v47 l48 => asL A 5 v47 fun l49 => asN A l48 (A.chk true (A.chk true (A.chk true (A.chk true (A.callx 69 [agg [int .i64 n4, int .i64 n7, int .i64 n10, int .i64 n13, int .i64 n16, int .i64 n19, int .i64 n22, int .i64 n25, int .i64 n28, int .i64 n31, int .i64 n34, int .i64 n37, int .i64 n40, str l43, lst .ro 1 l46, lst .ro 5 l49]] fun l50 => asC A l50 fun v51 l52 => asB A v51 fun b53 => asN A l52 (bif (!b53) then (kc 0 [lst .ro 1 [], int .i64 2] []) else (A.call 59 [ref 0 0, int .i64 n4] [(0, [lst (.own (.E 0 0)) 1 b, int .i64 e])] fun l54 l55 => asC A l55 fun x56 l57 => bif (x56.1.beq 0) then (asC A x56.2 fun v58 l59 => asOwn A 1 v58 fun x60 l61 => asC A l59 fun v62 l63 => asI A .i64 v62 fun n64 => asN A l63 (asN A l54 (asN A l57 (A.callx 105 [int .i64 n4] fun l65 => asC A l65 fun v66 l67 => asL A 1 v66 fun l68 => asN A l67 (A.asm (l68.length ≤ maxL) (A.loop 12 [lst .ro 16 (map stpV l), int .i64 m, int .i64 i, lst .ro 1 l68, int .i64 (↑l68.length : Int), int .i64 0] [[int .i64 n4, int .i64 n7, int .i64 n10, int .i64 n13, int .i64 n16, int .i64 n19, int .i64 n22, int .i64 n25, int .i64 n28, int .i64 n31, int .i64 n34, int .i64 n37, int .i64 n40, str l43, lst .ro 1 l46, lst .ro 5 l49], [lst (.own (.O 1012 0)) 1 l61, int .i64 n64]] fun j69 l70 l71 => bif (j69.beq 3) then (asC A l70 fun v72 l73 => asL A 16 v72 fun l74 => asC A l73 fun v75 l76 => asI A .i64 v75 fun n77 => asC A l76 fun v78 l79 => asI A .i64 v78 fun n80 => asN A l79 (asC A l71 fun l81 l82 => asC A l81 fun v83 l84 => asOwn A 1 v83 fun x85 l86 => bif (x85.beq (.O (1012 : Nat) (0 : Nat))) then (asC A l84 fun v87 l88 => asI A .i64 v87 fun n89 => asN A l88 (asN A l82 (next [lst .ro 16 l74, int .i64 n77, int .i64 (IntKind.i64.wrap (n80 + (1 : Int)))] [[lst (.own (.O 1012 0)) 1 l86, int .i64 n89]]))) else A.fail)) else A.fail)))))) else A.fail))))))))) else (kc 1 [] [[lst (.own (.O 1012 0)) 1 b, int .i64 e]])
def s_tPrintK {α : Type} (A : Alg α) (l : List Stp) (x : Stp) (u : List Int) (b : List AV) (m : Int) (i : Int) (n : Int) (k : Int) (e : Int) (next : List AV → List (List AV) → α) (kc : Nat → List AV → List (List AV) → α) : α :=
  bif (decide (k < n)) then (A.chk (decide ((0 : Int) ≤ k)) (nthE A (map (fun n => int .i64 n) u) k.toNat fun v0 => asI A .i64 v0 fun n1 => A.chk true (A.call 106 [ref 0 0, agg [int .i64 x.op, int .i64 x.form, int .i64 x.field, int .i64 x.place, int .i64 x.to, int .i64 x.a, int .i64 x.b, int .i64 x.f.id, int .i64 x.f.kind, int .i64 x.f.lo, int .i64 x.f.hi, int .i64 x.f.most, int .i64 x.n, str x.s, lst .ro 1 (map (fun n => int .i64 n) x.t), lst .ro 5 (map fldV x.fields)], int .i64 n1] [(0, [lst (.own (.E 0 0)) 1 b, int .i64 e])] fun l2 l3 => asC A l3 fun x4 l5 => bif (x4.1.beq 0) then (asC A x4.2 fun v6 l7 => asOwn A 1 v6 fun x8 l9 => asC A l7 fun v10 l11 => asI A .i64 v10 fun n12 => asN A l11 (asN A l2 (asN A l5 (next [lst .ro 16 (map stpV l), int .i64 m, int .i64 i, lst .ro 1 (map (fun n => int .i64 n) u), int .i64 n, int .i64 (IntKind.i64.wrap (k + (1 : Int)))] [[int .i64 x.op, int .i64 x.form, int .i64 x.field, int .i64 x.place, int .i64 x.to, int .i64 x.a, int .i64 x.b, int .i64 x.f.id, int .i64 x.f.kind, int .i64 x.f.lo, int .i64 x.f.hi, int .i64 x.f.most, int .i64 x.n, str x.s, lst .ro 1 (map (fun n => int .i64 n) x.t), lst .ro 5 (map fldV x.fields)], [lst (.own (.O 1012 0)) 1 l9, int .i64 n12]])))) else A.fail))) else (kc 3 [lst .ro 16 (map stpV l), int .i64 m, int .i64 i] [[lst (.own (.O 1012 0)) 1 b, int .i64 e]])
def s_Rights15 {α : Type} (A : Alg α) (l : List Stp) (kc : List AV → List (Nat × List AV) → α) : α :=
  A.asm ((map stpV l).length ≤ maxL) (bif (decide ((↑(map stpV l).length : Int) > (40 : Int))) then (kc [int .i64 7] []) else (A.loop 4 [lst .ro 16 (map stpV l), int .i64 0] [] fun j0 l1 l2 => bif (j0.beq 0) then (asC A l1 fun v3 l4 => asI A .i64 v3 fun n5 => asN A l4 (asN A l2 (kc [int .i64 n5] []))) else (bif (j0.beq 1) then (asN A l1 (asN A l2 (kc [int .i64 0] []))) else A.fail)))
def s_Rights15L {α : Type} (A : Alg α) (l : List Stp) (i : Int) (next : List AV → List (List AV) → α) (kc : Nat → List AV → List (List AV) → α) : α :=
  A.asm ((map stpV l).length ≤ maxL) (bif (decide (i < (↑(map stpV l).length : Int))) then (A.chk (decide ((0 : Int) ≤ i)) (nthE A (map stpV l) i.toNat fun v0 => asA A v0 fun l1 => asC A l1 fun v2 l3 => asI A .i64 v2 fun n4 => asC A l3 fun v5 l6 => asI A .i64 v5 fun n7 => asC A l6 fun v8 l9 => asI A .i64 v8 fun n10 => asC A l9 fun v11 l12 => asI A .i64 v11 fun n13 => asC A l12 fun v14 l15 => asI A .i64 v14 fun n16 => asC A l15 fun v17 l18 => asI A .i64 v17 fun n19 => asC A l18 fun v20 l21 => asI A .i64 v20 fun n22 => asC A l21 fun v23 l24 => asI A .i64 v23 fun n25 => asC A l24 fun v26 l27 => asI A .i64 v26 fun n28 => asC A l27 fun v29 l30 => asI A .i64 v29 fun n31 => asC A l30 fun v32 l33 => asI A .i64 v32 fun n34 => asC A l33 fun v35 l36 => asI A .i64 v35 fun n37 => asC A l36 fun v38 l39 => asI A .i64 v38 fun n40 => asC A l39 fun v41 l42 => asS A v41 fun l43 => asC A l42 fun v44 l45 => asL A 1 v44 fun l46 => asC A l45 fun v47 l48 => asL A 5 v47 fun l49 => asN A l48 (A.chk true (A.callx 51 [agg [int .i64 n4, int .i64 n7, int .i64 n10, int .i64 n13, int .i64 n16, int .i64 n19, int .i64 n22, int .i64 n25, int .i64 n28, int .i64 n31, int .i64 n34, int .i64 n37, int .i64 n40, str l43, lst .ro 1 l46, lst .ro 5 l49]] fun l50 => asC A l50 fun v51 l52 => asB A v51 fun b53 => asN A l52 (bif (!b53) then (kc 0 [int .i64 2] []) else (next [lst .ro 16 (map stpV l), int .i64 (IntKind.i64.wrap (i + (1 : Int)))] [])))))) else (kc 1 [] []))
def s_SameListT {α : Type} (A : Alg α) (x : List Stp) (y : List Stp) (kc : List AV → List (Nat × List AV) → α) : α :=
  A.asm ((map stpV x).length ≤ maxL) (A.asm ((map stpV y).length ≤ maxL) (bif ((↑(map stpV x).length : Int) != (↑(map stpV y).length : Int)) then (kc [bool false] []) else (A.loop 4 [lst .ro 16 (map stpV x), lst .ro 16 (map stpV y), int .i64 0] [] fun j0 l1 l2 => bif (j0.beq 0) then (asC A l1 fun v3 l4 => asB A v3 fun b5 => asN A l4 (asN A l2 (kc [bool b5] []))) else (bif (j0.beq 1) then (asN A l1 (asN A l2 (kc [bool true] []))) else A.fail))))
def s_SameListTL {α : Type} (A : Alg α) (x : List Stp) (y : List Stp) (i : Int) (next : List AV → List (List AV) → α) (kc : Nat → List AV → List (List AV) → α) : α :=
  A.asm ((map stpV x).length ≤ maxL) (bif (decide (i < (↑(map stpV x).length : Int))) then (A.chk (decide ((0 : Int) ≤ i)) (nthE A (map stpV x) i.toNat fun v0 => asA A v0 fun l1 => asC A l1 fun v2 l3 => asI A .i64 v2 fun n4 => asC A l3 fun v5 l6 => asI A .i64 v5 fun n7 => asC A l6 fun v8 l9 => asI A .i64 v8 fun n10 => asC A l9 fun v11 l12 => asI A .i64 v11 fun n13 => asC A l12 fun v14 l15 => asI A .i64 v14 fun n16 => asC A l15 fun v17 l18 => asI A .i64 v17 fun n19 => asC A l18 fun v20 l21 => asI A .i64 v20 fun n22 => asC A l21 fun v23 l24 => asI A .i64 v23 fun n25 => asC A l24 fun v26 l27 => asI A .i64 v26 fun n28 => asC A l27 fun v29 l30 => asI A .i64 v29 fun n31 => asC A l30 fun v32 l33 => asI A .i64 v32 fun n34 => asC A l33 fun v35 l36 => asI A .i64 v35 fun n37 => asC A l36 fun v38 l39 => asI A .i64 v38 fun n40 => asC A l39 fun v41 l42 => asS A v41 fun l43 => asC A l42 fun v44 l45 => asL A 1 v44 fun l46 => asC A l45 fun v47 l48 => asL A 5 v47 fun l49 => asN A l48 (A.chk true (A.chk (decide ((0 : Int) ≤ i)) (nthE A (map stpV y) i.toNat fun v50 => asA A v50 fun l51 => asC A l51 fun v52 l53 => asI A .i64 v52 fun n54 => asC A l53 fun v55 l56 => asI A .i64 v55 fun n57 => asC A l56 fun v58 l59 => asI A .i64 v58 fun n60 => asC A l59 fun v61 l62 => asI A .i64 v61 fun n63 => asC A l62 fun v64 l65 => asI A .i64 v64 fun n66 => asC A l65 fun v67 l68 => asI A .i64 v67 fun n69 => asC A l68 fun v70 l71 => asI A .i64 v70 fun n72 => asC A l71 fun v73 l74 => asI A .i64 v73 fun n75 => asC A l74 fun v76 l77 => asI A .i64 v76 fun n78 => asC A l77 fun v79 l80 => asI A .i64 v79 fun n81 => asC A l80 fun v82 l83 => asI A .i64 v82 fun n84 => asC A l83 fun v85 l86 => asI A .i64 v85 fun n87 => asC A l86 fun v88 l89 => asI A .i64 v88 fun n90 => asC A l89 fun v91 l92 => asS A v91 fun l93 => asC A l92 fun v94 l95 => asL A 1 v94 fun l96 => asC A l95 fun v97 l98 => asL A 5 v97 fun l99 => asN A l98 (A.chk true (A.callx 47 [agg [int .i64 n4, int .i64 n7, int .i64 n10, int .i64 n13, int .i64 n16, int .i64 n19, int .i64 n22, int .i64 n25, int .i64 n28, int .i64 n31, int .i64 n34, int .i64 n37, int .i64 n40, str l43, lst .ro 1 l46, lst .ro 5 l49], agg [int .i64 n54, int .i64 n57, int .i64 n60, int .i64 n63, int .i64 n66, int .i64 n69, int .i64 n72, int .i64 n75, int .i64 n78, int .i64 n81, int .i64 n84, int .i64 n87, int .i64 n90, str l93, lst .ro 1 l96, lst .ro 5 l99]] fun l100 => asC A l100 fun v101 l102 => asB A v101 fun b103 => asN A l102 (bif (!b103) then (kc 0 [bool false] []) else (next [lst .ro 16 (map stpV x), lst .ro 16 (map stpV y), int .i64 (IntKind.i64.wrap (i + (1 : Int)))] []))))))))) else (kc 1 [] []))
theorem t_writeField (b : List AV) (x : Fld) (e : Int) {r : CR} (h : s_writeField (OA (tbl E0) (ltbl E0 137 0)) b x e (fun r o => some (r, o)) = some r) : tbl E0 137 [.ref 0 0, fldV x] (penA b e) = some r :=
  tbl_of (body := bodyOf Try.f137) Try.func137 (by kernel_rfl) (by kernel_rfl) (by kernel_rfl) (Eq.trans (by kernel_rfl) h)
theorem t_twrite (b : List AV) (x : Stp) (p e : Int) {r : CR} (h : s_twrite (OA (tbl E0) (ltbl E0 106 0)) b x p e (fun r o => some (r, o)) = some r) : tbl E0 106 [.ref 0 0, stpV x, .int .i64 p] (penA b e) = some r :=
  tbl_of (body := bodyOf Try.f106) Try.func106 (by kernel_rfl) (by kernel_rfl) (by kernel_rfl) (Eq.trans (by kernel_rfl) h)
theorem t_twriteT (l : List Int) (b : List AV) (m i e : Int) {r : LR} (h : s_twriteT (OA (tbl E0) (ltbl E0 106 0)) l b m i e (fun vs os => ltbl E0 106 0 23 vs os) (fun j vs os => some (j, vs, os)) = some r) : ltbl E0 106 0 23 [intsV l, .int .i64 m, .int .i64 i] [[.lst (.own (.O 0 0)) 1 b, .int .i64 e]] = some r :=
  ltbl_of (body := bodyOf Try.f106) Try.func106 (by kernel_rfl) (by kernel_rfl) (Eq.trans (by kernel_rfl) h)
theorem t_twriteF (l : List Fld) (b : List AV) (m i e : Int) {r : LR} (h : s_twriteF (OA (tbl E0) (ltbl E0 106 0)) l b m i e (fun vs os => ltbl E0 106 0 30 vs os) (fun j vs os => some (j, vs, os)) = some r) : ltbl E0 106 0 30 [fldsV l, .int .i64 m, .int .i64 i] [[.lst (.own (.O 0 0)) 1 b, .int .i64 e]] = some r :=
  ltbl_of (body := bodyOf Try.f106) Try.func106 (by kernel_rfl) (by kernel_rfl) (Eq.trans (by kernel_rfl) h)
theorem t_tPrint (l : List Stp) {r : CR} (h : s_tPrint (OA (tbl E0) (ltbl E0 57 0)) l (fun r o => some (r, o)) = some r) : tbl E0 57 [stpsV l] [] = some r :=
  tbl_of (body := bodyOf Try.f57) Try.func57 (by kernel_rfl) (by kernel_rfl) (by kernel_rfl) (Eq.trans (by kernel_rfl) h)
theorem t_tPrintL (l : List Stp) (b : List AV) (m i e : Int) {r : LR} (h : s_tPrintL (OA (tbl E0) (ltbl E0 57 0)) l b m i e (fun vs os => ltbl E0 57 0 6 vs os) (fun j vs os => some (j, vs, os)) = some r) : ltbl E0 57 0 6 [stpsV l, .int .i64 m, .int .i64 i] [[.lst (.own (.O 1012 0)) 1 b, .int .i64 e]] = some r :=
  ltbl_of (body := bodyOf Try.f57) Try.func57 (by kernel_rfl) (by kernel_rfl) (Eq.trans (by kernel_rfl) h)
theorem t_tPrintK (l : List Stp) (x : Stp) (u : List Int) (b : List AV) (m i n k e : Int) {r : LR} (h : s_tPrintK (OA (tbl E0) (ltbl E0 57 0)) l x u b m i n k e (fun vs os => ltbl E0 57 0 12 vs os) (fun j vs os => some (j, vs, os)) = some r) : ltbl E0 57 0 12 [stpsV l, .int .i64 m, .int .i64 i, intsV u, .int .i64 n, .int .i64 k] [stpC x, [.lst (.own (.O 1012 0)) 1 b, .int .i64 e]] = some r :=
  ltbl_of (body := bodyOf Try.f57) Try.func57 (by kernel_rfl) (by kernel_rfl) (Eq.trans (by kernel_rfl) h)
theorem t_Rights15 (l : List Stp) {r : CR} (h : s_Rights15 (OA (tbl E0) (ltbl E0 52 0)) l (fun r o => some (r, o)) = some r) : tbl E0 52 [stpsV l] [] = some r :=
  tbl_of (body := bodyOf Try.f52) Try.func52 (by kernel_rfl) (by kernel_rfl) (by kernel_rfl) (Eq.trans (by kernel_rfl) h)
theorem t_Rights15L (l : List Stp) (i : Int) {r : LR} (h : s_Rights15L (OA (tbl E0) (ltbl E0 52 0)) l i (fun vs os => ltbl E0 52 0 4 vs os) (fun j vs os => some (j, vs, os)) = some r) : ltbl E0 52 0 4 [stpsV l, .int .i64 i] [] = some r :=
  ltbl_of (body := bodyOf Try.f52) Try.func52 (by kernel_rfl) (by kernel_rfl) (Eq.trans (by kernel_rfl) h)
theorem t_SameListT (x y : List Stp) {r : CR} (h : s_SameListT (OA (tbl E0) (ltbl E0 48 0)) x y (fun r o => some (r, o)) = some r) : tbl E0 48 [stpsV x, stpsV y] [] = some r :=
  tbl_of (body := bodyOf Try.f48) Try.func48 (by kernel_rfl) (by kernel_rfl) (by kernel_rfl) (Eq.trans (by kernel_rfl) h)
theorem t_SameListTL (x y : List Stp) (i : Int) {r : LR} (h : s_SameListTL (OA (tbl E0) (ltbl E0 48 0)) x y i (fun vs os => ltbl E0 48 0 4 vs os) (fun j vs os => some (j, vs, os)) = some r) : ltbl E0 48 0 4 [stpsV x, stpsV y, .int .i64 i] [] = some r :=
  ltbl_of (body := bodyOf Try.f48) Try.func48 (by kernel_rfl) (by kernel_rfl) (Eq.trans (by kernel_rfl) h)
end Go.Proofs.Ytmpfeofeokmooaa.V
namespace Go.Proofs.Ytmpfeofeokmooaa.V
open Go
open AV (int lst agg str bool ref clo)
open List (map)
end Go.Proofs.Ytmpfeofeokmooaa.V
namespace Go.Proofs.Ytmpfeofeokmooaa.V
open Go
open AV (int lst agg str bool ref clo)
open List (map)
def s_swrite {α : Type} (A : Alg α) (b : List AV) (x : Fld) (e : Int) (kc : List AV → List (Nat × List AV) → α) : α :=
  A.chk true (A.call 59 [ref 0 0, int .i64 x.id] [(0, [lst (.own (.E 0 0)) 1 b, int .i64 e])] fun l0 l1 => asC A l1 fun x2 l3 => bif (x2.1.beq 0) then (asC A x2.2 fun v4 l5 => asOwn A 1 v4 fun x6 l7 => asC A l5 fun v8 l9 => asI A .i64 v8 fun n10 => asN A l9 (asN A l0 (asN A l3 (A.call 59 [ref 0 0, int .i64 x.kind] [(0, [lst (.own (.E 0 0)) 1 l7, int .i64 n10])] fun l11 l12 => asC A l12 fun x13 l14 => bif (x13.1.beq 0) then (asC A x13.2 fun v15 l16 => asOwn A 1 v15 fun x17 l18 => asC A l16 fun v19 l20 => asI A .i64 v19 fun n21 => asN A l20 (asN A l11 (asN A l14 (bif (x.kind == (1 : Int)) then (A.call 133 [ref 0 0, int .i64 x.lo] [(0, [lst (.own (.E 0 0)) 1 l18, int .i64 n21])] fun l22 l23 => asC A l23 fun x24 l25 => bif (x24.1.beq 0) then (asC A x24.2 fun v26 l27 => asOwn A 1 v26 fun x28 l29 => asC A l27 fun v30 l31 => asI A .i64 v30 fun n32 => asN A l31 (asN A l22 (asN A l25 (A.call 133 [ref 0 0, int .i64 x.hi] [(0, [lst (.own (.E 0 0)) 1 l29, int .i64 n32])] fun l33 l34 => asC A l34 fun x35 l36 => bif (x35.1.beq 0) then (asC A x35.2 fun v37 l38 => asOwn A 1 v37 fun x39 l40 => asC A l38 fun v41 l42 => asI A .i64 v41 fun n43 => asN A l42 (asN A l33 (asN A l36 (kc [] [(0, [lst (.own (.E 0 0)) 1 l40, int .i64 n43])])))) else A.fail)))) else A.fail) else (bif (x.kind == (3 : Int)) then (A.call 59 [ref 0 0, int .i64 x.most] [(0, [lst (.own (.E 0 0)) 1 l18, int .i64 n21])] fun l44 l45 => asC A l45 fun x46 l47 => bif (x46.1.beq 0) then (asC A x46.2 fun v48 l49 => asOwn A 1 v48 fun x50 l51 => asC A l49 fun v52 l53 => asI A .i64 v52 fun n54 => asN A l53 (asN A l44 (asN A l47 (kc [] [(0, [lst (.own (.E 0 0)) 1 l51, int .i64 n54])])))) else A.fail) else (bif (x.kind == (4 : Int)) then (A.call 59 [ref 0 0, int .i64 x.most] [(0, [lst (.own (.E 0 0)) 1 l18, int .i64 n21])] fun l55 l56 => asC A l56 fun x57 l58 => bif (x57.1.beq 0) then (asC A x57.2 fun v59 l60 => asOwn A 1 v59 fun x61 l62 => asC A l60 fun v63 l64 => asI A .i64 v63 fun n65 => asN A l64 (asN A l55 (asN A l58 (kc [] [(0, [lst (.own (.E 0 0)) 1 l62, int .i64 n65])])))) else A.fail) else (kc [] [(0, [lst (.own (.E 0 0)) 1 l18, int .i64 n21])]))))))) else A.fail)))) else A.fail)
def s_sPrint {α : Type} (A : Alg α) (s : Sch) (kc : List AV → List (Nat × List AV) → α) : α :=
  A.chk true (A.chk true (A.callx 68 [agg [int .i64 s.ver, lst .ro 2 (map frmV s.forms)]] fun l0 => asC A l0 fun v1 l2 => asB A v1 fun b3 => asN A l2 (bif (!b3) then (kc [lst .ro 1 [], int .i64 2] []) else (A.call 58 [] [] fun l4 l5 => asC A l4 fun v6 l7 => asRef0 A v6 fun o8 => bif (o8.beq 64) then (asC A l5 fun x9 l10 => bif (x9.1.beq 64) then (asC A x9.2 fun v11 l12 => asOwn A 1 v11 fun x13 l14 => asC A l12 fun v15 l16 => asI A .i64 v15 fun n17 => asN A l16 (asN A l7 (asN A l10 (A.call 59 [ref 0 0, int .i64 s.ver] [(0, [lst (.own (.E 0 0)) 1 l14, int .i64 n17])] fun l18 l19 => asC A l19 fun x20 l21 => bif (x20.1.beq 0) then (asC A x20.2 fun v22 l23 => asOwn A 1 v22 fun x24 l25 => asC A l23 fun v26 l27 => asI A .i64 v26 fun n28 => asN A l27 (asN A l18 (asN A l21 (A.asm ((map frmV s.forms).length ≤ maxL) (A.call 59 [ref 0 0, int .i64 (↑(map frmV s.forms).length : Int)] [(0, [lst (.own (.E 0 0)) 1 l25, int .i64 n28])] fun l29 l30 => asC A l30 fun x31 l32 => bif (x31.1.beq 0) then (asC A x31.2 fun v33 l34 => asOwn A 1 v33 fun x35 l36 => asC A l34 fun v37 l38 => asI A .i64 v37 fun n39 => asN A l38 (asN A l29 (asN A l32 (A.asm ((map frmV s.forms).length ≤ maxL) (A.loop 7 [lst .ro 2 (map frmV s.forms), int .i64 (↑(map frmV s.forms).length : Int), int .i64 0] [[lst (.own (.O 1012 0)) 1 l36, int .i64 n39]] fun j40 l41 l42 => bif (j40.beq 1) then (asN A l41 (asC A l42 fun l43 l44 => asC A l43 fun v45 l46 => asOwn A 1 v45 fun x47 l48 => bif (x47.beq (.O (1012 : Nat) (0 : Nat))) then (asC A l46 fun v49 l50 => asI A .i64 v49 fun n51 => asN A l50 (asN A l44 (A.call 61 [ref 0 0] [(0, [lst (.own (.E 0 0)) 1 l48, int .i64 n51])] fun l52 l53 => asC A l53 fun x54 l55 => bif (x54.1.beq 0) then (asC A x54.2 fun v56 l57 => asOwn A 1 v56 fun x58 l59 => asC A l57 fun v60 l61 => asI A .i64 v60 fun n62 => asN A l61 (asC A l52 fun v63 l64 => asL A 1 v63 fun l65 => asC A l64 fun v66 l67 => asI A .i64 v66 fun n68 => asN A l67 (asN A l55 (kc [lst .ro 1 l65, int .i64 n68] [])))) else A.fail))) else A.fail)) else A.fail))))) else A.fail))))) else A.fail)))) else A.fail) else A.fail))))
def s_sPrintL {α : Type} (A : Alg α) (l : List Frm) (b : List AV) (m : Int) (i : Int) (e : Int) (next : List AV → List (List AV) → α) (kc : Nat → List AV → List (List AV) → α) : α :=
  bif (decide (i < m)) then (A.chk (decide ((0 : Int) ≤ i)) (nthE A (map frmV l) i.toNat fun v0 => asA A v0 fun l1 => asC A l1 fun v2 l3 => asI A .i64 v2 fun n4 => asC A l3 fun v5 l6 => asL A 5 v5 fun l7 => asN A l6 (A.chk true (A.chk true (A.chk true (A.call 59 [ref 0 0, int .i64 n4] [(0, [lst (.own (.E 0 0)) 1 b, int .i64 e])] fun l8 l9 => asC A l9 fun x10 l11 => bif (x10.1.beq 0) then (asC A x10.2 fun v12 l13 => asOwn A 1 v12 fun x14 l15 => asC A l13 fun v16 l17 => asI A .i64 v16 fun n18 => asN A l17 (asN A l8 (asN A l11 (A.asm (l7.length ≤ maxL) (A.call 59 [ref 0 0, int .i64 (↑l7.length : Int)] [(0, [lst (.own (.E 0 0)) 1 l15, int .i64 n18])] fun l19 l20 => asC A l20 fun x21 l22 => bif (x21.1.beq 0) then (asC A x21.2 fun v23 l24 => asOwn A 1 v23 fun x25 l26 => asC A l24 fun v27 l28 => asI A .i64 v27 fun n29 => asN A l28 (asN A l19 (asN A l22 (A.asm (l7.length ≤ maxL) (A.loop 12 [lst .ro 2 (map frmV l), int .i64 m, int .i64 i, lst .ro 5 l7, int .i64 (↑l7.length : Int), int .i64 0] [[lst (.own (.O 1012 0)) 1 l26, int .i64 n29]] fun j30 l31 l32 => bif (j30.beq 3) then (asC A l31 fun v33 l34 => asL A 2 v33 fun l35 => asC A l34 fun v36 l37 => asI A .i64 v36 fun n38 => asC A l37 fun v39 l40 => asI A .i64 v39 fun n41 => asN A l40 (asC A l32 fun l42 l43 => asC A l42 fun v44 l45 => asOwn A 1 v44 fun x46 l47 => bif (x46.beq (.O (1012 : Nat) (0 : Nat))) then (asC A l45 fun v48 l49 => asI A .i64 v48 fun n50 => asN A l49 (asN A l43 (next [lst .ro 2 l35, int .i64 n38, int .i64 (IntKind.i64.wrap (n41 + (1 : Int)))] [[lst (.own (.O 1012 0)) 1 l47, int .i64 n50]]))) else A.fail)) else A.fail))))) else A.fail))))) else A.fail)))))) else (kc 1 [] [[lst (.own (.O 1012 0)) 1 b, int .i64 e]])
def s_sPrintK {α : Type} (A : Alg α) (l : List Frm) (fs : List Fld) (b : List AV) (m : Int) (i : Int) (n : Int) (k : Int) (e : Int) (next : List AV → List (List AV) → α) (kc : Nat → List AV → List (List AV) → α) : α :=
  bif (decide (k < n)) then (A.chk (decide ((0 : Int) ≤ k)) (nthE A (map fldV fs) k.toNat fun v0 => asA A v0 fun l1 => asC A l1 fun v2 l3 => asI A .i64 v2 fun n4 => asC A l3 fun v5 l6 => asI A .i64 v5 fun n7 => asC A l6 fun v8 l9 => asI A .i64 v8 fun n10 => asC A l9 fun v11 l12 => asI A .i64 v11 fun n13 => asC A l12 fun v14 l15 => asI A .i64 v14 fun n16 => asN A l15 (A.chk true (A.chk true (A.chk true (A.chk true (A.call 87 [ref 0 0, agg [int .i64 n4, int .i64 n7, int .i64 n10, int .i64 n13, int .i64 n16]] [(0, [lst (.own (.E 0 0)) 1 b, int .i64 e])] fun l17 l18 => asC A l18 fun x19 l20 => bif (x19.1.beq 0) then (asC A x19.2 fun v21 l22 => asOwn A 1 v21 fun x23 l24 => asC A l22 fun v25 l26 => asI A .i64 v25 fun n27 => asN A l26 (asN A l17 (asN A l20 (next [lst .ro 2 (map frmV l), int .i64 m, int .i64 i, lst .ro 5 (map fldV fs), int .i64 n, int .i64 (IntKind.i64.wrap (k + (1 : Int)))] [[lst (.own (.O 1012 0)) 1 l24, int .i64 n27]])))) else A.fail))))))) else (kc 3 [lst .ro 2 (map frmV l), int .i64 m, int .i64 i] [[lst (.own (.O 1012 0)) 1 b, int .i64 e]])
theorem t_swrite (b : List AV) (x : Fld) (e : Int) {r : CR} (h : s_swrite (OA (tbl E0) (ltbl E0 87 0)) b x e (fun r o => some (r, o)) = some r) : tbl E0 87 [.ref 0 0, fldV x] (penA b e) = some r :=
  tbl_of (body := bodyOf Try.f87) Try.func87 (by kernel_rfl) (by kernel_rfl) (by kernel_rfl) (Eq.trans (by kernel_rfl) h)
theorem t_sPrint (s : Sch) {r : CR} (h : s_sPrint (OA (tbl E0) (ltbl E0 36 0)) s (fun r o => some (r, o)) = some r) : tbl E0 36 [schV s] [] = some r :=
  tbl_of (body := bodyOf Try.f36) Try.func36 (by kernel_rfl) (by kernel_rfl) (by kernel_rfl) (Eq.trans (by kernel_rfl) h)
theorem t_sPrintL (l : List Frm) (b : List AV) (m i e : Int) {r : LR} (h : s_sPrintL (OA (tbl E0) (ltbl E0 36 0)) l b m i e (fun vs os => ltbl E0 36 0 7 vs os) (fun j vs os => some (j, vs, os)) = some r) : ltbl E0 36 0 7 [frmsV l, .int .i64 m, .int .i64 i] [[.lst (.own (.O 1012 0)) 1 b, .int .i64 e]] = some r :=
  ltbl_of (body := bodyOf Try.f36) Try.func36 (by kernel_rfl) (by kernel_rfl) (Eq.trans (by kernel_rfl) h)
theorem t_sPrintK (l : List Frm) (fs : List Fld) (b : List AV) (m i n k e : Int) {r : LR} (h : s_sPrintK (OA (tbl E0) (ltbl E0 36 0)) l fs b m i n k e (fun vs os => ltbl E0 36 0 12 vs os) (fun j vs os => some (j, vs, os)) = some r) : ltbl E0 36 0 12 [frmsV l, .int .i64 m, .int .i64 i, fldsV fs, .int .i64 n, .int .i64 k] [[.lst (.own (.O 1012 0)) 1 b, .int .i64 e]] = some r :=
  ltbl_of (body := bodyOf Try.f36) Try.func36 (by kernel_rfl) (by kernel_rfl) (Eq.trans (by kernel_rfl) h)
end Go.Proofs.Ytmpfeofeokmooaa.V
namespace Go.Proofs.Ytmpfeofeokmooaa.V
open Go
structure Lnk where
  fr : Int
  to : Sch
  on : List Stp
  back : List Stp
  deriving DecidableEq
abbrev lnkC (x : Lnk) : List AV := [.int .i64 x.fr, .int .i64 x.to.ver, frmsV x.to.forms, stpsV x.on, stpsV x.back]
abbrev lnkV (x : Lnk) : AV := AV.agg (lnkC x)
abbrev lnksV (l : List Lnk) : AV := AV.lst .ro 5 (l.map lnkV)
abbrev bytesV (b : List UInt8) : AV := AV.lst .ro 1 (encB b)
def rightsS (l : List Stp) : Bool := decide (l.length ≤ 40) && l.all tRightS
def lnkS (x : Lnk) : Bool := decide (1 ≤ x.fr) && (decide (x.fr ≤ 65535) && (schS x.to && (x.to.ver != x.fr && (rightsS x.on && rightsS x.back))))
def Lnk.ok (x : Lnk) : Prop := i64 x.fr ∧ x.to.ok ∧ (∀ s ∈ x.on, s.ok) ∧ ∀ s ∈ x.back, s.ok
def txtB (s : List UInt8) : List UInt8 := cnt s.length ++ s
def lnkB (x : Lnk) : List UInt8 := cnt x.fr.toNat ++ (txtB (schB x.to) ++ (txtB (lstB x.on) ++ txtB (lstB x.back)))
end Go.Proofs.Ytmpfeofeokmooaa.V
namespace Go.Proofs.Ytmpfeofeokmooaa.V
open Go
structure Man where
  ver : Int
  sch : Sch
  links : List Lnk
  img : Int
  deriving DecidableEq
abbrev manC (x : Man) : List AV := [.int .i64 x.ver, .int .i64 x.sch.ver, frmsV x.sch.forms, lnksV x.links, .int .i64 x.img]
abbrev manV (x : Man) : AV := AV.agg (manC x)
def manS (x : Man) : Bool := x.links.all lnkS && (decide (1 ≤ x.ver) && (decide (x.ver ≤ 65535) && (schS x.sch && (decide (x.links.length ≤ 8) && (decide (0 ≤ x.img) && decide (x.img ≤ 131072))))))
def Man.ok (x : Man) : Prop := i64 x.ver ∧ x.sch.ok ∧ (∀ l ∈ x.links, l.ok) ∧ i64 x.img
def lnksB (l : List Lnk) : List UInt8 := (l.map fun x => txtB (lnkB x)).flatten
def manB (x : Man) : List UInt8 := word4 1230197842 ++ (cnt x.ver.toNat ++ (txtB (schB x.sch) ++ (cnt x.links.length ++ (lnksB x.links ++ cnt x.img.toNat))))
end Go.Proofs.Ytmpfeofeokmooaa.V
namespace Go.Proofs.Ytmpfeofeokmooaa.V
open Go
open AV (int lst agg str bool ref clo)
open List (map)
def s_lGreat {α : Type} (A : Alg α) (x : Lnk) (kc : List AV → List (Nat × List AV) → α) : α :=
  A.chk true (A.loop 2 [int .i64 0] [[int .i64 x.fr, int .i64 x.to.ver, lst .ro 2 (map frmV x.to.forms), lst .ro 16 (map stpV x.on), lst .ro 16 (map stpV x.back)]] fun j0 l1 l2 => bif (j0.beq 0) then (asC A l1 fun v3 l4 => asB A v3 fun b5 => asN A l4 (asN A l2 (kc [bool b5] []))) else (bif (j0.beq 1) then (asN A l1 (asC A l2 fun l6 l7 => asC A l6 fun v8 l9 => asI A .i64 v8 fun n10 => asC A l9 fun v11 l12 => asI A .i64 v11 fun n13 => asC A l12 fun v14 l15 => asL A 2 v14 fun l16 => asC A l15 fun v17 l18 => asL A 16 v17 fun l19 => asC A l18 fun v20 l21 => asL A 16 v20 fun l22 => asN A l21 (asN A l7 (A.join (fun x23 => A.asm (l16.length ≤ maxL) (bif (decide ((↑l16.length : Int) > (40 : Int))) then (x23 true) else (A.callx 41 [lst .ro 16 l19] fun l24 => asC A l24 fun v25 l26 => asB A v25 fun b27 => asN A l26 (bif b27 then (x23 true) else (A.callx 41 [lst .ro 16 l22] fun l28 => asC A l28 fun v29 l30 => asB A v29 fun b31 => asN A l30 (x23 b31)))))) fun b32 => kc [bool b32] [])))) else A.fail))
def s_lGreatL {α : Type} (A : Alg α) (x : Lnk) (i : Int) (next : List AV → List (List AV) → α) (kc : Nat → List AV → List (List AV) → α) : α :=
  A.join (fun x0 => A.asm ((map frmV x.to.forms).length ≤ maxL) (bif (decide (i < (↑(map frmV x.to.forms).length : Int))) then (x0 (decide (i < (41 : Int)))) else (x0 false))) fun b1 => bif b1 then (A.chk (decide ((0 : Int) ≤ i)) (nthE A (map frmV x.to.forms) i.toNat fun v2 => asA A v2 fun l3 => asC A l3 fun v4 l5 => asI A .i64 v4 fun n6 => asC A l5 fun v7 l8 => asL A 5 v7 fun l9 => asN A l8 (A.asm (l9.length ≤ maxL) (bif (decide ((↑l9.length : Int) > (40 : Int))) then (kc 0 [bool true] []) else (next [int .i64 (IntKind.i64.wrap (i + (1 : Int)))] [[int .i64 x.fr, int .i64 x.to.ver, lst .ro 2 (map frmV x.to.forms), lst .ro 16 (map stpV x.on), lst .ro 16 (map stpV x.back)]]))))) else (kc 1 [] [[int .i64 x.fr, int .i64 x.to.ver, lst .ro 2 (map frmV x.to.forms), lst .ro 16 (map stpV x.on), lst .ro 16 (map stpV x.back)]])
def s_ylRight {α : Type} (A : Alg α) (x : Lnk) (kc : List AV → List (Nat × List AV) → α) : α :=
  A.chk true (A.join (fun x0 => bif (decide (x.fr ≥ (1 : Int))) then (bif (decide (x.fr ≤ (65535 : Int))) then (A.chk true (A.callx 37 [agg [int .i64 x.to.ver, lst .ro 2 (map frmV x.to.forms)]] fun l1 => asC A l1 fun v2 l3 => asB A v2 fun b4 => asN A l3 (bif b4 then (bif (x.to.ver != x.fr) then (A.callx 52 [lst .ro 16 (map stpV x.on)] fun l5 => asC A l5 fun v6 l7 => asI A .i64 v6 fun n8 => asN A l7 (bif (n8 == (0 : Int)) then (A.callx 52 [lst .ro 16 (map stpV x.back)] fun l9 => asC A l9 fun v10 l11 => asI A .i64 v10 fun n12 => asN A l11 (x0 (n12 == (0 : Int)))) else (x0 false))) else (x0 false)) else (x0 false)))) else (x0 false)) else (x0 false)) fun b13 => kc [bool b13] [])
def s_lSame {α : Type} (A : Alg α) (x : Lnk) (y : Lnk) (kc : List AV → List (Nat × List AV) → α) : α :=
  A.chk true (A.chk true (A.join (fun x0 => bif (x.fr == y.fr) then (A.chk true (A.chk true (A.callx 53 [agg [int .i64 x.to.ver, lst .ro 2 (map frmV x.to.forms)], agg [int .i64 y.to.ver, lst .ro 2 (map frmV y.to.forms)]] fun l1 => asC A l1 fun v2 l3 => asB A v2 fun b4 => asN A l3 (bif b4 then (A.callx 54 [lst .ro 16 (map stpV x.on), lst .ro 16 (map stpV y.on), clo 55 []] fun l5 => asC A l5 fun v6 l7 => asB A v6 fun b8 => asN A l7 (bif b8 then (A.callx 54 [lst .ro 16 (map stpV x.back), lst .ro 16 (map stpV y.back), clo 55 []] fun l9 => asC A l9 fun v10 l11 => asB A v10 fun b12 => asN A l11 (x0 b12)) else (x0 false))) else (x0 false))))) else (x0 false)) fun b13 => kc [bool b13] []))
def s_ylSame {α : Type} (A : Alg α) (x : Lnk) (y : Lnk) (kc : List AV → List (Nat × List AV) → α) : α :=
  A.chk true (A.chk true (A.join (fun x0 => bif (x.fr == y.fr) then (A.chk true (A.chk true (A.callx 31 [agg [int .i64 x.to.ver, lst .ro 2 (map frmV x.to.forms)], agg [int .i64 y.to.ver, lst .ro 2 (map frmV y.to.forms)]] fun l1 => asC A l1 fun v2 l3 => asB A v2 fun b4 => asN A l3 (bif b4 then (A.callx 48 [lst .ro 16 (map stpV x.on), lst .ro 16 (map stpV y.on)] fun l5 => asC A l5 fun v6 l7 => asB A v6 fun b8 => asN A l7 (bif b8 then (A.callx 48 [lst .ro 16 (map stpV x.back), lst .ro 16 (map stpV y.back)] fun l9 => asC A l9 fun v10 l11 => asB A v10 fun b12 => asN A l11 (x0 b12)) else (x0 false))) else (x0 false))))) else (x0 false)) fun b13 => kc [bool b13] []))
def s_EqFS {α : Type} (A : Alg α) (x : List Stp) (y : List Stp) (kc : List AV → List (Nat × List AV) → α) : α :=
  A.asm ((map stpV x).length ≤ maxL) (A.asm ((map stpV y).length ≤ maxL) (bif ((↑(map stpV x).length : Int) != (↑(map stpV y).length : Int)) then (kc [bool false] []) else (A.asm ((map stpV x).length ≤ maxL) (A.loop 4 [lst .ro 16 (map stpV y), clo 55 [], lst .ro 16 (map stpV x), int .i64 (↑(map stpV x).length : Int), int .i64 0] [] fun j0 l1 l2 => bif (j0.beq 0) then (asC A l1 fun v3 l4 => asB A v3 fun b5 => asN A l4 (asN A l2 (kc [bool b5] []))) else (bif (j0.beq 1) then (asN A l1 (asN A l2 (kc [bool true] []))) else A.fail)))))
def s_EqFSL {α : Type} (A : Alg α) (x : List Stp) (y : List Stp) (m : Int) (i : Int) (next : List AV → List (List AV) → α) (kc : Nat → List AV → List (List AV) → α) : α :=
  bif (decide (i < m)) then (A.chk (decide ((0 : Int) ≤ i)) (nthE A (map stpV x) i.toNat fun v0 => asA A v0 fun l1 => asC A l1 fun v2 l3 => asI A .i64 v2 fun n4 => asC A l3 fun v5 l6 => asI A .i64 v5 fun n7 => asC A l6 fun v8 l9 => asI A .i64 v8 fun n10 => asC A l9 fun v11 l12 => asI A .i64 v11 fun n13 => asC A l12 fun v14 l15 => asI A .i64 v14 fun n16 => asC A l15 fun v17 l18 => asI A .i64 v17 fun n19 => asC A l18 fun v20 l21 => asI A .i64 v20 fun n22 => asC A l21 fun v23 l24 => asI A .i64 v23 fun n25 => asC A l24 fun v26 l27 => asI A .i64 v26 fun n28 => asC A l27 fun v29 l30 => asI A .i64 v29 fun n31 => asC A l30 fun v32 l33 => asI A .i64 v32 fun n34 => asC A l33 fun v35 l36 => asI A .i64 v35 fun n37 => asC A l36 fun v38 l39 => asI A .i64 v38 fun n40 => asC A l39 fun v41 l42 => asS A v41 fun l43 => asC A l42 fun v44 l45 => asL A 1 v44 fun l46 => asC A l45 fun v47 l48 => asL A 5 v47 fun l49 => asN A l48 (A.chk true (A.chk true (A.chk true (A.chk (decide ((0 : Int) ≤ i)) (nthE A (map stpV y) i.toNat fun v50 => asA A v50 fun l51 => asC A l51 fun v52 l53 => asI A .i64 v52 fun n54 => asC A l53 fun v55 l56 => asI A .i64 v55 fun n57 => asC A l56 fun v58 l59 => asI A .i64 v58 fun n60 => asC A l59 fun v61 l62 => asI A .i64 v61 fun n63 => asC A l62 fun v64 l65 => asI A .i64 v64 fun n66 => asC A l65 fun v67 l68 => asI A .i64 v67 fun n69 => asC A l68 fun v70 l71 => asI A .i64 v70 fun n72 => asC A l71 fun v73 l74 => asI A .i64 v73 fun n75 => asC A l74 fun v76 l77 => asI A .i64 v76 fun n78 => asC A l77 fun v79 l80 => asI A .i64 v79 fun n81 => asC A l80 fun v82 l83 => asI A .i64 v82 fun n84 => asC A l83 fun v85 l86 => asI A .i64 v85 fun n87 => asC A l86 fun v88 l89 => asI A .i64 v88 fun n90 => asC A l89 fun v91 l92 => asS A v91 fun l93 => asC A l92 fun v94 l95 => asL A 1 v94 fun l96 => asC A l95 fun v97 l98 => asL A 5 v97 fun l99 => asN A l98 (A.chk true (A.chk true (A.chk true (A.chk true (A.chk true (A.callx 55 [agg [int .i64 n4, int .i64 n7, int .i64 n10, int .i64 n13, int .i64 n16, int .i64 n19, int .i64 n22, int .i64 n25, int .i64 n28, int .i64 n31, int .i64 n34, int .i64 n37, int .i64 n40, str l43, lst .ro 1 l46, lst .ro 5 l49], agg [int .i64 n54, int .i64 n57, int .i64 n60, int .i64 n63, int .i64 n66, int .i64 n69, int .i64 n72, int .i64 n75, int .i64 n78, int .i64 n81, int .i64 n84, int .i64 n87, int .i64 n90, str l93, lst .ro 1 l96, lst .ro 5 l99]] fun l100 => asC A l100 fun v101 l102 => asB A v101 fun b103 => asN A l102 (bif (!b103) then (kc 0 [bool false] []) else (next [lst .ro 16 (map stpV y), clo 55 [], lst .ro 16 (map stpV x), int .i64 m, int .i64 (IntKind.i64.wrap (i + (1 : Int)))] []))))))))))))))) else (kc 1 [] [])
def s_lPrint {α : Type} (A : Alg α) (x : Lnk) (kc : List AV → List (Nat × List AV) → α) : α :=
  A.chk true (A.chk true (A.callx 36 [agg [int .i64 x.to.ver, lst .ro 2 (map frmV x.to.forms)]] fun l0 => asC A l0 fun v1 l2 => asL A 1 v1 fun l3 => asC A l2 fun v4 l5 => asI A .i64 v4 fun n6 => asN A l5 (A.callx 57 [lst .ro 16 (map stpV x.on)] fun l7 => asC A l7 fun v8 l9 => asL A 1 v8 fun l10 => asC A l9 fun v11 l12 => asI A .i64 v11 fun n13 => asN A l12 (A.callx 57 [lst .ro 16 (map stpV x.back)] fun l14 => asC A l14 fun v15 l16 => asL A 1 v15 fun l17 => asC A l16 fun v18 l19 => asI A .i64 v18 fun n20 => asN A l19 (A.join (fun x21 => bif (n6 != (0 : Int)) then (x21 true) else (bif (n13 != (0 : Int)) then (x21 true) else (bif (n20 != (0 : Int)) then (x21 true) else (bif (decide (x.fr < (1 : Int))) then (x21 true) else (bif (decide (x.fr > (65535 : Int))) then (x21 true) else (x21 (x.fr == x.to.ver))))))) fun b22 => bif b22 then (kc [lst .ro 1 [], int .i64 2] []) else (A.call 58 [] [] fun l23 l24 => asC A l23 fun v25 l26 => asRef0 A v25 fun o27 => bif (o27.beq 64) then (asC A l24 fun x28 l29 => bif (x28.1.beq 64) then (asC A x28.2 fun v30 l31 => asOwn A 1 v30 fun x32 l33 => asC A l31 fun v34 l35 => asI A .i64 v34 fun n36 => asN A l35 (asN A l26 (asN A l29 (A.call 59 [ref 0 0, int .i64 x.fr] [(0, [lst (.own (.E 0 0)) 1 l33, int .i64 n36])] fun l37 l38 => asC A l38 fun x39 l40 => bif (x39.1.beq 0) then (asC A x39.2 fun v41 l42 => asOwn A 1 v41 fun x43 l44 => asC A l42 fun v45 l46 => asI A .i64 v45 fun n47 => asN A l46 (asN A l37 (asN A l40 (A.asm ([lst .ro (nat_lit 1) l3, lst .ro (nat_lit 1) l10, lst .ro (nat_lit 1) l17].length ≤ maxL) (A.loop 10 [lst .ro 1 [lst .ro 1 l3, lst .ro 1 l10, lst .ro 1 l17], int .i64 (↑[lst .ro (nat_lit 1) l3, lst .ro (nat_lit 1) l10, lst .ro (nat_lit 1) l17].length : Int), int .i64 0] [[lst (.own (.O 1061 0)) 1 l44, int .i64 n47]] fun j48 l49 l50 => bif (j48.beq 1) then (asN A l49 (asC A l50 fun l51 l52 => asC A l51 fun v53 l54 => asOwn A 1 v53 fun x55 l56 => bif (x55.beq (.O (1061 : Nat) (0 : Nat))) then (asC A l54 fun v57 l58 => asI A .i64 v57 fun n59 => asN A l58 (asN A l52 (A.call 61 [ref 0 0] [(0, [lst (.own (.E 0 0)) 1 l56, int .i64 n59])] fun l60 l61 => asC A l61 fun x62 l63 => bif (x62.1.beq 0) then (asC A x62.2 fun v64 l65 => asOwn A 1 v64 fun x66 l67 => asC A l65 fun v68 l69 => asI A .i64 v68 fun n70 => asN A l69 (asC A l60 fun v71 l72 => asL A 1 v71 fun l73 => asC A l72 fun v74 l75 => asI A .i64 v74 fun n76 => asN A l75 (asN A l63 (kc [lst .ro 1 l73, int .i64 n76] [])))) else A.fail))) else A.fail)) else A.fail))))) else A.fail)))) else A.fail) else A.fail))))))
def s_lPrintL {α : Type} (A : Alg α) (l : List (List UInt8)) (b : List AV) (m : Int) (i : Int) (e : Int) (next : List AV → List (List AV) → α) (kc : Nat → List AV → List (List AV) → α) : α :=
  bif (decide (i < m)) then (A.chk (decide ((0 : Int) ≤ i)) (nthE A (map bytesV l) i.toNat fun v0 => asL A 1 v0 fun l1 => orFail A (bytesOf l1) fun l2 => A.call 60 [ref 0 0, str l2] [(0, [lst (.own (.E 0 0)) 1 b, int .i64 e])] fun l3 l4 => asC A l4 fun x5 l6 => bif (x5.1.beq 0) then (asC A x5.2 fun v7 l8 => asOwn A 1 v7 fun x9 l10 => asC A l8 fun v11 l12 => asI A .i64 v11 fun n13 => asN A l12 (asN A l3 (asN A l6 (next [lst .ro 1 (map bytesV l), int .i64 m, int .i64 (IntKind.i64.wrap (i + (1 : Int)))] [[lst (.own (.O 1061 0)) 1 l10, int .i64 n13]])))) else A.fail)) else (kc 1 [] [[lst (.own (.O 1061 0)) 1 b, int .i64 e]])
theorem t_lGreat (x : Lnk) {r : CR} (h : s_lGreat (OA (tbl E0) (ltbl E0 13 0)) x (fun r o => some (r, o)) = some r) : tbl E0 13 [lnkV x] [] = some r :=
  tbl_of (body := bodyOf Try.f13) Try.func13 (by kernel_rfl) (by kernel_rfl) (by kernel_rfl) (Eq.trans (by kernel_rfl) h)
theorem t_lGreatL (x : Lnk) (i : Int) {r : LR} (h : s_lGreatL (OA (tbl E0) (ltbl E0 13 0)) x i (fun vs os => ltbl E0 13 0 2 vs os) (fun j vs os => some (j, vs, os)) = some r) : ltbl E0 13 0 2 [.int .i64 i] [lnkC x] = some r :=
  ltbl_of (body := bodyOf Try.f13) Try.func13 (by kernel_rfl) (by kernel_rfl) (Eq.trans (by kernel_rfl) h)
theorem t_ylRight (x : Lnk) {r : CR} (h : s_ylRight (OA (tbl E0) (ltbl E0 16 0)) x (fun r o => some (r, o)) = some r) : tbl E0 16 [lnkV x] [] = some r :=
  tbl_of (body := bodyOf Try.f16) Try.func16 (by kernel_rfl) (by kernel_rfl) (by kernel_rfl) (Eq.trans (by kernel_rfl) h)
theorem t_lSame (x y : Lnk) {r : CR} (h : s_lSame (OA (tbl E0) (ltbl E0 17 0)) x y (fun r o => some (r, o)) = some r) : tbl E0 17 [lnkV x, lnkV y] [] = some r :=
  tbl_of (body := bodyOf Try.f17) Try.func17 (by kernel_rfl) (by kernel_rfl) (by kernel_rfl) (Eq.trans (by kernel_rfl) h)
theorem t_ylSame (x y : Lnk) {r : CR} (h : s_ylSame (OA (tbl E0) (ltbl E0 18 0)) x y (fun r o => some (r, o)) = some r) : tbl E0 18 [lnkV x, lnkV y] [] = some r :=
  tbl_of (body := bodyOf Try.f18) Try.func18 (by kernel_rfl) (by kernel_rfl) (by kernel_rfl) (Eq.trans (by kernel_rfl) h)
theorem t_EqFS (x y : List Stp) {r : CR} (h : s_EqFS (OA (tbl E0) (ltbl E0 54 0)) x y (fun r o => some (r, o)) = some r) : tbl E0 54 [stpsV x, stpsV y, .clo 55 []] [] = some r :=
  tbl_of (body := bodyOf Try.f54) Try.func54 (by kernel_rfl) (by kernel_rfl) (by kernel_rfl) (Eq.trans (by kernel_rfl) h)
theorem t_EqFSL (x y : List Stp) (m i : Int) {r : LR} (h : s_EqFSL (OA (tbl E0) (ltbl E0 54 0)) x y m i (fun vs os => ltbl E0 54 0 4 vs os) (fun j vs os => some (j, vs, os)) = some r) : ltbl E0 54 0 4 [stpsV y, .clo 55 [], stpsV x, .int .i64 m, .int .i64 i] [] = some r :=
  ltbl_of (body := bodyOf Try.f54) Try.func54 (by kernel_rfl) (by kernel_rfl) (Eq.trans (by kernel_rfl) h)
theorem t_lPrint (x : Lnk) {r : CR} (h : s_lPrint (OA (tbl E0) (ltbl E0 25 0)) x (fun r o => some (r, o)) = some r) : tbl E0 25 [lnkV x] [] = some r :=
  tbl_of (body := bodyOf Try.f25) Try.func25 (by kernel_rfl) (by kernel_rfl) (by kernel_rfl) (Eq.trans (by kernel_rfl) h)
theorem t_lPrintL (l : List (List UInt8)) (b : List AV) (m i e : Int) {r : LR} (h : s_lPrintL (OA (tbl E0) (ltbl E0 25 0)) l b m i e (fun vs os => ltbl E0 25 0 10 vs os) (fun j vs os => some (j, vs, os)) = some r) : ltbl E0 25 0 10 [.lst .ro 1 (l.map bytesV), .int .i64 m, .int .i64 i] [[.lst (.own (.O 1061 0)) 1 b, .int .i64 e]] = some r :=
  ltbl_of (body := bodyOf Try.f25) Try.func25 (by kernel_rfl) (by kernel_rfl) (Eq.trans (by kernel_rfl) h)
end Go.Proofs.Ytmpfeofeokmooaa.V
namespace Go.Proofs.Ytmpfeofeokmooaa.V
open Go
theorem fldB_len {x : Fld} (hx : x.ok) (hr : rgtS x = true) : (fldB x).length ≤ 40 := by
  have r := rgt_rng hr
  obtain ⟨_, ⟨_, _⟩, ⟨_, _⟩, ⟨_, _⟩, ⟨_, _⟩⟩ := hx
  have h1 : (cnt x.id.toNat).length ≤ 10 := cnt_len10 (by omega)
  have h2 : (cnt x.kind.toNat).length ≤ 10 := cnt_len10 (by omega)
  have h3 : (cnt (zz x.lo)).length ≤ 10 := cnt_len10 (zz_lt (by omega) (by omega))
  have h4 : (cnt (zz x.hi)).length ≤ 10 := cnt_len10 (zz_lt (by omega) (by omega))
  have h5 : (cnt x.most.toNat).length ≤ 10 := cnt_len10 (by omega)
  unfold fldB
  simp only [List.length_append]
  split
  · simp only [List.length_append]; omega
  · split
    · omega
    · simp; omega
theorem c_swrite (b : List AV) (x : Fld) (e : Int) (hx : x.ok) (hr : rgtS x = true) (hb : b.length + 40 ≤ 140737488355328) : tbl E0 87 [.ref 0 0, fldV x] (penA b e) = some ([], penA (b ++ encB (fldB x)) e) :=
  t_swrite b x e (by
    have r := rgt_rng hr
    obtain ⟨_, ⟨_, _⟩, ⟨_, _⟩, ⟨_, _⟩, ⟨_, _⟩⟩ := hx
    have h1 : (cnt x.id.toNat).length ≤ 10 := cnt_len10 (by omega)
    have h2 : (cnt x.kind.toNat).length ≤ 10 := cnt_len10 (by omega)
    have h3 : (cnt (zz x.lo)).length ≤ 10 := cnt_len10 (zz_lt (by omega) (by omega))
    have c1 := c_PCount b x.id e (by omega) (by omega)
    have c2 := c_PCount (b ++ encB (cnt x.id.toNat)) x.kind e (by simp; omega) (by omega)
    have c3 := c_PCount (b ++ encB (cnt x.id.toNat) ++ encB (cnt x.kind.toNat)) x.most e (by simp; omega) (by omega)
    have c4 := c_PNum (b ++ encB (cnt x.id.toNat) ++ encB (cnt x.kind.toNat)) x.lo e (by simp; omega) (by omega) (by omega)
    have c5 := c_PNum (b ++ encB (cnt x.id.toNat) ++ encB (cnt x.kind.toNat) ++ encB (cnt (zz x.lo))) x.hi e (by simp; omega) (by omega) (by omega)
    have n1 : ¬ (x.id < 0) := by omega
    have n2 : ¬ (x.kind < 0) := by omega
    have n3 : ¬ (x.most < 0) := by omega
    simp only [n1, n2, n3, if_false, penA] at c1 c2 c3 c4 c5
    unfold fldB
    by_cases k1 : x.kind = 1
    · simp only [k1] at c2 c3 c4 c5
      simp_all [s_swrite, penA, encB_append]
    · by_cases k3 : x.kind = 3
      · simp only [k3] at c2 c3 c4 c5
        simp_all [s_swrite, penA, encB_append]
      · by_cases k4 : x.kind = 4
        · simp only [k4] at c2 c3 c4 c5
          simp_all [s_swrite, penA, encB_append]
        · have k2 : x.kind = 2 := by omega
          simp only [k2] at c2 c3 c4 c5
          simp_all [s_swrite, penA, encB_append])
end Go.Proofs.Ytmpfeofeokmooaa.V
namespace Go.Proofs.Ytmpfeofeokmooaa.V
open Go
theorem fldsB_cons (f : Fld) (l : List Fld) : fldsB (f :: l) = fldB f ++ fldsB l := by simp [fldsB]
theorem frmsB_cons (f : Frm) (l : List Frm) : frmsB (f :: l) = frmB f ++ frmsB l := by simp [frmsB]
theorem fldsB_len : ∀ (l : List Fld), FldsOK l → (fldsB l).length ≤ 40 * l.length
  | [], _ => by simp [fldsB]
  | f :: l, h => by
    have h1 := fldB_len (h f (by simp)).1 (h f (by simp)).2
    have h2 := fldsB_len l (fun g hg => h g (by simp [hg]))
    rw [fldsB_cons, List.length_append, List.length_cons]
    omega
theorem c_sPrintK (l : List Frm) (fs : List Fld) (m i : Int) (hl : fs.length ≤ 8) (hok : FldsOK fs) : ∀ (r : List Fld) (k : Nat) (b : List AV) (e : Int), fs.drop k = r → b.length + 40 * r.length + 40 ≤ 140737488355328 →
    ltbl E0 36 0 12 [frmsV l, .int .i64 m, .int .i64 i, fldsV fs, .int .i64 fs.length, .int .i64 k] [[.lst (.own (.O 1012 0)) 1 b, .int .i64 e]] = some (3, [frmsV l, .int .i64 m, .int .i64 i], [[.lst (.own (.O 1012 0)) 1 (b ++ encB (fldsB r)), .int .i64 e]]) := by
  intro r
  induction r with
  | nil =>
    intro k b e hr hb
    have h : fs.length ≤ k := by simpa using hr
    refine t_sPrintK _ _ _ _ _ _ _ _ ?_
    have : ¬ ((k : Int) < fs.length) := by omega
    simp [s_sPrintK, this, fldsB, encB_nil]
  | cons x r ih =>
    intro k b e hr hb
    obtain ⟨hlt, hget, hr2⟩ := drop_c hr
    have h2 : (k : Int) < fs.length := by omega
    have e1 := i64_succ (i := k) (by omega)
    obtain ⟨x1, x2⟩ := hok x (mem_drop hr)
    have hx := fldB_len x1 x2
    simp only [List.length_cons] at hb
    have h := ih (k + 1) (b ++ encB (fldB x)) e hr2 (by simp; omega)
    have c := c_swrite b x e x1 x2 (by omega)
    simp only [penA] at c
    refine t_sPrintK _ _ _ _ _ _ _ _ ?_
    rw [fldsB_cons, encB_append, ← List.append_assoc, ← h]
    simp only [s_sPrintK, OA_asm, List.length_map, h2, decide_true, cond_true, OA_chk, Int.natCast_nonneg, nthE, Int.toNat_natCast, List.getElem?_map, hget, Option.map_some, u_asA, u_asC, u_asI, u_asB, u_asL, u_asOwn, u_asN, OA_call, c, Option.bind_some, nbeq, e1]
def FrmOK (f : Frm) : Prop := f.ok ∧ 0 ≤ f.id ∧ f.fields.length ≤ 8 ∧ FldsOK f.fields
theorem frmB_len {f : Frm} (h : FrmOK f) : (frmB f).length ≤ 340 := by
  obtain ⟨⟨⟨_, _⟩, _⟩, h2, h3, h4⟩ := h
  have h5 := fldsB_len f.fields h4
  have h6 : (cnt f.id.toNat).length ≤ 10 := cnt_len10 (by omega)
  have h7 : (cnt f.fields.length).length ≤ 10 := cnt_len10 (by omega)
  unfold frmB
  simp only [List.length_append]
  omega
theorem c_sPrintL (l : List Frm) (hl : l.length ≤ 8) (hok : ∀ f ∈ l, FrmOK f) : ∀ (r : List Frm) (i : Nat) (b : List AV) (e : Int), l.drop i = r → b.length + 400 * r.length + 400 ≤ 140737488355328 →
    ltbl E0 36 0 7 [frmsV l, .int .i64 l.length, .int .i64 i] [[.lst (.own (.O 1012 0)) 1 b, .int .i64 e]] = some (1, [], [[.lst (.own (.O 1012 0)) 1 (b ++ encB (frmsB r)), .int .i64 e]]) := by
  intro r
  induction r with
  | nil =>
    intro i b e hr hb
    have h : l.length ≤ i := by simpa using hr
    refine t_sPrintL _ _ _ _ _ ?_
    have : ¬ ((i : Int) < l.length) := by omega
    simp [s_sPrintL, this, frmsB, encB_nil]
  | cons x r ih =>
    intro i b e hr hb
    obtain ⟨hlt, hget, hr2⟩ := drop_c hr
    have h2 : (i : Int) < l.length := by omega
    have e1 := i64_succ (i := i) (by omega)
    have hx := hok x (mem_drop hr)
    have hxl := frmB_len hx
    obtain ⟨⟨⟨_, _⟩, _⟩, x2, x3, x4⟩ := hx
    have h6 : (cnt x.id.toNat).length ≤ 10 := cnt_len10 (by omega)
    have h7 : (cnt x.fields.length).length ≤ 10 := cnt_len10 (by omega)
    simp only [List.length_cons] at hb
    have h := ih (i + 1) (b ++ encB (frmB x)) e hr2 (by simp; omega)
    have c1 := c_PCount b x.id e (by omega) (by omega)
    have c2 := c_PCount (b ++ encB (cnt x.id.toNat)) x.fields.length e (by simp; omega) (by omega)
    rw [if_neg (by omega)] at c1 c2
    simp only [penA, Int.toNat_natCast] at c1 c2
    have k := c_sPrintK l x.fields (l.length : Int) (i : Int) x3 x4 x.fields 0 (b ++ encB (cnt x.id.toNat) ++ encB (cnt x.fields.length)) e rfl (by simp; omega)
    simp only [Int.natCast_zero] at k
    refine t_sPrintL _ _ _ _ _ ?_
    have eb : b ++ encB (frmsB (x :: r)) = b ++ encB (frmB x) ++ encB (frmsB r) := by rw [frmsB_cons, encB_append, List.append_assoc]
    have ek : b ++ encB (cnt x.id.toNat) ++ encB (cnt x.fields.length) ++ encB (fldsB x.fields) = b ++ encB (frmB x) := by unfold frmB; simp only [encB_append, List.append_assoc]
    rw [eb, ← h, ← ek]
    simp only [s_sPrintL, OA_asm, List.length_map, h2, decide_true, cond_true, OA_chk, Int.natCast_nonneg, nthE, Int.toNat_natCast, List.getElem?_map, hget, Option.map_some, u_asA, u_asC, u_asI, u_asB, u_asL, u_asOwn, u_asN, OA_call, OA_loop, c1, c2, k, Option.bind_some, nbeq, e1, Nm_beq_self]
theorem frmOK_of {s : Sch} (hs : s.ok) (hr : schS s = true) : s.forms.length ≤ 8 ∧ ∀ f ∈ s.forms, FrmOK f := by
  obtain ⟨h1, h2, h3⟩ := (schS_iff s).1 hr
  refine ⟨h2, fun f hf => ?_⟩
  obtain ⟨a1, a2, _, a4, _⟩ := (fineS_iff f).1 (risingS_all _ _ h3 f hf)
  exact ⟨hs.2 f hf, a1.1, a2.2, fun x hx => ⟨(hs.2 f hf).2 x hx, a4 x hx⟩⟩
theorem frmsB_len : ∀ (l : List Frm), (∀ f ∈ l, FrmOK f) → (frmsB l).length ≤ 340 * l.length
  | [], _ => by simp [frmsB]
  | f :: l, h => by
    have h1 := frmB_len (h f (by simp))
    have h2 := frmsB_len l (fun g hg => h g (by simp [hg]))
    rw [frmsB_cons, List.length_append, List.length_cons]
    omega
theorem schB_len {s : Sch} (hs : s.ok) (hr : schS s = true) : (schB s).length ≤ 4000 := by
  obtain ⟨h1, h2⟩ := frmOK_of hs hr
  obtain ⟨h3, _, _⟩ := (schS_iff s).1 hr
  have h4 := frmsB_len s.forms h2
  have h6 : (cnt s.ver.toNat).length ≤ 10 := cnt_len10 (by omega)
  have h7 : (cnt s.forms.length).length ≤ 10 := cnt_len10 (by omega)
  unfold schB
  simp only [List.length_append]
  omega
theorem c_sPrint (s : Sch) (hs : s.ok) (hm : Sml s) : tbl E0 36 [schV s] [] = some ([.lst .ro 1 (if schS s then encB (schB s) else []), .int .i64 (if schS s then 0 else 2)], []) :=
  t_sPrint s (by
    have c0 := c_sRight s hm
    rcases bor (schS s) with hb | hb
    · obtain ⟨h1, h2⟩ := frmOK_of hs hb
      obtain ⟨h3, _, _⟩ := (schS_iff s).1 hb
      have h6 : (cnt s.ver.toNat).length ≤ 10 := cnt_len10 (by omega)
      have h7 : (cnt s.forms.length).length ≤ 10 := cnt_len10 (by omega)
      have hl := schB_len hs hb
      have c1 := c_PCount [] s.ver 0 (by simp) (by omega)
      have c2 := c_PCount (encB (cnt s.ver.toNat)) s.forms.length 0 (by simp; omega) (by omega)
      rw [if_neg (by omega)] at c1 c2
      simp only [penA, Int.toNat_natCast, List.nil_append] at c1 c2
      have k := c_sPrintL s.forms h1 h2 s.forms 0 (encB (cnt s.ver.toNat) ++ encB (cnt s.forms.length)) 0 rfl (by simp; omega)
      simp only [Int.natCast_zero] at k
      have ek : encB (cnt s.ver.toNat) ++ encB (cnt s.forms.length) ++ encB (frmsB s.forms) = encB (schB s) := by unfold schB; simp only [encB_append]
      rw [ek] at k
      have d := c_PDone (schB s) 0 (by omega)
      simp only [penV, penA, if_true] at d
      simp only [s_sPrint, hb, OA_asm, List.length_map, decide_true, cond_true, cond_false, Bool.not_true, OA_chk, u_asA, u_asC, u_asI, u_asB, u_asL, u_asOwn, u_asN, u_asRef0, OA_call, OA_callx, OA_loop, c0, c_New, c1, c2, k, d, Option.bind_some, nbeq, Nm_beq_self, if_true]
    · simp only [s_sPrint, hb, OA_asm, cond_true, Bool.not_false, OA_chk, u_asC, u_asB, u_asN, OA_callx, c0, Option.bind_some, if_false, Bool.false_eq_true])
end Go.Proofs.Ytmpfeofeokmooaa.V
namespace Go.Proofs.Ytmpfeofeokmooaa.V
open Go
end Go.Proofs.Ytmpfeofeokmooaa.V
namespace Go.Proofs.Ytmpfeofeokmooaa.V
open Go
end Go.Proofs.Ytmpfeofeokmooaa.V
namespace Go.Proofs.Ytmpfeofeokmooaa.V
open Go
end Go.Proofs.Ytmpfeofeokmooaa.V
namespace Go.Proofs.Ytmpfeofeokmooaa.V
open Go
set_option maxRecDepth 20000 in
theorem c_tuses (op : Int) : tbl E0 105 [.int .i64 op] [] = some ([intsV (usesS op)], []) := by
  refine op_all (p := fun op => tbl E0 105 [.int .i64 op] [] = some ([intsV (usesS op)], [])) op ?_ ?_
  · intro o ho
    simp only [opsL, List.mem_cons, List.not_mem_nil, or_false] at ho
    rcases ho with rfl | rfl | rfl | rfl | rfl | rfl | rfl | rfl | rfl | rfl | rfl | rfl | rfl | rfl | rfl | rfl | rfl | rfl | rfl | rfl <;> exact tbl_iff.2 ⟨12, by kernel_rfl⟩
  · intro h hu
    simp only [opsL, List.mem_cons, List.not_mem_nil, or_false, not_or] at h
    obtain ⟨h1, h2, h3, h4, h5, h6, h7, h8, h9, h10, h11, h12, h13, h14, h15, h16, h17, h18, h19, h20⟩ := h
    have cB : ltbl E0 105 0 1000009 [.int .i64 op, .bool false] [] = some (50001, [], []) := t_tusesB op false (by simp [s_tusesB, h1, h2, h3, h4, h5, h6, h7, h8, h9, h10, h11, h12, h13, h14, h15, h16, h17, h18, h19, h20])
    have cA : ltbl E0 105 0 1000004 [.int .i64 op, .bool false] [] = some (50001, [], []) := t_tusesA op false (by
      have : (op == 23) = false := beq_f h13
      simp [s_tusesA, h1, h2, h3, this, cB])
    have : (op == 22) = false := beq_f h12
    exact t_tuses op (by simp [s_tuses, h1, this, cA, hu])
set_option maxRecDepth 20000 in
theorem c_yuses (op : Int) : ∃ s : List UInt8, tbl E0 94 [.int .i64 op] [] = some ([.str s], []) ∧ s = (usesS op).map (fun p => if p = 0 then 102 else if p = 1 then 100 else if p = 2 then 112 else if p = 3 then 116 else if p = 4 then 97 else if p = 5 then 98 else if p = 6 then 70 else if p = 7 then 86 else if p = 8 then 84 else 76) := by
  refine ⟨_, ?_, rfl⟩
  refine op_all (p := fun op => tbl E0 94 [.int .i64 op] [] = some ([.str ((usesS op).map (fun p => if p = 0 then 102 else if p = 1 then 100 else if p = 2 then 112 else if p = 3 then 116 else if p = 4 then 97 else if p = 5 then 98 else if p = 6 then 70 else if p = 7 then 86 else if p = 8 then 84 else 76))], [])) op ?_ ?_
  · intro o ho
    simp only [opsL, List.mem_cons, List.not_mem_nil, or_false] at ho
    rcases ho with rfl | rfl | rfl | rfl | rfl | rfl | rfl | rfl | rfl | rfl | rfl | rfl | rfl | rfl | rfl | rfl | rfl | rfl | rfl | rfl <;> exact tbl_iff.2 ⟨12, by kernel_rfl⟩
  · intro h hu
    simp only [opsL, List.mem_cons, List.not_mem_nil, or_false, not_or] at h
    obtain ⟨h1, h2, h3, h4, h5, h6, h7, h8, h9, h10, h11, h12, h13, h14, h15, h16, h17, h18, h19, h20⟩ := h
    have cB : ltbl E0 94 0 1000009 [.int .i64 op, .bool false] [] = some (50001, [], []) := t_yusesB op false (by simp [s_yusesB, h1, h2, h3, h4, h5, h6, h7, h8, h9, h10, h11, h12, h13, h14, h15, h16, h17, h18, h19, h20])
    have cA : ltbl E0 94 0 1000004 [.int .i64 op, .bool false] [] = some (50001, [], []) := t_yusesA op false (by
      have : (op == 23) = false := beq_f h13
      simp [s_yusesA, h1, h2, h3, this, cB])
    have : (op == 22) = false := beq_f h12
    exact t_yuses op (by simp [s_yuses, h1, this, cA, hu])
theorem c_tin (n lo hi : Int) : tbl E0 143 [.int .i64 n, .int .i64 lo, .int .i64 hi] [] = some ([.bool (inS n lo hi)], []) := t_tin n lo hi (by
  by_cases h : lo ≤ n <;> simp [s_tin, inS, h])
theorem c_ybetween (n lo hi : Int) : tbl E0 96 [.int .i64 n, .int .i64 lo, .int .i64 hi] [] = some ([.bool (inS n lo hi)], []) := t_ybetween n lo hi (by
  by_cases h : lo ≤ n <;> simp [s_ybetween, inS, h])
theorem c_fboundsG (f : Fld) : ∃ hi, tbl E0 156 [fldV f] [] = some ([.int .i64 (loS f), .int .i64 hi], []) ∧ (rgtS f = true → hi = hiS f) := by
  by_cases h : f.kind = 3 → rgtS f = true
  · exact ⟨_, c_fbounds f h, fun _ => rfl⟩
  · rw [Classical.not_imp] at h
    refine ⟨_, t_fbounds f (by simp [s_fbounds, h.1, loS]; rfl), fun hr => absurd hr h.2⟩
theorem c_fHas (f : Fld) (n : Int) (s : List UInt8) : tbl E0 144 [fldV f, .agg [.int .i64 n, .str s]] [] = some ([.bool (hasV f n s)], []) := by
  obtain ⟨hi, hb, hh⟩ := c_fboundsG f
  have c := c_fRight f
  refine t_fHas f n s ?_
  simp only [s_fHas, OA_chk, cond_true, OA_callx, hb, c, Option.bind_some, u_asC, u_asI, u_asB, u_asN, OA_join, OA_asm, hasV, longestS, inS]
  by_cases hr : rgtS f = true
  · have := hh hr
    subst this
    by_cases k : f.kind = 4 <;> by_cases a : loS f ≤ n <;> by_cases b : n ≤ hiS f <;> simp [hr, k, a, b]
  · have hr : rgtS f = false := by simpa using hr
    by_cases k : f.kind = 4 <;> simp [hr, k]
theorem c_yHas (f : Fld) (n : Int) (s : List UInt8) : tbl E0 100 [fldV f, .agg [.int .i64 n, .str s]] [] = some ([.bool (hasV f n s)], []) := by
  obtain ⟨lo, hi, most, hb, hh⟩ := c_ySpan f
  refine t_yHas f n s ?_
  simp only [s_yHas, OA_chk, cond_true, OA_callx, hb, Option.bind_some, u_asC, u_asI, u_asB, u_asN, OA_join, OA_asm, hasV, longestS, inS]
  by_cases hr : rgtS f = true
  · obtain ⟨rfl, rfl, rfl⟩ := hh hr
    by_cases k : f.kind = 4 <;> by_cases a : loS f ≤ n <;> by_cases b : n ≤ hiS f <;> simp [hr, k, a, b]
  · have hr : rgtS f = false := by simpa using hr
    simp [hr]
theorem c_EqualIL (a b : List Int) (hl : a.length ≤ 140737488355328) (hab : a.length = b.length) : ∀ (r r' : List Int) (i : Nat), a.drop i = r → b.drop i = r' →
    ltbl E0 104 0 4 [intsV a, intsV b, .int .i64 a.length, .int .i64 i] [] = some (if r = r' then (1, [], []) else (0, [.bool false], [])) := by
  intro r
  induction r with
  | nil =>
    intro r' i hr hr'
    have h : a.length ≤ i := by simpa using hr
    have : r' = [] := by rw [← hr']; simp; omega
    subst this
    refine t_EqualIL _ _ _ _ ?_
    have : ¬ ((i : Int) < a.length) := by omega
    simp [s_EqualIL, this]
  | cons x r ih =>
    intro r' i hr hr'
    obtain ⟨hlt, hget, hr2⟩ := drop_c hr
    cases r' with
    | nil => simp at hr'; omega
    | cons y r' =>
      obtain ⟨_, hget', hr2'⟩ := drop_c hr'
      have h2 : (i : Int) < a.length := by omega
      have e1 := i64_succ (i := i) (by omega)
      have h := ih r' (i + 1) hr2 hr2'
      refine t_EqualIL _ _ _ _ ?_
      simp only [s_EqualIL, OA_asm, List.length_map, h2, decide_true, cond_true, OA_chk, Int.natCast_nonneg, nthE, Int.toNat_natCast, List.getElem?_map, hget, hget', Option.map_some, u_asA, u_asC, u_asI, u_asB, u_asL, u_asN, e1, h]
      by_cases e : x = y
      · simp [e]
      · simp [e]
theorem c_EqualI (a b : List Int) (h : a.length ≤ 140737488355328) : tbl E0 104 [intsV a, intsV b] [] = some ([.bool (decide (a = b))], []) :=
  t_EqualI a b (by
    simp only [s_EqualI, OA_asm, List.length_map, OA_loop]
    by_cases hab : a.length = b.length
    · have e := c_EqualIL a b h hab a b 0 rfl rfl
      simp only [Int.natCast_zero] at e
      have h' : ((a.length : Int) != (b.length : Int)) = false := by rw [hab]; simp
      rw [h', cond_false, e]
      by_cases e2 : a = b <;> simp [e2]
    · have : ¬ (a = b) := fun e => hab (by rw [e])
      have h' : ((a.length : Int) != (b.length : Int)) = true := bne_t (by omega)
      rw [h']
      simp [this])
def freshI (below : Int) : List Bool → List Int → Bool
  | _, [] => true
  | s, n :: l => inS n 0 (below - 1) && !((s[n.toNat]?).getD false) && freshI below (s.set n.toNat true) l
theorem c_tapartL (l : List Int) (below : Int) (hb : 1 ≤ below ∧ below ≤ 1000) (hl : l.length ≤ 140737488355328) : ∀ (r : List Int) (i : Nat) (s : List Bool), l.drop i = r → s.length = 1000 →
    ltbl E0 145 0 3 [intsV l, .int .i64 below, intsV l, .int .i64 l.length, .int .i64 i] [s.map AV.bool] = some (if freshI below s r then (1, [intsV l], []) else (0, [.bool false], [])) := by
  intro r
  induction r with
  | nil =>
    intro i s hr hs
    have h : l.length ≤ i := by simpa using hr
    refine t_tapartL _ _ _ _ _ ?_
    have : ¬ ((i : Int) < l.length) := by omega
    simp [s_tapartL, this, freshI]
  | cons f r ih =>
    intro i s hr hs
    obtain ⟨hlt, hget, hr2⟩ := drop_c hr
    have h2 : (i : Int) < l.length := by omega
    have e1 := i64_succ (i := i) (by omega)
    have h := ih (i + 1) (s.set f.toNat true) hr2 (by simpa using hs)
    have w : IntKind.i64.wrap (below - 1) = below - 1 := wrap_i64 _ (by omega) (by omega)
    have c := c_tin f 0 (below - 1)
    refine t_tapartL _ _ _ _ _ ?_
    simp only [s_tapartL, h2, decide_true, cond_true, OA_chk, Int.natCast_nonneg, nthE, Int.toNat_natCast, List.getElem?_map, hget, Option.map_some, u_asA, u_asC, u_asI, u_asB, u_asN, OA_callx, OA_join, w, c, Option.bind_some, e1, freshI]
    by_cases hg : inS f 0 (below - 1) = true
    · have rr : 0 ≤ f ∧ f ≤ below - 1 := by simpa [inS] using hg
      have hk : f.toNat < s.length := by omega
      have g : s[f.toNat]? = some s[f.toNat] := List.getElem?_eq_getElem hk
      have a1 : 0 ≤ f := rr.1
      have a2 : f < ((1000 : Nat) : Int) := by omega
      have a3 : 0 + f.toNat * 1 = f.toNat := by omega
      have a4 : (f.toNat + 1).ble (List.map AV.bool s).length = true := by rw [Nat.ble_eq, List.length_map]; omega
      simp only [hg, a1, a2, a3, a4, decide_true, Bool.and_self, cond_true, g, Option.map_some, u_asB, Bool.not_true, cond_false, Option.bind_some, Tok.untok_tok, setAt_bool, all_flat_bool, h, Option.getD_some, Bool.true_and]
      by_cases hb : s[f.toNat] = true
      · simp [hb]
      · have hb : s[f.toNat] = false := by simpa using hb
        simp [hb]
    · have hg : inS f 0 (below - 1) = false := by simpa using hg
      simp [hg]
theorem freshI_iff (below : Int) (hb : below ≤ 1000) : ∀ (l : List Int) (s : List Bool), s.length = 1000 → (freshI below s l = true ↔ (∀ n ∈ l, inS n 0 (below - 1) = true ∧ s[n.toNat]? = some false) ∧ nodupI l = true)
  | [], s, _ => by simp [freshI, nodupI]
  | f :: l, s, hs => by
    have ih := freshI_iff below hb l (s.set f.toNat true) (by simpa using hs)
    simp only [freshI, Bool.and_eq_true, ih, nodupI, Bool.not_eq_true', List.mem_cons, forall_eq_or_imp]
    have rng : ∀ {n : Int}, inS n 0 (below - 1) = true → 0 ≤ n ∧ n < 1000 := fun {n} h => by
      have : 0 ≤ n ∧ n ≤ below - 1 := by simpa [inS] using h
      omega
    have key : inS f 0 (below - 1) = true → ((s[f.toNat]?).getD false = false ↔ s[f.toNat]? = some false) := by
      intro hg
      have rr := rng hg
      have hk : f.toNat < s.length := by omega
      rw [List.getElem?_eq_getElem hk]
      simp
    have key2 : inS f 0 (below - 1) = true → ∀ g, inS g 0 (below - 1) = true → ((s.set f.toNat true)[g.toNat]? = some false ↔ (s[g.toNat]? = some false ∧ g ≠ f)) := by
      intro hg g hgg
      have r1 := rng hg
      have r2 := rng hgg
      rw [List.getElem?_set]
      by_cases e : f.toNat = g.toNat
      · have e' : g = f := by omega
        rw [if_pos e, if_pos (by omega)]
        simp [e']
      · have e' : g ≠ f := by omega
        rw [if_neg e]
        simp [e']
    constructor
    · rintro ⟨⟨h1, h2⟩, h3, h4⟩
      refine ⟨⟨⟨h1, (key h1).1 h2⟩, fun g hg => ⟨(h3 g hg).1, ((key2 h1 g (h3 g hg).1).1 (h3 g hg).2).1⟩⟩, ?_, h4⟩
      simp only [List.any_eq_false, beq_iff_eq]
      intro g hg
      exact ((key2 h1 g (h3 g hg).1).1 (h3 g hg).2).2
    · rintro ⟨⟨⟨h1, h2⟩, h3⟩, h4, h5⟩
      refine ⟨⟨h1, (key h1).2 h2⟩, fun g hg => ⟨(h3 g hg).1, (key2 h1 g (h3 g hg).1).2 ⟨(h3 g hg).2, ?_⟩⟩, h5⟩
      simp only [List.any_eq_false, beq_iff_eq] at h4
      exact h4 g hg
theorem freshI_0 (below : Int) (hb : below ≤ 1000) (l : List Int) : freshI below (List.replicate 1000 false) l = ((l.all fun n => inS n 0 (below - 1)) && nodupI l) := by
  rw [Bool.eq_iff_iff, freshI_iff _ hb _ _ List.length_replicate]
  simp only [Bool.and_eq_true, List.all_eq_true]
  constructor
  · rintro ⟨h1, h2⟩; exact ⟨fun f hf => (h1 f hf).1, h2⟩
  · rintro ⟨h1, h2⟩
    refine ⟨fun f hf => ⟨h1 f hf, ?_⟩, h2⟩
    have r : 0 ≤ f ∧ f ≤ below - 1 := by simpa [inS] using h1 f hf
    rw [List.getElem?_replicate, if_pos (by omega)]
theorem c_tapart (l : List Int) (below : Int) (hb : 1 ≤ below ∧ below ≤ 1000) (hl : l.length ≤ 140737488355328) : tbl E0 145 [intsV l, .int .i64 below] [] = some ([.bool (apartS l below)], []) :=
  t_tapart l below (by
    have e := c_tapartL l below hb hl l 0 (List.replicate 1000 false) rfl List.length_replicate
    simp only [Int.natCast_zero, freshI_0 _ hb.2] at e
    have c := c_tin (l.length : Int) 1 64
    have e2 : inS (l.length : Int) 1 64 = decide (1 ≤ l.length ∧ l.length ≤ 64) := by
      simp only [inS, Bool.decide_and]
      congr 1 <;> exact decide_eq_decide.2 (by omega)
    simp only [List.map_replicate] at e
    simp only [s_tapart, OA_asm, OA_chk, cond_true, OA_loop, List.length_map, e]
    · unfold apartS
      cases hx : ((l.all fun n => inS n 0 (below - 1)) && nodupI l) with
      | true => simp [c, e2]
      | false => simp)
end Go.Proofs.Ytmpfeofeokmooaa.V
namespace Go.Proofs.Ytmpfeofeokmooaa.V
open Go
set_option maxRecDepth 20000 in
theorem c_tonly (x : Stp) : tbl E0 120 [stpV x] [] = some ([stpV (onlyS x)], []) := by
  obtain ⟨op, form, field, place, to, a, b, f, n, s, t, fields⟩ := x
  refine op_all (p := fun op => tbl E0 120 [stpV ⟨op, form, field, place, to, a, b, f, n, s, t, fields⟩] [] = some ([stpV (onlyS ⟨op, form, field, place, to, a, b, f, n, s, t, fields⟩)], [])) op ?_ ?_
  · intro o ho
    simp only [opsL, List.mem_cons, List.not_mem_nil, or_false] at ho
    rcases ho with rfl | rfl | rfl | rfl | rfl | rfl | rfl | rfl | rfl | rfl | rfl | rfl | rfl | rfl | rfl | rfl | rfl | rfl | rfl | rfl <;> exact tbl_iff.2 ⟨20, by kernel_rfl⟩
  · intro h hu
    have c := c_tuses op
    rw [hu] at c
    have e2 : ltbl E0 120 0 3 [intsV [], .int .i64 0, .int .i64 0] [stpC ⟨op, form, field, place, to, a, b, f, n, s, t, fields⟩, stpC ⟨0, 0, 0, 0, 0, 0, 0, fld0, 0, [], [], []⟩, stpC ⟨op, 0, 0, 0, 0, 0, 0, fld0, 0, [], [], []⟩] = some (1, [], [stpC ⟨0, 0, 0, 0, 0, 0, 0, fld0, 0, [], [], []⟩, stpC ⟨op, 0, 0, 0, 0, 0, 0, fld0, 0, [], [], []⟩]) := t_tonlyL _ _ _ [] 0 0 (by simp [s_tonlyL])
    refine t_tonly _ ?_
    simp only [s_tonly, OA_chk, cond_true, OA_callx, c, Option.bind_some, u_asC, u_asL, u_asN, OA_asm, OA_loop, List.map_nil, List.length_nil, Int.natCast_zero, stpC, fld0, intsV, fldsV] at e2 ⊢
    rw [e2]
    simp [onlyS, hasS, hu, fld0]
theorem wrap0 {a b : Int} (ha : i64 a) (hb : i64 b) : (IntKind.i64.wrap (a - b) == 0) = (a == b) := by
  have : IntKind.i64.wrap (a - b) = (a - b + 9223372036854775808) % 18446744073709551616 - 9223372036854775808 := by rw [IntKind.wrap_i64]
  rw [this, Bool.eq_iff_iff, beq_iff_eq, beq_iff_eq]
  unfold i64 at ha hb
  omega
theorem stp_eq (x y : Stp) : decide (x = y) = ((decide (x.t = y.t) && decide (x.fields = y.fields)) && ((x.op == y.op && (x.form == y.form && (x.field == y.field && (x.place == y.place && (x.to == y.to && (x.a == y.a && x.b == y.b)))))) && (decide (x.f = y.f) && (x.n == y.n && x.s == y.s)))) := by
  obtain ⟨op, form, field, place, to, a, b, f, n, s, t, fields⟩ := x
  obtain ⟨op', form', field', place', to', a', b', f', n', s', t', fields'⟩ := y
  rw [Bool.eq_iff_iff]
  simp only [decide_eq_true_eq, Bool.and_eq_true, beq_iff_eq, Stp.mk.injEq]
  constructor
  · rintro ⟨rfl, rfl, rfl, rfl, rfl, rfl, rfl, rfl, rfl, rfl, rfl, rfl⟩; simp
  · rintro ⟨⟨rfl, rfl⟩, ⟨rfl, rfl, rfl, rfl, rfl, rfl, rfl⟩, rfl, rfl, rfl⟩; simp
theorem c_tSame (x y : Stp) (hx : x.ok) (hy : y.ok) (hs : x.sml) : tbl E0 55 [stpV x, stpV y] [] = some ([.bool (decide (x = y))], []) :=
  t_tSame x y (by
    obtain ⟨h1, h2, h3, h4, h5, h6, h7, _⟩ := hx
    obtain ⟨g1, g2, g3, g4, g5, g6, g7, _⟩ := hy
    have c1 := c_EqualI x.t y.t hs.1
    have c2 := c_EqualF x.fields y.fields hs.2
    simp only [s_tSame, OA_chk, cond_true, OA_callx, c1, c2, Option.bind_some, u_asC, u_asB, u_asN, OA_join, wrap0 h1 g1, wrap0 h2 g2, wrap0 h3 g3, wrap0 h4 g4, wrap0 h5 g5, wrap0 h6 g6, wrap0 h7 g7, fld_eq]
    simp only [Bool.and_true, stp_eq]
    generalize (x.op == y.op && (x.form == y.form && (x.field == y.field && (x.place == y.place && (x.to == y.to && (x.a == y.a && x.b == y.b)))))) = p
    generalize (x.n == y.n && x.s == y.s) = q
    cases decide (x.t = y.t) <;> cases decide (x.fields = y.fields) <;> cases p <;> cases decide (x.f = y.f) <;> simp)
theorem c_tfits (x : Stp) (p : Int) (hp : p = 8 → 1 ≤ (if x.op = 5 then x.a else 1000) ∧ (if x.op = 5 then x.a else 1000) ≤ 1000) (hs : x.sml) : tbl E0 119 [stpV x, .int .i64 p] [] = some ([.bool (fitsS x p)], []) := by
  have i1 := c_tin
  have i2 := c_fRight x.f
  have i3 := c_fHas x.f x.n x.s
  have i4 := c_sFine ⟨x.form, x.fields⟩ hs.2
  refine t_tfits x p ?_
  unfold s_tfits fitsS
  simp only [OA_chk, cond_true, cond_beq, OA_callx, OA_join, OA_asm]
  by_cases h0 : p = 0
  · simp only [h0, if_true, i1, Option.bind_some, u_asC, u_asB, u_asN]
  by_cases h1 : p = 1
  · simp [h1, i1]
  by_cases h2 : p = 2
  · simp [h2, i1]
  by_cases h3 : p = 3
  · simp only [h3, i1]
    cases inS x.to 0 255 <;> by_cases e : x.to = x.field <;> simp [e]
  by_cases h4 : p = 4
  · by_cases ho : x.op = 5
    · cases hi : inS x.a 1 1000 <;> simp [h4, i1, ho, hi]
    · simp [h4, i1, ho]
  by_cases h5 : p = 5
  · cases hi : inS x.a (-1048576) 1048576
    · simp [h5, i1, hi]
    · by_cases ha : x.a = 0
      · rw [ha] at hi; simp [h5, i1, hi, ha]
      · simp [h5, i1, hi, ha]
  by_cases h6 : p = 6
  · by_cases o1 : x.op = 1
    · cases hr : rgtS x.f <;> simp [h6, o1, i2, hr]
    · by_cases o2 : x.op = 22
      · cases hr : rgtS x.f <;> simp [h6, o2, i2, hr]
      · cases hr : rgtS x.f <;> simp [h6, o1, o2, beq_f o2, i2, hr]
  by_cases h7 : p = 7
  · by_cases ho : x.op = 2
    · cases hi : inS x.n (-1099511627776) 1099511627776 <;> simp [h7, ho, i1, hi]
    · simp [h7, ho, i3]
  by_cases h8 : p = 8
  · have hb := hp h8
    simp only [h8]
    by_cases ho : x.op = 5
    · simp only [ho, if_true] at hb ⊢
      have c := c_tapart x.t x.a hb hs.1
      simp [c]
    · simp only [ho, if_false] at hb ⊢
      have c := c_tapart x.t 1000 (by omega) hs.1
      simp [c]
  · simp [h0, h1, h2, h3, h4, h5, h6, h7, h8, i4]
end Go.Proofs.Ytmpfeofeokmooaa.V
namespace Go.Proofs.Ytmpfeofeokmooaa.V
open Go
theorem c_tRightL (x : Stp) (hs : x.sml) (l : List Int) (q : List Int) (hl : l.length ≤ 5) (hb : ∀ (i : Nat) (p : Int), l[i]? = some p → p = 8 → (l.take i).all (fitsS x) = true → 1 ≤ (if x.op = 5 then x.a else 1000) ∧ (if x.op = 5 then x.a else 1000) ≤ 1000) : ∀ (r : List Int) (i : Nat), l.drop i = r → (l.take i).all (fitsS x) = true →
    ltbl E0 69 0 3 [intsV q, intsV l, .int .i64 l.length, .int .i64 i] [stpC x] = some (if r.all (fitsS x) then (1, [intsV q], [stpC x]) else (0, [.bool false], [])) := by
  intro r
  induction r with
  | nil =>
    intro i hr ht
    have h : l.length ≤ i := by simpa using hr
    refine t_tRightL _ _ _ _ _ ?_
    have : ¬ ((i : Int) < l.length) := by omega
    simp [s_tRightL, this]
  | cons p r ih =>
    intro i hr ht
    obtain ⟨hlt, hget, hr2⟩ := drop_c hr
    have h2 : (i : Int) < l.length := by omega
    have e1 := i64_succ (i := i) (by omega)
    have c := c_tfits x p (fun h8 => hb i p hget h8 ht) hs
    refine t_tRightL _ _ _ _ _ ?_
    simp only [s_tRightL, h2, decide_true, cond_true, OA_chk, Int.natCast_nonneg, nthE, Int.toNat_natCast, List.getElem?_map, hget, Option.map_some, u_asA, u_asC, u_asI, u_asB, u_asN, OA_callx, c, Option.bind_some, e1]
    cases hf : fitsS x p with
    | false => simp [hf]
    | true =>
      have ht2 : (l.take (i + 1)).all (fitsS x) = true := by
        rw [List.take_add_one, hget]
        simp [hf]
        simpa using ht
      have h := ih (i + 1) hr2 ht2
      simp only [Bool.not_true, cond_false, h, List.all_cons, hf, Bool.true_and]
theorem only_ok {x : Stp} (hx : x.ok) : (onlyS x).ok := by
  obtain ⟨h1, h2, h3, h4, h5, h6, h7, h8, h9, h10, h11⟩ := hx
  have z : i64 0 := by unfold i64; omega
  unfold onlyS
  refine ⟨h1, ?_, ?_, ?_, ?_, ?_, ?_, ?_, ?_, ?_, ?_⟩ <;> dsimp only <;> split
  all_goals first
    | assumption
    | exact ⟨z, z, z, z, z⟩
    | simp
theorem c_tRight (x : Stp) (hx : x.ok) (hs : x.sml) : tbl E0 69 [stpV x] [] = some ([.bool (tRightS x)], []) := by
  have c := c_tuses x.op
  have e := c_tRightL x hs (usesS x.op) (usesS x.op) (uses_len _) (uses_bound x) (usesS x.op) 0 rfl rfl
  have c2 := c_tonly x
  have c3 := c_tSame x (onlyS x) hx (only_ok hx) hs
  simp only [Int.natCast_zero] at e
  refine t_tRight x ?_
  simp only [s_tRight, OA_chk, cond_true, OA_callx, c, Option.bind_some, u_asC, u_asL, u_asN, OA_asm, OA_loop, List.length_map, tRightS]
  simp only [stpC] at e
  rw [e]
  cases hf : (usesS x.op).all (fitsS x) with
  | false => simp
  | true =>
    cases hu : usesS x.op with
    | nil => simp
    | cons p l =>
      simp only [stpV, stpC] at c2 c3
      simp [c2, c3]
end Go.Proofs.Ytmpfeofeokmooaa.V
namespace Go.Proofs.Ytmpfeofeokmooaa.V
open Go
def letterS (p : Int) : Int := if p = 0 then 102 else if p = 1 then 100 else if p = 2 then 112 else if p = 3 then 116 else if p = 4 then 97 else if p = 5 then 98 else if p = 6 then 70 else if p = 7 then 86 else if p = 8 then 84 else 76
set_option maxRecDepth 50000 in
theorem yhas_all : (opsL.map fun o => [(0 : Int), 1, 2, 3, 4, 5, 6, 7, 8, 9].map fun p => (G E0 12).1 98 [.int .i64 o, .int .u8 (letterS p)] []) = (opsL.map fun o => [(0 : Int), 1, 2, 3, 4, 5, 6, 7, 8, 9].map fun p => some ([.bool (hasS o p)], [])) := by kernel_rfl
theorem c_yhas (op p : Int) (hp : p ∈ [(0 : Int), 1, 2, 3, 4, 5, 6, 7, 8, 9]) : tbl E0 98 [.int .i64 op, .int .u8 (letterS p)] [] = some ([.bool (hasS op p)], []) := by
  refine op_all (p := fun op => tbl E0 98 [.int .i64 op, .int .u8 (letterS p)] [] = some ([.bool (hasS op p)], [])) op ?_ ?_
  · intro o ho
    have h1 := List.map_inj_left.1 yhas_all o ho
    exact tbl_iff.2 ⟨12, List.map_inj_left.1 h1 p hp⟩
  · intro h hu
    obtain ⟨s, c, hs⟩ := c_yuses op
    rw [hu] at hs
    simp only [List.map_nil] at hs
    subst hs
    have e : ltbl E0 98 0 3 [.int .u8 (letterS p), .str [], .int .i64 0] [] = some (1, [], []) := t_yhasL _ _ _ (by simp [s_yhasL])
    exact t_yhas _ _ (by simp [s_yhas, c, e, hasS, hu])
theorem c_yh (op : Int) : (tbl E0 98 [.int .i64 op, .int .u8 100] [] = some ([.bool (hasS op 1)], []) ∧ tbl E0 98 [.int .i64 op, .int .u8 112] [] = some ([.bool (hasS op 2)], []) ∧ tbl E0 98 [.int .i64 op, .int .u8 116] [] = some ([.bool (hasS op 3)], [])) ∧
    (tbl E0 98 [.int .i64 op, .int .u8 97] [] = some ([.bool (hasS op 4)], []) ∧ tbl E0 98 [.int .i64 op, .int .u8 98] [] = some ([.bool (hasS op 5)], []) ∧ tbl E0 98 [.int .i64 op, .int .u8 70] [] = some ([.bool (hasS op 6)], [])) ∧
    (tbl E0 98 [.int .i64 op, .int .u8 86] [] = some ([.bool (hasS op 7)], []) ∧ tbl E0 98 [.int .i64 op, .int .u8 84] [] = some ([.bool (hasS op 8)], []) ∧ tbl E0 98 [.int .i64 op, .int .u8 76] [] = some ([.bool (hasS op 9)], [])) :=
  ⟨⟨c_yhas op 1 (by simp), c_yhas op 2 (by simp), c_yhas op 3 (by simp)⟩, ⟨c_yhas op 4 (by simp), c_yhas op 5 (by simp), c_yhas op 6 (by simp)⟩, ⟨c_yhas op 7 (by simp), c_yhas op 8 (by simp), c_yhas op 9 (by simp)⟩⟩
theorem cond_tt (a b : Bool) : (bif a then true else b) = (a || b) := by cases a <;> rfl
theorem cond_ff (a b : Bool) : (bif a then b else false) = (a && b) := by cases a <;> rfl
theorem cond_or (a b x : Bool) : (bif a then x else (b && x)) = ((a || b) && x) := by cases a <;> simp
theorem cond_nt (a b : Bool) : (bif !a then true else b) = (!a || b) := by cases a <;> rfl
theorem c_yzero (x : Stp) : tbl E0 95 [stpV x] [] = some ([.bool (zeroS x)], []) := by
  obtain ⟨⟨h1, h2, h3⟩, ⟨h4, h5, h6⟩, ⟨h7, h8, h9⟩⟩ := c_yh x.op
  refine t_yzero x ?_
  have ft : decide (x.f = fld0) = (x.f.id == 0 && (x.f.kind == 0 && (x.f.lo == 0 && (x.f.hi == 0 && (x.f.most == 0 && true))))) := (fld_eq x.f fld0).symm
  simp only [s_yzero, OA_chk, cond_true, OA_callx, h1, h2, h3, h4, h5, h6, h7, h8, h9, Option.bind_some, u_asC, u_asB, u_asN, OA_join, OA_asm, List.length_map, zeroS, ft]
  generalize (x.f.id == 0 && (x.f.kind == 0 && (x.f.lo == 0 && (x.f.hi == 0 && (x.f.most == 0 && true))))) = bf
  have ht : ((x.t.length : Int) == 0) = x.t.isEmpty := by cases x.t <;> simp; omega
  have hl : ((x.fields.length : Int) == 0) = x.fields.isEmpty := by cases x.fields <;> simp; omega
  simp only [tok_cond, Option.bind_some, Tok.untok_tok, cond_tt, cond_ff, cond_or, ht, hl, Bool.and_true, Bool.and_assoc]
end Go.Proofs.Ytmpfeofeokmooaa.V
namespace Go.Proofs.Ytmpfeofeokmooaa.V
open Go
theorem c_ytableK (l : List Int) (below : Int) (i : Nat) (n : Int) (hn : l[i]? = some n) (hl : l.length ≤ 140737488355328) : ∀ (d k : Nat), k + d = i →
    ltbl E0 135 0 7 [intsV l, .int .i64 below, .int .i64 i, .int .i64 k] [] = some (if ((l.take i).drop k).any (fun y => y == n) then (0, [.bool false], []) else (3, [intsV l, .int .i64 below, .int .i64 i], [])) := by
  obtain ⟨hi, _⟩ := List.getElem?_eq_some_iff.1 hn
  intro d
  induction d with
  | zero =>
    intro k hk
    have h1 : ¬ ((k : Int) < i) := by omega
    have h2 : (l.take i).drop k = [] := by rw [List.drop_eq_nil_iff, List.length_take]; omega
    exact t_ytableK _ _ _ _ (by simp [s_ytableK, h1, h2])
  | succ d ih =>
    intro k hk
    have h := ih (k + 1) (by omega)
    have h1 : (k : Int) < i := by omega
    have hk2 : k < l.length := by omega
    have e1 := i64_succ (i := k) (by omega)
    have hg : l[k]? = some l[k] := List.getElem?_eq_getElem hk2
    have h2 : (l.take i).drop k = l[k] :: (l.take i).drop (k + 1) := by
      rw [List.drop_eq_getElem_cons (by rw [List.length_take]; omega), List.getElem_take]
    refine t_ytableK _ _ _ _ ?_
    simp only [s_ytableK, h1, decide_true, cond_true, OA_chk, Int.natCast_nonneg, nthE, Int.toNat_natCast, List.getElem?_map, hg, hn, Option.map_some, u_asI, e1, h, h2, List.any_cons]
    by_cases hq : l[k] = n <;> simp [hq]
def idxI (below : Int) (l : List Int) : Nat → List Int → Bool
  | _, [] => true
  | i, n :: r => (inS n 0 (below - 1) && !((l.take i).any fun y => y == n)) && idxI below l (i + 1) r
theorem c_ytableL (l : List Int) (below : Int) (hb : 1 ≤ below ∧ below ≤ 1000) (hl : l.length ≤ 140737488355328) : ∀ (r : List Int) (i : Nat), l.drop i = r →
    ltbl E0 135 0 2 [intsV l, .int .i64 below, .int .i64 i] [] = some (if idxI below l i r then (1, [intsV l], []) else (0, [.bool false], [])) := by
  intro r
  induction r with
  | nil =>
    intro i hr
    have h : l.length ≤ i := by simpa using hr
    refine t_ytableL _ _ _ ?_
    have : ¬ ((i : Int) < l.length) := by omega
    simp [s_ytableL, this, idxI]
  | cons n r ih =>
    intro i hr
    obtain ⟨hlt, hget, hr2⟩ := drop_c hr
    have h2 : (i : Int) < l.length := by omega
    have e1 := i64_succ (i := i) (by omega)
    have h := ih (i + 1) hr2
    have ew : IntKind.i64.wrap (below - 1) = below - 1 := wrap_i64 _ (by omega) (by omega)
    have c := c_ybetween n 0 (below - 1)
    have c2 := c_ytableK l below i n hget hl i 0 (by omega)
    simp only [Int.natCast_zero, List.drop_zero] at c2
    refine t_ytableL _ _ _ ?_
    simp only [s_ytableL, OA_asm, List.length_map, h2, decide_true, cond_true, OA_chk, Int.natCast_nonneg, nthE, Int.toNat_natCast, List.getElem?_map, hget, Option.map_some, u_asC, u_asI, u_asB, u_asN, OA_callx, c, ew, Option.bind_some, OA_loop, c2, e1, h, idxI]
    rcases bor (inS n 0 (below - 1)) with hq | hq
    · rcases bor ((l.take i).any (fun y => y == n)) with hp | hp
      · simp [hq, hp]
      · simpa [hq, hp, e1] using h
    · simp [hq]
theorem idxI_iff (below : Int) : ∀ (r p : List Int), idxI below (p ++ r) p.length r = true ↔ (∀ n ∈ r, inS n 0 (below - 1) = true ∧ ∀ y ∈ p, y ≠ n) ∧ nodupI r = true
  | [], p => by simp [idxI, nodupI]
  | n :: r, p => by
    have ih := idxI_iff below r (p ++ [n])
    simp only [List.append_assoc, List.singleton_append, List.length_append, List.length_singleton] at ih
    simp only [idxI, Bool.and_eq_true, ih, nodupI, List.mem_cons, forall_eq_or_imp, Bool.not_eq_true', List.any_eq_false, beq_iff_eq, List.mem_append, List.not_mem_nil, or_false, List.take_left']
    constructor
    · rintro ⟨⟨h1, h2⟩, h3, h4⟩
      refine ⟨⟨⟨h1, h2⟩, fun y hy => ⟨(h3 y hy).1, fun f hf => (h3 y hy).2 f (Or.inl hf)⟩⟩, fun y hy e => (h3 y hy).2 n (Or.inr rfl) e.symm, h4⟩
    · rintro ⟨⟨⟨h1, h2⟩, h3⟩, h4, h5⟩
      refine ⟨⟨h1, h2⟩, fun y hy => ⟨(h3 y hy).1, ?_⟩, h5⟩
      rintro f (hf | rfl)
      · exact (h3 y hy).2 f hf
      · exact fun e => h4 y hy e.symm
theorem idxI_0 (below : Int) (l : List Int) : idxI below l 0 l = ((l.all fun n => inS n 0 (below - 1)) && nodupI l) := by
  rw [Bool.eq_iff_iff]
  have := idxI_iff below l []
  simp only [List.nil_append, List.length_nil] at this
  rw [this]
  simp
theorem c_ytable (l : List Int) (below : Int) (hb : 1 ≤ below ∧ below ≤ 1000) (hl : l.length ≤ 140737488355328) : tbl E0 135 [intsV l, .int .i64 below] [] = some ([.bool (apartS l below)], []) :=
  t_ytable l below (by
    have e := c_ytableL l below hb hl l 0 rfl
    simp only [Int.natCast_zero, idxI_0] at e
    simp only [s_ytable, OA_loop, e, apartS]
    cases ((l.all fun n => inS n 0 (below - 1)) && nodupI l) with
    | false => simp
    | true =>
      by_cases a : 1 ≤ l.length
      · have a2 : (l.length : Int) ≥ 1 := by omega
        by_cases b : l.length ≤ 64
        · have b2 : (l.length : Int) ≤ 64 := by omega
          simp [a, a2, b, b2]
        · have b2 : ¬ ((l.length : Int) ≤ 64) := by omega
          simp [a, a2, b, b2]
      · have a2 : ¬ ((l.length : Int) ≥ 1) := by omega
        simp [a, a2])
theorem c_ynumbers (x : Stp) (hs : x.t.length ≤ 140737488355328) : tbl E0 97 [stpV x] [] = some ([.bool (numbersS x)], []) :=
  t_ynumbers x (by
    have i1 := c_ybetween
    have i3 := c_ytable x.t 1000 (by omega) hs
    simp only [s_ynumbers, OA_chk, cond_true, OA_callx, OA_join, i1, i3, Option.bind_some, u_asC, u_asB, u_asN, numbersS]
    by_cases h4 : x.op = 4
    · simp only [h4]
      cases inS x.a (-1048576) 1048576 <;> cases inS x.b (-1099511627776) 1099511627776 <;> by_cases ha : x.a = 0 <;> simp [ha]
    · by_cases h24 : x.op = 24
      · simp only [h24]
        cases inS x.a (-1048576) 1048576 <;> cases inS x.b (-1099511627776) 1099511627776 <;> by_cases ha : x.a = 0 <;> simp [ha]
      · have f4 : (x.op == 4) = false := beq_f h4
        have f24 : (x.op == 24) = false := beq_f h24
        by_cases h6 : x.op = 6
        · simp [h6]
        · have f6 : (x.op == 6) = false := beq_f h6
          by_cases h26 : x.op = 26
          · simp [h26]
          · have f26 : (x.op == 26) = false := beq_f h26
            by_cases h5 : x.op = 5
            · cases hi : inS x.a 1 1000 with
              | false => simp [h5, hi]
              | true =>
                have hb : 1 ≤ x.a ∧ x.a ≤ 1000 := by simpa [inS] using hi
                have i2 := c_ytable x.t x.a hb hs
                simp [h5, hi, i2]
            · have f5 : (x.op == 5) = false := beq_f h5
              by_cases h25 : x.op = 25 <;> simp [h4, h24, h6, h26, h5, h25, f4, f24, f6, f26, f5])
theorem ret_ff (p q : Bool) : (bif p then some ([AV.bool false], []) else some ([AV.bool q], []) : Option CR) = some ([AV.bool (!p && q)], []) := by cases p <;> rfl
theorem cond_or2 (p a b : Bool) : (bif p then a || b else b) = ((p && a) || b) := by cases p <;> rfl
theorem c_ytRight (x : Stp) (hs : x.sml) : tbl E0 51 [stpV x] [] = some ([.bool (ytRightS x)], []) := by
  obtain ⟨⟨h1, h2, h3⟩, ⟨h4, h5, h6⟩, ⟨h7, h8, h9⟩⟩ := c_yh x.op
  obtain ⟨s, cu, hu⟩ := c_yuses x.op
  have cz := c_yzero x
  have cn := c_ynumbers x hs.1
  have cr := c_yRight x.f
  have ch := c_yHas x.f x.n x.s
  have cf := c_yFine ⟨x.form, x.fields⟩ hs.2
  have he : (s == []) = (usesS x.op).isEmpty := by rw [hu]; cases usesS x.op <;> simp
  refine t_ytRight x ?_
  simp only [stpV, stpC, fldV, fldC, frmV, intsV, fldsV] at cz cn cr ch cf
  simp only [s_ytRight, OA_chk, cond_true, OA_callx, cu, cz, cn, cr, ch, cf, h1, h2, h3, h4, h5, h6, h7, h8, h9, c_ybetween, Option.bind_some, u_asC, u_asB, u_asS, u_asN, OA_join, OA_asm, he, ytRightS]
  simp only [tok_cond, Option.bind_some, Tok.untok_tok, cond_tt, cond_ff, cond_or, cond_nt]
  have e32 : decide ((x.s.length : Int) > 32) = !decide ((x.s.length : Int) ≤ 32) := by
    rw [← decide_not]; exact decide_eq_decide.2 (by omega)
  simp only [cond_or2, e32, ret_ff, Bool.not_or, Bool.not_not, Bool.and_assoc, Bool.not_and]
theorem c_ytSameK (x y : Stp) (hl : x.fields.length ≤ 140737488355328) (he : x.fields.length = y.fields.length) : ∀ (r q : List Fld) (i : Nat), x.fields.drop i = r → y.fields.drop i = q →
    ltbl E0 47 0 9 [.int .i64 i] [stpC x, stpC y] = some (if r = q then (3, [], []) else (0, [.bool false], [])) := by
  intro r
  induction r with
  | nil =>
    intro q i hr hq
    have h : x.fields.length ≤ i := by simpa using hr
    have h3 : q = [] := by rw [← hq, List.drop_eq_nil_iff]; omega
    have : ¬ ((i : Int) < x.fields.length) := by omega
    subst h3
    exact t_ytSameK _ _ _ (by simp [s_ytSameK, this])
  | cons f r ih =>
    intro q i hr hq
    obtain ⟨hlt, hget, hr2⟩ := drop_c hr
    have hlt' : i < y.fields.length := by omega
    rw [List.drop_eq_getElem_cons hlt'] at hq
    subst hq
    have hg2 : y.fields[i]? = some y.fields[i] := List.getElem?_eq_getElem hlt'
    generalize y.fields[i] = g at *
    have h2 : (i : Int) < x.fields.length := by omega
    have e1 := i64_succ (i := i) (by omega)
    have h := ih _ (i + 1) hr2 rfl
    have hf := fld_eq f g
    refine t_ytSameK _ _ _ ?_
    simp only [s_ytSameK, OA_asm, List.length_map, h2, decide_true, cond_true, OA_chk, Int.natCast_nonneg, nthE, Int.toNat_natCast, List.getElem?_map, hget, hg2, Option.map_some, u_asA, u_asC, u_asI, u_asB, u_asN, e1, hf]
    by_cases e : f = g
    · simp only [e, decide_true, Bool.not_true, cond_false, h, List.cons.injEq, true_and]
    · simp [e]
theorem c_ytSameL (x y : Stp) (hl : x.t.length ≤ 140737488355328) (he : x.t.length = y.t.length) : ∀ (r q : List Int) (i : Nat), x.t.drop i = r → y.t.drop i = q →
    ltbl E0 47 0 4 [.int .i64 i] [stpC x, stpC y] = some (if r = q then (1, [], [stpC x, stpC y]) else (0, [.bool false], [])) := by
  intro r
  induction r with
  | nil =>
    intro q i hr hq
    have h : x.t.length ≤ i := by simpa using hr
    have h3 : q = [] := by rw [← hq, List.drop_eq_nil_iff]; omega
    have : ¬ ((i : Int) < x.t.length) := by omega
    subst h3
    exact t_ytSameL _ _ _ (by simp [s_ytSameL, this])
  | cons f r ih =>
    intro q i hr hq
    obtain ⟨hlt, hget, hr2⟩ := drop_c hr
    have hlt' : i < y.t.length := by omega
    rw [List.drop_eq_getElem_cons hlt'] at hq
    subst hq
    have hg2 : y.t[i]? = some y.t[i] := List.getElem?_eq_getElem hlt'
    generalize y.t[i] = g at *
    have h2 : (i : Int) < x.t.length := by omega
    have e1 := i64_succ (i := i) (by omega)
    have h := ih _ (i + 1) hr2 rfl
    refine t_ytSameL _ _ _ ?_
    simp only [s_ytSameL, OA_asm, List.length_map, h2, decide_true, cond_true, OA_chk, Int.natCast_nonneg, nthE, Int.toNat_natCast, List.getElem?_map, hget, hg2, Option.map_some, u_asA, u_asC, u_asI, u_asB, u_asN, e1]
    by_cases e : f = g
    · simp only [e, bne_self_eq_false, cond_false, h, List.cons.injEq, true_and]
    · simp [e]
theorem c_ytSame (x y : Stp) (hs : x.sml) : tbl E0 47 [stpV x, stpV y] [] = some ([.bool (decide (x = y))], []) := by
  refine t_ytSame x y ?_
  have hv : (x.n == y.n && (x.s == y.s && true)) = (x.n == y.n && x.s == y.s) := by simp
  simp only [s_ytSame, OA_chk, cond_true, Option.bind_some, u_asC, u_asB, u_asN, OA_join, OA_asm, List.length_map, fld_eq, hv]
  simp only [tok_cond, Option.bind_some, Tok.untok_tok, cond_tt]
  have ha : decide (x = y) = (!(x.op != y.op || (x.form != y.form || (x.field != y.field || (x.place != y.place || (x.to != y.to || (x.a != y.a || (x.b != y.b || (!decide (x.f = y.f) || (!(x.n == y.n && x.s == y.s) || ((x.t.length : Int) != y.t.length || (x.fields.length : Int) != y.fields.length)))))))))) && (decide (x.t = y.t) && decide (x.fields = y.fields))) := by
    rw [stp_eq, Bool.eq_iff_iff]
    have h1 : x.t = y.t → (x.t.length : Int) = y.t.length := fun h => by rw [h]
    have h2 : x.fields = y.fields → (x.fields.length : Int) = y.fields.length := fun h => by rw [h]
    simp only [Bool.and_eq_true, Bool.or_eq_true, Bool.not_eq_true', Bool.or_eq_false_iff, Bool.and_eq_false_iff, decide_eq_true_eq, decide_eq_false_iff_not, beq_iff_eq, bne_eq_false_iff_eq, Bool.not_eq_false']
    grind
  rw [ha]
  generalize hq : (x.op != y.op || (x.form != y.form || (x.field != y.field || (x.place != y.place || (x.to != y.to || (x.a != y.a || (x.b != y.b || (!decide (x.f = y.f) || (!(x.n == y.n && x.s == y.s) || ((x.t.length : Int) != y.t.length || (x.fields.length : Int) != y.fields.length)))))))))) = q
  rcases bor q with hb | hb
  · subst hb; rfl
  · rw [hb] at hq
    simp only [Bool.or_eq_false_iff, bne_eq_false_iff_eq] at hq
    have h1 : x.t.length = y.t.length := by have := hq.2.2.2.2.2.2.2.2.2.1; omega
    have h2 : x.fields.length = y.fields.length := by have := hq.2.2.2.2.2.2.2.2.2.2; omega
    have e1 := c_ytSameL x y hs.1 h1 x.t y.t 0 rfl rfl
    have e2 := c_ytSameK x y hs.2 h2 x.fields y.fields 0 rfl rfl
    simp only [Int.natCast_zero] at e1 e2
    subst hb
    simp only [cond_false, OA_loop, stpC] at e1 e2 ⊢
    rw [e1]
    by_cases c1 : x.t = y.t
    · simp only [c1, if_true, Option.bind_some, Nat.beq, cond_false, cond_true, u_asC, u_asI, u_asS, u_asL, u_asN, OA_loop] at e2 ⊢
      rw [e2]
      by_cases c2 : x.fields = y.fields <;> simp [c2]
    · simp [c1]
def bigT (x : Stp) : Bool := decide (100 < x.t.length) || decide (40 < x.fields.length)
theorem c_yGreatL (l : List Stp) : ∀ (m : Nat) (r : List Stp) (i : Nat), l.drop i = r → i + m = 61 →
    ltbl E0 41 0 2 [stpsV l, .int .i64 i] [] = some (if (r.take m).any bigT then (0, [.bool true], []) else (1, [stpsV l], [])) := by
  intro d
  induction d with
  | zero =>
    intro r i hr hm
    have : ¬ ((i : Int) < 61) := by omega
    refine t_yGreatL _ _ ?_
    by_cases h : (i : Int) < l.length <;> simp [s_yGreatL, this, h]
  | succ d ih =>
    intro r i hr hm
    cases r with
    | nil =>
      have h : l.length ≤ i := by simpa using hr
      have : ¬ ((i : Int) < l.length) := by omega
      exact t_yGreatL _ _ (by simp [s_yGreatL, this])
    | cons x r =>
      obtain ⟨hlt, hget, hr2⟩ := drop_c hr
      have h2 : (i : Int) < l.length := by omega
      have h3 : (i : Int) < 61 := by omega
      have e1 := i64_succ (i := i) (by omega)
      have h := ih r (i + 1) hr2 (by omega)
      refine t_yGreatL _ _ ?_
      simp only [s_yGreatL, OA_asm, OA_join, List.length_map, h2, h3, decide_true, cond_true, OA_chk, Int.natCast_nonneg, nthE, Int.toNat_natCast, List.getElem?_map, hget, Option.map_some, u_asA, u_asC, u_asI, u_asS, u_asL, u_asB, u_asN, Option.bind_some, Tok.untok_tok, e1, h, List.take_succ_cons, List.any_cons]
      by_cases a : 100 < x.t.length
      · have a2 : (x.t.length : Int) > 100 := by omega
        simp [a2, bigT, a]
      · have a2 : ¬ ((x.t.length : Int) > 100) := by omega
        by_cases b : 40 < x.fields.length
        · have b2 : (x.fields.length : Int) > 40 := by omega
          simp [a2, b2, bigT, a, b]
        · have b2 : ¬ ((x.fields.length : Int) > 40) := by omega
          have : bigT x = false := by simp [bigT, a, b]
          simp [a2, b2, this]
def greatT (l : List Stp) : Bool := (l.take 61).any bigT || decide (60 < l.length)
theorem c_yGreat (l : List Stp) : tbl E0 41 [stpsV l] [] = some ([.bool (greatT l)], []) :=
  t_yGreat l (by
    have e := c_yGreatL l 61 l 0 rfl rfl
    simp only [Int.natCast_zero] at e
    simp only [s_yGreat, OA_loop, e, greatT]
    rcases bor ((l.take 61).any bigT) with hb | hb
    · simp [hb]
    · by_cases h : 60 < l.length
      · have : (l.length : Int) > 60 := by omega
        simp [hb, h, this]
      · have : ¬ ((l.length : Int) > 60) := by omega
        simp [hb, h, this])
end Go.Proofs.Ytmpfeofeokmooaa.V
namespace Go.Proofs.Ytmpfeofeokmooaa.V
open Go
theorem bigT_sml {x : Stp} (h : bigT x = false) : x.sml := by
  simp only [bigT, Bool.or_eq_false_iff, decide_eq_false_iff_not] at h
  exact ⟨by omega, by omega⟩
end Go.Proofs.Ytmpfeofeokmooaa.V
namespace Go.Proofs.Ytmpfeofeokmooaa.V
open Go
theorem fldW_len {x : Fld} (hx : x.ok) (hr : rgtS x = true) : (fldW x).length ≤ 50 := by
  have r := rgt_rng hr
  obtain ⟨_, ⟨_, _⟩, ⟨_, _⟩, ⟨_, _⟩, ⟨_, _⟩⟩ := hx
  have h1 : (cnt x.id.toNat).length ≤ 10 := cnt_len10 (by omega)
  have h2 : (cnt x.kind.toNat).length ≤ 10 := cnt_len10 (by omega)
  have h3 : (cnt (zz x.lo)).length ≤ 10 := cnt_len10 (zz_lt (by omega) (by omega))
  have h4 : (cnt (zz x.hi)).length ≤ 10 := cnt_len10 (zz_lt (by omega) (by omega))
  have h5 : (cnt x.most.toNat).length ≤ 10 := cnt_len10 (by omega)
  unfold fldW
  simp only [List.length_append]
  omega
theorem p_Count (b : List AV) (n e : Int) (hb : b.length + 10 ≤ 140737488355328) (h0 : 0 ≤ n) (hn : n ≤ 9223372036854775807) : tbl E0 59 [.ref 0 0, .int .i64 n] [(0, [.lst (.own (.E 0 0)) 1 b, .int .i64 e])] = some ([], [(0, [.lst (.own (.E 0 0)) 1 (b ++ encB (cnt n.toNat)), .int .i64 e])]) := by
  have c := c_PCount b n e hb hn
  rw [if_neg (by omega)] at c
  exact c
theorem p_Num (b : List AV) (n e : Int) (hb : b.length + 10 ≤ 140737488355328) (h : i64 n) : tbl E0 133 [.ref 0 0, .int .i64 n] [(0, [.lst (.own (.E 0 0)) 1 b, .int .i64 e])] = some ([], [(0, [.lst (.own (.E 0 0)) 1 (b ++ encB (cnt (zz n))), .int .i64 e])]) := c_PNum b n e hb h.1 h.2
theorem zz_l {n : Int} (h : i64 n) : (cnt (zz n)).length ≤ 10 := cnt_len10 (zz_lt h.1 h.2)
theorem c_writeField (b : List AV) (x : Fld) (e : Int) (hx : x.ok) (hr : rgtS x = true) (hb : b.length + 50 ≤ 140737488355328) : tbl E0 137 [.ref 0 0, fldV x] [(0, [.lst (.own (.E 0 0)) 1 b, .int .i64 e])] = some ([], [(0, [.lst (.own (.E 0 0)) 1 (b ++ encB (fldW x)), .int .i64 e])]) :=
  t_writeField b x e (by
    have r := rgt_rng hr
    obtain ⟨_, ⟨_, _⟩, g1, g2, ⟨_, _⟩⟩ := hx
    have h1 : (cnt x.id.toNat).length ≤ 10 := cnt_len10 (by omega)
    have h2 : (cnt x.kind.toNat).length ≤ 10 := cnt_len10 (by omega)
    have h3 := zz_l g1
    have h4 := zz_l g2
    have c1 := p_Count b x.id e (by omega) (by omega) (by omega)
    have c2 := p_Count (b ++ encB (cnt x.id.toNat)) x.kind e (by simp; omega) (by omega) (by omega)
    have c3 := p_Num (b ++ encB (cnt x.id.toNat) ++ encB (cnt x.kind.toNat)) x.lo e (by simp; omega) g1
    have c4 := p_Num (b ++ encB (cnt x.id.toNat) ++ encB (cnt x.kind.toNat) ++ encB (cnt (zz x.lo))) x.hi e (by simp; omega) g2
    have c5 := p_Count (b ++ encB (cnt x.id.toNat) ++ encB (cnt x.kind.toNat) ++ encB (cnt (zz x.lo)) ++ encB (cnt (zz x.hi))) x.most e (by simp; omega) (by omega) (by omega)
    have eb : b ++ encB (fldW x) = b ++ encB (cnt x.id.toNat) ++ encB (cnt x.kind.toNat) ++ encB (cnt (zz x.lo)) ++ encB (cnt (zz x.hi)) ++ encB (cnt x.most.toNat) := by unfold fldW; simp only [encB_append, List.append_assoc]
    rw [eb]
    simp only [s_writeField, OA_chk, cond_true, OA_call, c1, c2, c3, c4, c5, u_asC, u_asI, u_asOwn, u_asN, Option.bind_some, nbeq, decide_true])
theorem c_twriteT (l : List Int) (hl : l.length ≤ 64) (hok : ∀ n ∈ l, 0 ≤ n ∧ n ≤ 1000) : ∀ (r : List Int) (i : Nat) (b : List AV) (e : Int), l.drop i = r → b.length + 10 * r.length + 10 ≤ 140737488355328 →
    ltbl E0 106 0 23 [intsV l, .int .i64 l.length, .int .i64 i] [[.lst (.own (.O 0 0)) 1 b, .int .i64 e]] = some (2, [], [[.lst (.own (.O 0 0)) 1 (b ++ encB (intsB r)), .int .i64 e]]) := by
  intro r
  induction r with
  | nil =>
    intro i b e hr hb
    have h : l.length ≤ i := by simpa using hr
    refine t_twriteT _ _ _ _ _ ?_
    have : ¬ ((i : Int) < l.length) := by omega
    simp [s_twriteT, this, intsB, encB_nil]
  | cons n r ih =>
    intro i b e hr hb
    obtain ⟨hlt, hget, hr2⟩ := drop_c hr
    have h2 : (i : Int) < l.length := by omega
    have e1 := i64_succ (i := i) (by omega)
    obtain ⟨g1, g2⟩ := hok n (mem_drop hr)
    have hx : (cnt n.toNat).length ≤ 10 := cnt_len10 (by omega)
    simp only [List.length_cons] at hb
    have h := ih (i + 1) (b ++ encB (cnt n.toNat)) e hr2 (by simp; omega)
    have c := p_Count b n e (by omega) g1 (by omega)
    have eb : b ++ encB (intsB (n :: r)) = b ++ encB (cnt n.toNat) ++ encB (intsB r) := by simp [intsB, encB_append]
    refine t_twriteT _ _ _ _ _ ?_
    rw [eb, ← h]
    simp only [s_twriteT, h2, decide_true, cond_true, OA_chk, Int.natCast_nonneg, nthE, Int.toNat_natCast, List.getElem?_map, hget, Option.map_some, u_asC, u_asI, u_asOwn, u_asN, OA_call, c, Option.bind_some, nbeq, e1]
theorem c_twriteF (l : List Fld) (hl : l.length ≤ 8) (hok : FldsOK l) : ∀ (r : List Fld) (i : Nat) (b : List AV) (e : Int), l.drop i = r → b.length + 50 * r.length + 50 ≤ 140737488355328 →
    ltbl E0 106 0 30 [fldsV l, .int .i64 l.length, .int .i64 i] [[.lst (.own (.O 0 0)) 1 b, .int .i64 e]] = some (4, [], [[.lst (.own (.O 0 0)) 1 (b ++ encB (fldsW r)), .int .i64 e]]) := by
  intro r
  induction r with
  | nil =>
    intro i b e hr hb
    have h : l.length ≤ i := by simpa using hr
    refine t_twriteF _ _ _ _ _ ?_
    have : ¬ ((i : Int) < l.length) := by omega
    simp [s_twriteF, this, fldsW, encB_nil]
  | cons n r ih =>
    intro i b e hr hb
    obtain ⟨hlt, hget, hr2⟩ := drop_c hr
    have h2 : (i : Int) < l.length := by omega
    have e1 := i64_succ (i := i) (by omega)
    obtain ⟨g1, g2⟩ := hok n (mem_drop hr)
    have hx := fldW_len g1 g2
    simp only [List.length_cons] at hb
    have h := ih (i + 1) (b ++ encB (fldW n)) e hr2 (by simp; omega)
    have c := c_writeField b n e g1 g2 (by omega)
    have eb : b ++ encB (fldsW (n :: r)) = b ++ encB (fldW n) ++ encB (fldsW r) := by simp [fldsW, encB_append]
    refine t_twriteF _ _ _ _ _ ?_
    rw [eb, ← h]
    simp only [s_twriteF, h2, decide_true, cond_true, OA_chk, Int.natCast_nonneg, nthE, Int.toNat_natCast, List.getElem?_map, hget, Option.map_some, u_asA, u_asC, u_asI, u_asOwn, u_asN, OA_call, c, Option.bind_some, nbeq, e1]
theorem intsB_len : ∀ (l : List Int), (∀ n ∈ l, 0 ≤ n ∧ n ≤ 1000) → (intsB l).length ≤ 10 * l.length
  | [], _ => by simp [intsB]
  | n :: l, h => by
    have h1 : (cnt n.toNat).length ≤ 10 := cnt_len10 (by have := h n (by simp); omega)
    have h2 := intsB_len l (fun g hg => h g (by simp [hg]))
    have e : intsB (n :: l) = cnt n.toNat ++ intsB l := by simp [intsB]
    rw [e, List.length_append, List.length_cons]
    omega
theorem fldsW_len : ∀ (l : List Fld), FldsOK l → (fldsW l).length ≤ 50 * l.length
  | [], _ => by simp [fldsW]
  | n :: l, h => by
    have h1 := fldW_len (h n (by simp)).1 (h n (by simp)).2
    have h2 := fldsW_len l (fun g hg => h g (by simp [hg]))
    have e : fldsW (n :: l) = fldW n ++ fldsW l := by simp [fldsW]
    rw [e, List.length_append, List.length_cons]
    omega
theorem fits_flds {x : Stp} (hx : x.ok) (h : fitsS x 9 = true) : x.fields.length ≤ 8 ∧ FldsOK x.fields := by
  obtain ⟨h1, h2⟩ := fits_l h
  exact ⟨h1, fun f hf => ⟨hx.2.2.2.2.2.2.2.2.2.2 f hf, h2 f hf⟩⟩
theorem cnt10 {n : Int} (h : n ≤ 9223372036854775807) : (cnt n.toNat).length ≤ 10 := cnt_len10 (by omega)
theorem prtB_len {x : Stp} (hx : x.ok) {p : Int} (hp : Fits x p) : (prtB x p).length ≤ 650 := by
  have hx0 := hx
  obtain ⟨h1, h2, h3, h4, h5, h6, h7, h8, h9, h10, h11⟩ := hx
  have hp0 := hp
  obtain ⟨hr, hf, hb⟩ := hp
  rcases pr_cases hr with rfl | rfl | rfl | rfl | rfl | rfl | rfl | rfl | rfl | rfl <;> simp only [prtB, if_true, Int.reduceEq, if_false, List.length_append]
  · have := cnt10 h2.2; omega
  · have := cnt10 h3.2; omega
  · have := cnt10 h4.2; omega
  · have := cnt10 h5.2; omega
  · have := cnt10 h6.2; omega
  · have := zz_l h6; have := zz_l h7; omega
  · simp [fitsS] at hf
    have := fldW_len h8 hf.1; omega
  · have := fits_s hf
    have := zz_l h9
    have : (cnt x.s.length).length ≤ 10 := cnt_len10 (by omega)
    omega
  · obtain ⟨g1, g2⟩ := fits_t hp0
    have := intsB_len x.t g1
    have : (cnt x.t.length).length ≤ 10 := cnt_len10 (by omega)
    omega
  · obtain ⟨g1, g2⟩ := fits_flds hx0 hf
    have := fldsW_len x.fields g2
    have : (cnt x.fields.length).length ≤ 10 := cnt_len10 (by omega)
    omega
theorem c_twrite (b : List AV) (x : Stp) (p e : Int) (hx : x.ok) (hp : Fits x p) (hb : b.length + 700 ≤ 140737488355328) : tbl E0 106 [.ref 0 0, stpV x, .int .i64 p] [(0, [.lst (.own (.E 0 0)) 1 b, .int .i64 e])] = some ([], [(0, [.lst (.own (.E 0 0)) 1 (b ++ encB (prtB x p)), .int .i64 e])]) := by
  have hx0 := hx
  obtain ⟨h1, h2, h3, h4, h5, h6, h7, h8, h9, h10, h11⟩ := hx
  have hp0 := hp
  obtain ⟨hr, hf, hbb⟩ := hp
  refine t_twrite b x p e ?_
  rcases pr_cases hr with rfl | rfl | rfl | rfl | rfl | rfl | rfl | rfl | rfl | rfl <;> simp only [prtB, if_true, Int.reduceEq, if_false, s_twrite, OA_chk, cond_true, cond_false, OA_call, OA_asm, OA_loop, Int.reduceBEq, beq_self_eq_true]
  · simp [fitsS, inS] at hf
    have c := p_Count b x.form e (by omega) (by omega) h2.2
    simp only [c, u_asC, u_asI, u_asOwn, u_asN, Option.bind_some, nbeq, decide_true, cond_true]
  · simp [fitsS, inS] at hf
    have c := p_Count b x.field e (by omega) (by omega) h3.2
    simp only [c, u_asC, u_asI, u_asOwn, u_asN, Option.bind_some, nbeq, decide_true, cond_true]
  · simp [fitsS, inS] at hf
    have c := p_Count b x.place e (by omega) (by omega) h4.2
    simp only [c, u_asC, u_asI, u_asOwn, u_asN, Option.bind_some, nbeq, decide_true, cond_true]
  · simp [fitsS, inS] at hf
    have c := p_Count b x.to e (by omega) (by omega) h5.2
    simp only [c, u_asC, u_asI, u_asOwn, u_asN, Option.bind_some, nbeq, decide_true, cond_true]
  · simp [fitsS, inS] at hf
    have c := p_Count b x.a e (by omega) (by split at hf <;> omega) h6.2
    simp only [c, u_asC, u_asI, u_asOwn, u_asN, Option.bind_some, nbeq, decide_true, cond_true]
  · have g1 := zz_l h6
    have c := p_Num b x.a e (by omega) h6
    have c2 := p_Num (b ++ encB (cnt (zz x.a))) x.b e (by simp; omega) h7
    simp only [c, c2, u_asC, u_asI, u_asOwn, u_asN, Option.bind_some, nbeq, decide_true, cond_true, OA_call, encB_append, List.append_assoc]
  · simp [fitsS] at hf
    have c := c_writeField b x.f e h8 hf.1 (by omega)
    simp only [c, u_asC, u_asI, u_asOwn, u_asN, Option.bind_some, nbeq, decide_true, cond_true]
  · have g1 := zz_l h9
    have g2 := fits_s hf
    have c := p_Num b x.n e (by omega) h9
    have c2 := c_PText (b ++ encB (cnt (zz x.n))) x.s e (by simp; omega)
    simp only [penA] at c2
    simp only [c, c2, u_asC, u_asI, u_asOwn, u_asN, Option.bind_some, nbeq, decide_true, cond_true, OA_call, encB_append, List.append_assoc]
  · obtain ⟨g1, g2⟩ := fits_t hp0
    have g3 : (cnt x.t.length).length ≤ 10 := cnt_len10 (by omega)
    have c := p_Count b x.t.length e (by omega) (by omega) (by omega)
    have c2 := c_twriteT x.t g2 g1 x.t 0 (b ++ encB (cnt x.t.length)) e rfl (by simp; omega)
    simp only [Int.toNat_natCast, Int.natCast_zero] at c c2
    simp only [List.length_map, c, c2, u_asC, u_asI, u_asL, u_asOwn, u_asN, Option.bind_some, nbeq, decide_true, cond_true, cond_false, OA_call, OA_asm, OA_loop, encB_append, List.append_assoc, Nm_beq_self]
  · obtain ⟨g1, g2⟩ := fits_flds hx0 hf
    have g3 : (cnt x.fields.length).length ≤ 10 := cnt_len10 (by omega)
    have c := p_Count b x.fields.length e (by omega) (by omega) (by omega)
    have c2 := c_twriteF x.fields g1 g2 x.fields 0 (b ++ encB (cnt x.fields.length)) e rfl (by simp; omega)
    simp only [Int.toNat_natCast, Int.natCast_zero] at c c2
    simp only [List.length_map, c, c2, u_asC, u_asI, u_asL, u_asOwn, u_asN, Option.bind_some, nbeq, decide_true, cond_true, cond_false, OA_call, OA_asm, OA_loop, encB_append, List.append_assoc, Nm_beq_self]
end Go.Proofs.Ytmpfeofeokmooaa.V
namespace Go.Proofs.Ytmpfeofeokmooaa.V
open Go
theorem prtsB_cons (x : Stp) (p : Int) (l : List Int) : prtsB x (p :: l) = prtB x p ++ prtsB x l := by simp [prtsB]
theorem stpsB_cons (x : Stp) (l : List Stp) : stpsB (x :: l) = stpB x ++ stpsB l := by simp [stpsB]
theorem prtsB_len {x : Stp} (hx : x.ok) : ∀ (l : List Int), (∀ p ∈ l, Fits x p) → (prtsB x l).length ≤ 650 * l.length
  | [], _ => by simp [prtsB]
  | p :: l, h => by
    have h1 := prtB_len hx (h p (by simp))
    have h2 := prtsB_len hx l (fun g hg => h g (by simp [hg]))
    rw [prtsB_cons, List.length_append, List.length_cons]
    omega
theorem stpB_len {x : Stp} (hx : x.ok) (hr : tRightS x = true) : (stpB x).length ≤ 3300 := by
  obtain ⟨h1, h2, _⟩ := right_fits hr
  have h3 := prtsB_len hx _ h1
  have h4 := uses_len x.op
  have h5 := ops_rng h2
  have h6 : (cnt x.op.toNat).length ≤ 10 := cnt_len10 (by omega)
  unfold stpB
  rw [List.length_append]
  omega
theorem stpsB_len : ∀ (l : List Stp), (∀ x ∈ l, x.ok ∧ tRightS x = true) → (stpsB l).length ≤ 3300 * l.length
  | [], _ => by simp [stpsB]
  | x :: l, h => by
    have h1 := stpB_len (h x (by simp)).1 (h x (by simp)).2
    have h2 := stpsB_len l (fun g hg => h g (by simp [hg]))
    rw [stpsB_cons, List.length_append, List.length_cons]
    omega
theorem c_tPrintK (l : List Stp) (x : Stp) (hx : x.ok) (u : List Int) (m i : Int) (hu : u.length ≤ 5) (hf : ∀ p ∈ u, Fits x p) : ∀ (r : List Int) (k : Nat) (b : List AV) (e : Int), u.drop k = r → b.length + 700 * r.length + 700 ≤ 140737488355328 →
    ltbl E0 57 0 12 [stpsV l, .int .i64 m, .int .i64 i, intsV u, .int .i64 u.length, .int .i64 k] [stpC x, [.lst (.own (.O 1012 0)) 1 b, .int .i64 e]] = some (3, [stpsV l, .int .i64 m, .int .i64 i], [[.lst (.own (.O 1012 0)) 1 (b ++ encB (prtsB x r)), .int .i64 e]]) := by
  intro r
  induction r with
  | nil =>
    intro k b e hr hb
    have h : u.length ≤ k := by simpa using hr
    refine t_tPrintK _ _ _ _ _ _ _ _ _ ?_
    have : ¬ ((k : Int) < u.length) := by omega
    simp [s_tPrintK, this, prtsB, encB_nil]
  | cons p r ih =>
    intro k b e hr hb
    obtain ⟨hlt, hget, hr2⟩ := drop_c hr
    have h2 : (k : Int) < u.length := by omega
    have e1 := i64_succ (i := k) (by omega)
    have g1 := hf p (mem_drop hr)
    have hl := prtB_len hx g1
    simp only [List.length_cons] at hb
    have h := ih (k + 1) (b ++ encB (prtB x p)) e hr2 (by simp; omega)
    have c := c_twrite b x p e hx g1 (by omega)
    simp only [stpV, stpC, intsV, fldsV] at c h
    have eb : b ++ encB (prtsB x (p :: r)) = b ++ encB (prtB x p) ++ encB (prtsB x r) := by rw [prtsB_cons, encB_append, List.append_assoc]
    refine t_tPrintK _ _ _ _ _ _ _ _ _ ?_
    rw [eb, ← h]
    simp only [s_tPrintK, h2, decide_true, cond_true, OA_chk, Int.natCast_nonneg, nthE, Int.toNat_natCast, List.getElem?_map, hget, Option.map_some, u_asC, u_asI, u_asOwn, u_asN, OA_call, c, Option.bind_some, nbeq, e1]
theorem c_tPrintL (l : List Stp) (hl : l.length ≤ 40) (hok : ∀ x ∈ l, x.ok ∧ x.sml) : ∀ (r : List Stp) (i : Nat) (b : List AV) (e : Int), l.drop i = r → b.length + 4000 * r.length + 4000 ≤ 140737488355328 →
    ltbl E0 57 0 6 [stpsV l, .int .i64 l.length, .int .i64 i] [[.lst (.own (.O 1012 0)) 1 b, .int .i64 e]] = some (if r.all tRightS then (1, [], [[.lst (.own (.O 1012 0)) 1 (b ++ encB (stpsB r)), .int .i64 e]]) else (0, [.lst .ro 1 [], .int .i64 2], [])) := by
  intro r
  induction r with
  | nil =>
    intro i b e hr hb
    have h : l.length ≤ i := by simpa using hr
    refine t_tPrintL _ _ _ _ _ ?_
    have : ¬ ((i : Int) < l.length) := by omega
    simp [s_tPrintL, this, stpsB, encB_nil]
  | cons x r ih =>
    intro i b e hr hb
    obtain ⟨hlt, hget, hr2⟩ := drop_c hr
    have h2 : (i : Int) < l.length := by omega
    have e1 := i64_succ (i := i) (by omega)
    obtain ⟨x1, x2⟩ := hok x (mem_drop hr)
    have c0 := c_tRight x x1 x2
    simp only [stpV, stpC, intsV, fldsV] at c0
    refine t_tPrintL _ _ _ _ _ ?_
    simp only [s_tPrintL, OA_asm, h2, decide_true, cond_true, OA_chk, Int.natCast_nonneg, nthE, Int.toNat_natCast, List.getElem?_map, hget, Option.map_some, u_asA, u_asC, u_asI, u_asB, u_asS, u_asL, u_asN, OA_callx, c0, Option.bind_some]
    rcases bor (tRightS x) with hq | hq
    · obtain ⟨g1, g2, g3⟩ := right_fits hq
      have g4 := ops_rng g2
      have hxl := stpB_len x1 hq
      have h6 : (cnt x.op.toNat).length ≤ 10 := cnt_len10 (by omega)
      simp only [List.length_cons] at hb
      have h := ih (i + 1) (b ++ encB (stpB x)) e hr2 (by simp; omega)
      have c1 := p_Count b x.op e (by omega) (by omega) x1.1.2
      have c2 := c_tuses x.op
      have k := c_tPrintK l x x1 (usesS x.op) (l.length : Int) (i : Int) (uses_len _) g1 (usesS x.op) 0 (b ++ encB (cnt x.op.toNat)) e rfl (by have := uses_len x.op; simp; omega)
      simp only [Int.natCast_zero, stpC, intsV, fldsV] at k
      have ek : b ++ encB (cnt x.op.toNat) ++ encB (prtsB x (usesS x.op)) = b ++ encB (stpB x) := by unfold stpB; simp only [encB_append, List.append_assoc]
      rw [ek] at k
      have eb : b ++ encB (stpsB (x :: r)) = b ++ encB (stpB x) ++ encB (stpsB r) := by rw [stpsB_cons, encB_append, List.append_assoc]
      simp only [hq, Bool.not_true, cond_false, OA_call, c1, u_asC, u_asI, u_asB, u_asL, u_asOwn, u_asN, Option.bind_some, OA_callx, c2, OA_asm, OA_loop, List.length_map, k, nbeq, decide_true, cond_true, Nm_beq_self, e1, List.all_cons, Bool.true_and, eb]
      exact h
    · simp [hq]
theorem c_tPrint (l : List Stp) (hok : ∀ x ∈ l, x.ok ∧ x.sml) : tbl E0 57 [stpsV l] [] = some ([.lst .ro 1 (if l.length ≤ 40 ∧ l.all tRightS = true then encB (lstB l) else []), .int .i64 (if 40 < l.length then 7 else if l.all tRightS = true then 0 else 2)], []) :=
  t_tPrint l (by
    by_cases hl : 40 < l.length
    · have h1 : (l.length : Int) > 40 := by omega
      have h2 : ¬ (l.length ≤ 40) := by omega
      simp [s_tPrint, h1, h2, hl]
    · have h1 : ¬ ((l.length : Int) > 40) := by omega
      have hl2 : l.length ≤ 40 := by omega
      have h7 : (cnt l.length).length ≤ 10 := cnt_len10 (by omega)
      have c1 := p_Count [] l.length 0 (by simp) (by omega) (by omega)
      simp only [Int.toNat_natCast, List.nil_append] at c1
      have k := c_tPrintL l hl2 hok l 0 (encB (cnt l.length)) 0 rfl (by simp; omega)
      simp only [Int.natCast_zero, ← encB_append] at k
      rcases bor (l.all tRightS) with hq | hq
      · have hs := stpsB_len l (fun x hx => ⟨(hok x hx).1, List.all_eq_true.1 hq x hx⟩)
        have d := c_PDone (lstB l) 0 (by unfold lstB; rw [List.length_append]; omega)
        simp only [penV, penA, if_true] at d
        simp only [hq, if_true] at k
        have ek : cnt l.length ++ stpsB l = lstB l := rfl
        rw [ek] at k
        simp only [s_tPrint, hq, hl, hl2, h1, OA_asm, List.length_map, decide_true, decide_false, cond_true, cond_false, OA_chk, u_asC, u_asI, u_asB, u_asL, u_asOwn, u_asN, u_asRef0, OA_call, OA_callx, OA_loop, c_New, c1, k, d, Option.bind_some, nbeq, Nm_beq_self, if_true, if_false, and_self, Nat.one_ne_zero]
      · simp only [hq, Bool.false_eq_true, if_false] at k
        simp only [s_tPrint, hq, hl, hl2, h1, OA_asm, List.length_map, decide_true, decide_false, cond_true, cond_false, OA_chk, u_asC, u_asI, u_asB, u_asL, u_asOwn, u_asN, u_asRef0, OA_call, OA_callx, OA_loop, c_New, c1, k, Option.bind_some, nbeq, Nm_beq_self, if_false, Bool.false_eq_true, and_false])
end Go.Proofs.Ytmpfeofeokmooaa.V
namespace Go.Proofs.Ytmpfeofeokmooaa.V
open Go
theorem r_Rights15L (l : List Stp) (hl : l.length ≤ 40) (hok : ∀ x ∈ l, x.sml) : ∀ (r : List Stp) (i : Nat), l.drop i = r →
    ltbl E0 52 0 4 [stpsV l, .int .i64 i] [] = some (if r.all tRightS then (1, [], []) else (0, [.int .i64 2], [])) := by
  intro r
  induction r with
  | nil =>
    intro i hr
    have h : l.length ≤ i := by simpa using hr
    refine t_Rights15L _ _ ?_
    have : ¬ ((i : Int) < l.length) := by omega
    simp [s_Rights15L, this]
  | cons x r ih =>
    intro i hr
    obtain ⟨hlt, hget, hr2⟩ := drop_c hr
    have h2 : (i : Int) < l.length := by omega
    have e1 := i64_succ (i := i) (by omega)
    have c := c_ytRight x (hok x (mem_drop hr))
    rw [← tRight_eq] at c
    simp only [stpV, stpC, intsV, fldsV] at c
    have h := ih (i + 1) hr2
    refine t_Rights15L _ _ ?_
    simp only [s_Rights15L, OA_asm, List.length_map, h2, decide_true, cond_true, OA_chk, Int.natCast_nonneg, nthE, Int.toNat_natCast, List.getElem?_map, hget, Option.map_some, u_asA, u_asB, u_asC, u_asI, u_asS, u_asL, u_asOwn, u_asN, OA_callx, c, Option.bind_some, e1, List.all_cons]
    rcases bor (tRightS x) with hq | hq
    · simp only [hq, Bool.not_true, cond_false, Bool.true_and]
      exact h
    · simp [hq]
theorem r_Rights15 (l : List Stp) (hok : ∀ x ∈ l, x.sml) : tbl E0 52 [stpsV l] [] = some ([.int .i64 (if 40 < l.length then 7 else if l.all tRightS = true then 0 else 2)], []) :=
  t_Rights15 l (by
    by_cases hl : 40 < l.length
    · have h1 : (l.length : Int) > 40 := by omega
      simp [s_Rights15, h1, hl]
    · have h1 : ¬ ((l.length : Int) > 40) := by omega
      have k := r_Rights15L l (by omega) hok l 0 rfl
      simp only [Int.natCast_zero] at k
      simp only [s_Rights15, h1, hl, OA_asm, List.length_map, decide_false, cond_false, OA_loop, k, if_false]
      rcases bor (l.all tRightS) with hq | hq <;> simp [hq])
end Go.Proofs.Ytmpfeofeokmooaa.V
namespace Go.Proofs.Ytmpfeofeokmooaa.V
open Go
end Go.Proofs.Ytmpfeofeokmooaa.V
namespace Go.Proofs.Ytmpfeofeokmooaa.V
open Go
end Go.Proofs.Ytmpfeofeokmooaa.V
namespace Go.Proofs.Ytmpfeofeokmooaa.V
open Go
end Go.Proofs.Ytmpfeofeokmooaa.V
namespace Go.Proofs.Ytmpfeofeokmooaa.V
open Go
theorem c_SameListTL (x y : List Stp) (hl : x.length ≤ 1000) (he : x.length = y.length) (hok : ∀ a ∈ x, a.sml) : ∀ (r r' : List Stp) (i : Nat), x.drop i = r → y.drop i = r' →
    ltbl E0 48 0 4 [stpsV x, stpsV y, .int .i64 i] [] = some (if r = r' then (1, [], []) else (0, [.bool false], [])) := by
  intro r
  induction r with
  | nil =>
    intro r' i hr hr'
    have h : x.length ≤ i := by simpa using hr
    have h3 : r' = [] := by rw [← hr', List.drop_eq_nil_iff]; omega
    have : ¬ ((i : Int) < x.length) := by omega
    subst h3
    exact t_SameListTL _ _ _ (by simp [s_SameListTL, this])
  | cons a r ih =>
    intro r' i hr hr'
    obtain ⟨hlt, hget, hr2⟩ := drop_c hr
    have hlt' : i < y.length := by omega
    rw [List.drop_eq_getElem_cons hlt'] at hr'
    subst hr'
    have hg2 : y[i]? = some y[i] := List.getElem?_eq_getElem hlt'
    generalize y[i] = g at *
    have h2 : (i : Int) < x.length := by omega
    have e1 := i64_succ (i := i) (by omega)
    have h := ih _ (i + 1) hr2 rfl
    have c := c_ytSame a g (hok a (mem_drop hr))
    simp only [stpV, stpC, intsV, fldsV] at c
    refine t_SameListTL _ _ _ ?_
    simp only [s_SameListTL, List.length_map, h2, Int.natCast_nonneg, nthE, Int.toNat_natCast, List.getElem?_map, hget, hg2, Option.map_some, OA_asm, OA_chk, OA_call, OA_callx, OA_loop, OA_both_id, u_asA, u_asC, u_asI, u_asB, u_asS, u_asL, u_asOwn, u_asN, u_asRef0, Option.bind_some, nbeq, Nm_beq_self, decide_true, cond_true, cond_false, c, e1]
    by_cases e : a = g
    · simp only [e, decide_true, Bool.not_true, cond_false, h, List.cons.injEq, true_and]
    · simp [e]
theorem c_SameListT (x y : List Stp) (hl : x.length ≤ 1000) (hok : ∀ a ∈ x, a.sml) : tbl E0 48 [stpsV x, stpsV y] [] = some ([.bool (decide (x = y))], []) :=
  t_SameListT x y (by
    by_cases he : x.length = y.length
    · have k := c_SameListTL x y hl he hok x y 0 rfl rfl
      simp only [Int.natCast_zero] at k
      have h' : ((x.length : Int) != (y.length : Int)) = false := by rw [he]; simp
      simp only [s_SameListT, List.length_map, OA_asm, OA_chk, OA_call, OA_callx, OA_loop, OA_both_id, u_asA, u_asC, u_asI, u_asB, u_asS, u_asL, u_asOwn, u_asN, u_asRef0, Option.bind_some, nbeq, Nm_beq_self, decide_true, cond_true, cond_false, h', k]
      by_cases e2 : x = y <;> simp [e2]
    · have : ¬ (x = y) := fun e => he (by rw [e])
      have h' : ((x.length : Int) != (y.length : Int)) = true := bne_t (by omega)
      simp only [s_SameListT, List.length_map, OA_asm, OA_chk, OA_call, OA_callx, OA_loop, OA_both_id, u_asA, u_asC, u_asI, u_asB, u_asS, u_asL, u_asOwn, u_asN, u_asRef0, Option.bind_some, nbeq, Nm_beq_self, decide_true, cond_true, cond_false, h']
      simp [this])
theorem great_sml {l : List Stp} (h : greatT l = false) : l.length ≤ 60 ∧ ∀ x ∈ l, x.sml := by
  simp only [greatT, Bool.or_eq_false_iff, decide_eq_false_iff_not, List.any_eq_false] at h
  obtain ⟨h1, h2⟩ := h
  rw [List.take_of_length_le (by omega)] at h1
  exact ⟨by omega, fun x hx => bigT_sml (by simpa using h1 x hx)⟩
end Go.Proofs.Ytmpfeofeokmooaa.V
