/- Part 4 of the proof that: Manifests' bytes are as the document says: ManifestBytes. -/
import Derived.Test.YtmpfeofeokmooaaGreatKBc
set_option linter.unusedVariables false
set_option linter.unusedSimpArgs false
namespace Go.Proofs.YtmpfeofeokmooaaGreat.V
open Go
open AV (int lst agg str bool ref clo)
open List (map)
def s_tuses {α : Type} (A : Alg α) (op : Int) (kc : List AV → List (Nat × List AV) → α) : α :=
  bif (op == (1 : Int)) then (A.loop 1000004 [int .i64 op, bool true] [] fun j0 l1 l2 => bif (j0.beq 50001) then (asN A l1 (asN A l2 (kc [lst .ro 1 []] []))) else (bif (j0.beq 0) then (asC A l1 fun v3 l4 => asL A 1 v3 fun l5 => asN A l4 (asN A l2 (kc [lst .ro 1 l5] []))) else A.fail)) else (A.loop 1000004 [int .i64 op, bool (op == (22 : Int))] [] fun j6 l7 l8 => bif (j6.beq 50001) then (asN A l7 (asN A l8 (kc [lst .ro 1 []] []))) else (bif (j6.beq 0) then (asC A l7 fun v9 l10 => asL A 1 v9 fun l11 => asN A l10 (asN A l8 (kc [lst .ro 1 l11] []))) else A.fail))
def s_tusesA {α : Type} (A : Alg α) (op : Int) (b : Bool) (next : List AV → List (List AV) → α) (kc : Nat → List AV → List (List AV) → α) : α :=
  bif b then (kc 0 [lst .ro 1 [int .i64 0, int .i64 2, int .i64 6, int .i64 7]] []) else (bif (op == (2 : Int)) then (kc 0 [lst .ro 1 [int .i64 0, int .i64 1, int .i64 7]] []) else (bif (op == (3 : Int)) then (A.loop 1000009 [int .i64 op, bool true] [] fun j0 l1 l2 => bif (j0.beq 50001) then (asN A l1 (asN A l2 (kc 50001 [] []))) else (bif (j0.beq 0) then (asC A l1 fun v3 l4 => asL A 1 v3 fun l5 => asN A l4 (asN A l2 (kc 0 [lst .ro 1 l5] []))) else A.fail)) else (A.loop 1000009 [int .i64 op, bool (op == (23 : Int))] [] fun j6 l7 l8 => bif (j6.beq 50001) then (asN A l7 (asN A l8 (kc 50001 [] []))) else (bif (j6.beq 0) then (asC A l7 fun v9 l10 => asL A 1 v9 fun l11 => asN A l10 (asN A l8 (kc 0 [lst .ro 1 l11] []))) else A.fail))))
def s_tusesB {α : Type} (A : Alg α) (op : Int) (b : Bool) (next : List AV → List (List AV) → α) (kc : Nat → List AV → List (List AV) → α) : α :=
  bif b then (kc 0 [lst .ro 1 [int .i64 0, int .i64 1, int .i64 6]] []) else (bif (op == (4 : Int)) then (kc 0 [lst .ro 1 [int .i64 0, int .i64 1, int .i64 5]] []) else (bif (op == (24 : Int)) then (kc 0 [lst .ro 1 [int .i64 0, int .i64 1, int .i64 5, int .i64 6]] []) else (bif (op == (5 : Int)) then (kc 0 [lst .ro 1 [int .i64 0, int .i64 1, int .i64 4, int .i64 8]] []) else (bif (op == (25 : Int)) then (kc 0 [lst .ro 1 [int .i64 0, int .i64 1, int .i64 8]] []) else (bif (op == (6 : Int)) then (kc 0 [lst .ro 1 [int .i64 0, int .i64 1, int .i64 4, int .i64 3]] []) else (bif (op == (26 : Int)) then (kc 0 [lst .ro 1 [int .i64 0, int .i64 1, int .i64 4, int .i64 3, int .i64 6]] []) else (bif (op == (7 : Int)) then (kc 0 [lst .ro 1 [int .i64 0, int .i64 1, int .i64 2]] []) else (bif (op == (27 : Int)) then (kc 0 [lst .ro 1 [int .i64 0, int .i64 1, int .i64 2]] []) else (bif (op == (8 : Int)) then (kc 0 [lst .ro 1 [int .i64 0, int .i64 1, int .i64 3]] []) else (bif (op == (28 : Int)) then (kc 0 [lst .ro 1 [int .i64 0, int .i64 1, int .i64 3]] []) else (bif (op == (9 : Int)) then (kc 0 [lst .ro 1 [int .i64 0, int .i64 9]] []) else (bif (op == (30 : Int)) then (kc 0 [lst .ro 1 [int .i64 0, int .i64 9]] []) else (bif (op == (10 : Int)) then (kc 0 [lst .ro 1 [int .i64 0]] []) else (bif (op == (29 : Int)) then (kc 0 [lst .ro 1 [int .i64 0]] []) else (bif (op == (21 : Int)) then (kc 0 [lst .ro 1 [int .i64 0, int .i64 1]] []) else (kc 50001 [] []))))))))))))))))
def s_tin {α : Type} (A : Alg α) (n : Int) (lo : Int) (hi : Int) (kc : List AV → List (Nat × List AV) → α) : α :=
  A.join (fun x0 => bif (decide (n ≥ lo)) then (x0 (decide (n ≤ hi))) else (x0 false)) fun b1 => kc [bool b1] []
def s_tonly {α : Type} (A : Alg α) (x : Stp) (kc : List AV → List (Nat × List AV) → α) : α :=
  A.chk true (A.chk true (A.chk true (A.chk true (A.callx 59 [int .i64 x.op] fun l0 => asC A l0 fun v1 l2 => asL A 1 v1 fun l3 => asN A l2 (A.asm (l3.length ≤ maxL) (A.loop 3 [lst .ro 1 l3, int .i64 (↑l3.length : Int), int .i64 0] [[int .i64 x.op, int .i64 x.form, int .i64 x.field, int .i64 x.place, int .i64 x.to, int .i64 x.a, int .i64 x.b, int .i64 x.f.id, int .i64 x.f.kind, int .i64 x.f.lo, int .i64 x.f.hi, int .i64 x.f.most, int .i64 x.n, str x.s, lst .ro 1 (map (fun n => int .i64 n) x.t), lst .ro 5 (map fldV x.fields)], [int .i64 0, int .i64 0, int .i64 0, int .i64 0, int .i64 0, int .i64 0, int .i64 0, int .i64 0, int .i64 0, int .i64 0, int .i64 0, int .i64 0, int .i64 0, str [], lst .ro 1 [], lst .ro 5 []], [int .i64 x.op, int .i64 0, int .i64 0, int .i64 0, int .i64 0, int .i64 0, int .i64 0, int .i64 0, int .i64 0, int .i64 0, int .i64 0, int .i64 0, int .i64 0, str [], lst .ro 1 [], lst .ro 5 []]] fun j4 l5 l6 => bif (j4.beq 1) then (asN A l5 (asC A l6 fun l7 l8 => asC A l7 fun v9 l10 => asI A .i64 v9 fun n11 => asC A l10 fun v12 l13 => asI A .i64 v12 fun n14 => asC A l13 fun v15 l16 => asI A .i64 v15 fun n17 => asC A l16 fun v18 l19 => asI A .i64 v18 fun n20 => asC A l19 fun v21 l22 => asI A .i64 v21 fun n23 => asC A l22 fun v24 l25 => asI A .i64 v24 fun n26 => asC A l25 fun v27 l28 => asI A .i64 v27 fun n29 => asC A l28 fun v30 l31 => asI A .i64 v30 fun n32 => asC A l31 fun v33 l34 => asI A .i64 v33 fun n35 => asC A l34 fun v36 l37 => asI A .i64 v36 fun n38 => asC A l37 fun v39 l40 => asI A .i64 v39 fun n41 => asC A l40 fun v42 l43 => asI A .i64 v42 fun n44 => asC A l43 fun v45 l46 => asI A .i64 v45 fun n47 => asC A l46 fun v48 l49 => asS A v48 fun l50 => asC A l49 fun v51 l52 => asL A 1 v51 fun l53 => asC A l52 fun v54 l55 => asL A 5 v54 fun l56 => asN A l55 (asC A l8 fun l57 l58 => asC A l57 fun v59 l60 => asI A .i64 v59 fun n61 => asC A l60 fun v62 l63 => asI A .i64 v62 fun n64 => asC A l63 fun v65 l66 => asI A .i64 v65 fun n67 => asC A l66 fun v68 l69 => asI A .i64 v68 fun n70 => asC A l69 fun v71 l72 => asI A .i64 v71 fun n73 => asC A l72 fun v74 l75 => asI A .i64 v74 fun n76 => asC A l75 fun v77 l78 => asI A .i64 v77 fun n79 => asC A l78 fun v80 l81 => asI A .i64 v80 fun n82 => asC A l81 fun v83 l84 => asI A .i64 v83 fun n85 => asC A l84 fun v86 l87 => asI A .i64 v86 fun n88 => asC A l87 fun v89 l90 => asI A .i64 v89 fun n91 => asC A l90 fun v92 l93 => asI A .i64 v92 fun n94 => asC A l93 fun v95 l96 => asI A .i64 v95 fun n97 => asC A l96 fun v98 l99 => asS A v98 fun l100 => asC A l99 fun v101 l102 => asL A 1 v101 fun l103 => asC A l102 fun v104 l105 => asL A 5 v104 fun l106 => asN A l105 (asN A l58 (A.chk true (A.chk true (A.chk true (A.chk true (kc [agg [int .i64 n61, int .i64 n64, int .i64 n67, int .i64 n70, int .i64 n73, int .i64 n76, int .i64 n79, int .i64 n82, int .i64 n85, int .i64 n88, int .i64 n91, int .i64 n94, int .i64 n97, str l100, lst .ro 1 l103, lst .ro 5 l106]] []))))))))) else A.fail))))))
def s_tonlyL {α : Type} (A : Alg α) (x : Stp) (y : Stp) (z : Stp) (l : List Int) (m : Int) (i : Int) (next : List AV → List (List AV) → α) (kc : Nat → List AV → List (List AV) → α) : α :=
  bif (decide (i < m)) then (A.chk (decide ((0 : Int) ≤ i)) (nthE A (map (fun n => int .i64 n) l) i.toNat fun v0 => asI A .i64 v0 fun n1 => bif (n1 == (0 : Int)) then (A.chk true (next [lst .ro 1 (map (fun n => int .i64 n) l), int .i64 m, int .i64 (IntKind.i64.wrap (i + (1 : Int)))] [[int .i64 x.op, int .i64 x.form, int .i64 x.field, int .i64 x.place, int .i64 x.to, int .i64 x.a, int .i64 x.b, int .i64 x.f.id, int .i64 x.f.kind, int .i64 x.f.lo, int .i64 x.f.hi, int .i64 x.f.most, int .i64 x.n, str x.s, lst .ro 1 (map (fun n => int .i64 n) x.t), lst .ro 5 (map fldV x.fields)], [int .i64 y.op, int .i64 y.form, int .i64 y.field, int .i64 y.place, int .i64 y.to, int .i64 y.a, int .i64 y.b, int .i64 y.f.id, int .i64 y.f.kind, int .i64 y.f.lo, int .i64 y.f.hi, int .i64 y.f.most, int .i64 y.n, str y.s, lst .ro 1 (map (fun n => int .i64 n) y.t), lst .ro 5 (map fldV y.fields)], [int .i64 z.op, int .i64 x.form, int .i64 z.field, int .i64 z.place, int .i64 z.to, int .i64 z.a, int .i64 z.b, int .i64 z.f.id, int .i64 z.f.kind, int .i64 z.f.lo, int .i64 z.f.hi, int .i64 z.f.most, int .i64 z.n, str z.s, lst .ro 1 (map (fun n => int .i64 n) z.t), lst .ro 5 (map fldV z.fields)]])) else (bif (n1 == (1 : Int)) then (A.chk true (next [lst .ro 1 (map (fun n => int .i64 n) l), int .i64 m, int .i64 (IntKind.i64.wrap (i + (1 : Int)))] [[int .i64 x.op, int .i64 x.form, int .i64 x.field, int .i64 x.place, int .i64 x.to, int .i64 x.a, int .i64 x.b, int .i64 x.f.id, int .i64 x.f.kind, int .i64 x.f.lo, int .i64 x.f.hi, int .i64 x.f.most, int .i64 x.n, str x.s, lst .ro 1 (map (fun n => int .i64 n) x.t), lst .ro 5 (map fldV x.fields)], [int .i64 y.op, int .i64 y.form, int .i64 y.field, int .i64 y.place, int .i64 y.to, int .i64 y.a, int .i64 y.b, int .i64 y.f.id, int .i64 y.f.kind, int .i64 y.f.lo, int .i64 y.f.hi, int .i64 y.f.most, int .i64 y.n, str y.s, lst .ro 1 (map (fun n => int .i64 n) y.t), lst .ro 5 (map fldV y.fields)], [int .i64 z.op, int .i64 z.form, int .i64 x.field, int .i64 z.place, int .i64 z.to, int .i64 z.a, int .i64 z.b, int .i64 z.f.id, int .i64 z.f.kind, int .i64 z.f.lo, int .i64 z.f.hi, int .i64 z.f.most, int .i64 z.n, str z.s, lst .ro 1 (map (fun n => int .i64 n) z.t), lst .ro 5 (map fldV z.fields)]])) else (bif (n1 == (2 : Int)) then (A.chk true (next [lst .ro 1 (map (fun n => int .i64 n) l), int .i64 m, int .i64 (IntKind.i64.wrap (i + (1 : Int)))] [[int .i64 x.op, int .i64 x.form, int .i64 x.field, int .i64 x.place, int .i64 x.to, int .i64 x.a, int .i64 x.b, int .i64 x.f.id, int .i64 x.f.kind, int .i64 x.f.lo, int .i64 x.f.hi, int .i64 x.f.most, int .i64 x.n, str x.s, lst .ro 1 (map (fun n => int .i64 n) x.t), lst .ro 5 (map fldV x.fields)], [int .i64 y.op, int .i64 y.form, int .i64 y.field, int .i64 y.place, int .i64 y.to, int .i64 y.a, int .i64 y.b, int .i64 y.f.id, int .i64 y.f.kind, int .i64 y.f.lo, int .i64 y.f.hi, int .i64 y.f.most, int .i64 y.n, str y.s, lst .ro 1 (map (fun n => int .i64 n) y.t), lst .ro 5 (map fldV y.fields)], [int .i64 z.op, int .i64 z.form, int .i64 z.field, int .i64 x.place, int .i64 z.to, int .i64 z.a, int .i64 z.b, int .i64 z.f.id, int .i64 z.f.kind, int .i64 z.f.lo, int .i64 z.f.hi, int .i64 z.f.most, int .i64 z.n, str z.s, lst .ro 1 (map (fun n => int .i64 n) z.t), lst .ro 5 (map fldV z.fields)]])) else (bif (n1 == (3 : Int)) then (A.chk true (next [lst .ro 1 (map (fun n => int .i64 n) l), int .i64 m, int .i64 (IntKind.i64.wrap (i + (1 : Int)))] [[int .i64 x.op, int .i64 x.form, int .i64 x.field, int .i64 x.place, int .i64 x.to, int .i64 x.a, int .i64 x.b, int .i64 x.f.id, int .i64 x.f.kind, int .i64 x.f.lo, int .i64 x.f.hi, int .i64 x.f.most, int .i64 x.n, str x.s, lst .ro 1 (map (fun n => int .i64 n) x.t), lst .ro 5 (map fldV x.fields)], [int .i64 y.op, int .i64 y.form, int .i64 y.field, int .i64 y.place, int .i64 y.to, int .i64 y.a, int .i64 y.b, int .i64 y.f.id, int .i64 y.f.kind, int .i64 y.f.lo, int .i64 y.f.hi, int .i64 y.f.most, int .i64 y.n, str y.s, lst .ro 1 (map (fun n => int .i64 n) y.t), lst .ro 5 (map fldV y.fields)], [int .i64 z.op, int .i64 z.form, int .i64 z.field, int .i64 z.place, int .i64 x.to, int .i64 z.a, int .i64 z.b, int .i64 z.f.id, int .i64 z.f.kind, int .i64 z.f.lo, int .i64 z.f.hi, int .i64 z.f.most, int .i64 z.n, str z.s, lst .ro 1 (map (fun n => int .i64 n) z.t), lst .ro 5 (map fldV z.fields)]])) else (bif (n1 == (5 : Int)) then (A.chk true (A.chk true (next [lst .ro 1 (map (fun n => int .i64 n) l), int .i64 m, int .i64 (IntKind.i64.wrap (i + (1 : Int)))] [[int .i64 x.op, int .i64 x.form, int .i64 x.field, int .i64 x.place, int .i64 x.to, int .i64 x.a, int .i64 x.b, int .i64 x.f.id, int .i64 x.f.kind, int .i64 x.f.lo, int .i64 x.f.hi, int .i64 x.f.most, int .i64 x.n, str x.s, lst .ro 1 (map (fun n => int .i64 n) x.t), lst .ro 5 (map fldV x.fields)], [int .i64 y.op, int .i64 y.form, int .i64 y.field, int .i64 y.place, int .i64 y.to, int .i64 y.a, int .i64 y.b, int .i64 y.f.id, int .i64 y.f.kind, int .i64 y.f.lo, int .i64 y.f.hi, int .i64 y.f.most, int .i64 y.n, str y.s, lst .ro 1 (map (fun n => int .i64 n) y.t), lst .ro 5 (map fldV y.fields)], [int .i64 z.op, int .i64 z.form, int .i64 z.field, int .i64 z.place, int .i64 z.to, int .i64 x.a, int .i64 x.b, int .i64 z.f.id, int .i64 z.f.kind, int .i64 z.f.lo, int .i64 z.f.hi, int .i64 z.f.most, int .i64 z.n, str z.s, lst .ro 1 (map (fun n => int .i64 n) z.t), lst .ro 5 (map fldV z.fields)]]))) else (bif (n1 == (4 : Int)) then (A.chk true (next [lst .ro 1 (map (fun n => int .i64 n) l), int .i64 m, int .i64 (IntKind.i64.wrap (i + (1 : Int)))] [[int .i64 x.op, int .i64 x.form, int .i64 x.field, int .i64 x.place, int .i64 x.to, int .i64 x.a, int .i64 x.b, int .i64 x.f.id, int .i64 x.f.kind, int .i64 x.f.lo, int .i64 x.f.hi, int .i64 x.f.most, int .i64 x.n, str x.s, lst .ro 1 (map (fun n => int .i64 n) x.t), lst .ro 5 (map fldV x.fields)], [int .i64 y.op, int .i64 y.form, int .i64 y.field, int .i64 y.place, int .i64 y.to, int .i64 y.a, int .i64 y.b, int .i64 y.f.id, int .i64 y.f.kind, int .i64 y.f.lo, int .i64 y.f.hi, int .i64 y.f.most, int .i64 y.n, str y.s, lst .ro 1 (map (fun n => int .i64 n) y.t), lst .ro 5 (map fldV y.fields)], [int .i64 z.op, int .i64 z.form, int .i64 z.field, int .i64 z.place, int .i64 z.to, int .i64 x.a, int .i64 z.b, int .i64 z.f.id, int .i64 z.f.kind, int .i64 z.f.lo, int .i64 z.f.hi, int .i64 z.f.most, int .i64 z.n, str z.s, lst .ro 1 (map (fun n => int .i64 n) z.t), lst .ro 5 (map fldV z.fields)]])) else (bif (n1 == (6 : Int)) then (A.chk true (A.chk true (A.chk true (next [lst .ro 1 (map (fun n => int .i64 n) l), int .i64 m, int .i64 (IntKind.i64.wrap (i + (1 : Int)))] [[int .i64 x.op, int .i64 x.form, int .i64 x.field, int .i64 x.place, int .i64 x.to, int .i64 x.a, int .i64 x.b, int .i64 x.f.id, int .i64 x.f.kind, int .i64 x.f.lo, int .i64 x.f.hi, int .i64 x.f.most, int .i64 x.n, str x.s, lst .ro 1 (map (fun n => int .i64 n) x.t), lst .ro 5 (map fldV x.fields)], [int .i64 y.op, int .i64 y.form, int .i64 y.field, int .i64 y.place, int .i64 y.to, int .i64 y.a, int .i64 y.b, int .i64 y.f.id, int .i64 y.f.kind, int .i64 y.f.lo, int .i64 y.f.hi, int .i64 y.f.most, int .i64 y.n, str y.s, lst .ro 1 (map (fun n => int .i64 n) y.t), lst .ro 5 (map fldV y.fields)], [int .i64 z.op, int .i64 z.form, int .i64 z.field, int .i64 z.place, int .i64 z.to, int .i64 z.a, int .i64 z.b, int .i64 x.f.id, int .i64 x.f.kind, int .i64 x.f.lo, int .i64 x.f.hi, int .i64 x.f.most, int .i64 z.n, str z.s, lst .ro 1 (map (fun n => int .i64 n) z.t), lst .ro 5 (map fldV z.fields)]])))) else (bif (n1 == (7 : Int)) then (A.chk true (A.chk true (A.chk true (next [lst .ro 1 (map (fun n => int .i64 n) l), int .i64 m, int .i64 (IntKind.i64.wrap (i + (1 : Int)))] [[int .i64 x.op, int .i64 x.form, int .i64 x.field, int .i64 x.place, int .i64 x.to, int .i64 x.a, int .i64 x.b, int .i64 x.f.id, int .i64 x.f.kind, int .i64 x.f.lo, int .i64 x.f.hi, int .i64 x.f.most, int .i64 x.n, str x.s, lst .ro 1 (map (fun n => int .i64 n) x.t), lst .ro 5 (map fldV x.fields)], [int .i64 y.op, int .i64 y.form, int .i64 y.field, int .i64 y.place, int .i64 y.to, int .i64 y.a, int .i64 y.b, int .i64 y.f.id, int .i64 y.f.kind, int .i64 y.f.lo, int .i64 y.f.hi, int .i64 y.f.most, int .i64 y.n, str y.s, lst .ro 1 (map (fun n => int .i64 n) y.t), lst .ro 5 (map fldV y.fields)], [int .i64 z.op, int .i64 z.form, int .i64 z.field, int .i64 z.place, int .i64 z.to, int .i64 z.a, int .i64 z.b, int .i64 z.f.id, int .i64 z.f.kind, int .i64 z.f.lo, int .i64 z.f.hi, int .i64 z.f.most, int .i64 x.n, str x.s, lst .ro 1 (map (fun n => int .i64 n) z.t), lst .ro 5 (map fldV z.fields)]])))) else (bif (n1 == (8 : Int)) then (A.chk true (next [lst .ro 1 (map (fun n => int .i64 n) l), int .i64 m, int .i64 (IntKind.i64.wrap (i + (1 : Int)))] [[int .i64 x.op, int .i64 x.form, int .i64 x.field, int .i64 x.place, int .i64 x.to, int .i64 x.a, int .i64 x.b, int .i64 x.f.id, int .i64 x.f.kind, int .i64 x.f.lo, int .i64 x.f.hi, int .i64 x.f.most, int .i64 x.n, str x.s, lst .ro 1 (map (fun n => int .i64 n) x.t), lst .ro 5 (map fldV x.fields)], [int .i64 y.op, int .i64 y.form, int .i64 y.field, int .i64 y.place, int .i64 y.to, int .i64 y.a, int .i64 y.b, int .i64 y.f.id, int .i64 y.f.kind, int .i64 y.f.lo, int .i64 y.f.hi, int .i64 y.f.most, int .i64 y.n, str y.s, lst .ro 1 (map (fun n => int .i64 n) y.t), lst .ro 5 (map fldV y.fields)], [int .i64 z.op, int .i64 z.form, int .i64 z.field, int .i64 z.place, int .i64 z.to, int .i64 z.a, int .i64 z.b, int .i64 z.f.id, int .i64 z.f.kind, int .i64 z.f.lo, int .i64 z.f.hi, int .i64 z.f.most, int .i64 z.n, str z.s, lst .ro 1 (map (fun n => int .i64 n) x.t), lst .ro 5 (map fldV z.fields)]])) else (bif (n1 == (9 : Int)) then (A.chk true (next [lst .ro 1 (map (fun n => int .i64 n) l), int .i64 m, int .i64 (IntKind.i64.wrap (i + (1 : Int)))] [[int .i64 x.op, int .i64 x.form, int .i64 x.field, int .i64 x.place, int .i64 x.to, int .i64 x.a, int .i64 x.b, int .i64 x.f.id, int .i64 x.f.kind, int .i64 x.f.lo, int .i64 x.f.hi, int .i64 x.f.most, int .i64 x.n, str x.s, lst .ro 1 (map (fun n => int .i64 n) x.t), lst .ro 5 (map fldV x.fields)], [int .i64 y.op, int .i64 y.form, int .i64 y.field, int .i64 y.place, int .i64 y.to, int .i64 y.a, int .i64 y.b, int .i64 y.f.id, int .i64 y.f.kind, int .i64 y.f.lo, int .i64 y.f.hi, int .i64 y.f.most, int .i64 y.n, str y.s, lst .ro 1 (map (fun n => int .i64 n) y.t), lst .ro 5 (map fldV y.fields)], [int .i64 z.op, int .i64 z.form, int .i64 z.field, int .i64 z.place, int .i64 z.to, int .i64 z.a, int .i64 z.b, int .i64 z.f.id, int .i64 z.f.kind, int .i64 z.f.lo, int .i64 z.f.hi, int .i64 z.f.most, int .i64 z.n, str z.s, lst .ro 1 (map (fun n => int .i64 n) z.t), lst .ro 5 (map fldV x.fields)]])) else (next [lst .ro 1 (map (fun n => int .i64 n) l), int .i64 m, int .i64 (IntKind.i64.wrap (i + (1 : Int)))] [[int .i64 x.op, int .i64 x.form, int .i64 x.field, int .i64 x.place, int .i64 x.to, int .i64 x.a, int .i64 x.b, int .i64 x.f.id, int .i64 x.f.kind, int .i64 x.f.lo, int .i64 x.f.hi, int .i64 x.f.most, int .i64 x.n, str x.s, lst .ro 1 (map (fun n => int .i64 n) x.t), lst .ro 5 (map fldV x.fields)], [int .i64 y.op, int .i64 y.form, int .i64 y.field, int .i64 y.place, int .i64 y.to, int .i64 y.a, int .i64 y.b, int .i64 y.f.id, int .i64 y.f.kind, int .i64 y.f.lo, int .i64 y.f.hi, int .i64 y.f.most, int .i64 y.n, str y.s, lst .ro 1 (map (fun n => int .i64 n) y.t), lst .ro 5 (map fldV y.fields)], [int .i64 z.op, int .i64 z.form, int .i64 z.field, int .i64 z.place, int .i64 z.to, int .i64 z.a, int .i64 z.b, int .i64 z.f.id, int .i64 z.f.kind, int .i64 z.f.lo, int .i64 z.f.hi, int .i64 z.f.most, int .i64 z.n, str z.s, lst .ro 1 (map (fun n => int .i64 n) z.t), lst .ro 5 (map fldV z.fields)]])))))))))))) else (kc 1 [] [[int .i64 y.op, int .i64 y.form, int .i64 y.field, int .i64 y.place, int .i64 y.to, int .i64 y.a, int .i64 y.b, int .i64 y.f.id, int .i64 y.f.kind, int .i64 y.f.lo, int .i64 y.f.hi, int .i64 y.f.most, int .i64 y.n, str y.s, lst .ro 1 (map (fun n => int .i64 n) y.t), lst .ro 5 (map fldV y.fields)], [int .i64 z.op, int .i64 z.form, int .i64 z.field, int .i64 z.place, int .i64 z.to, int .i64 z.a, int .i64 z.b, int .i64 z.f.id, int .i64 z.f.kind, int .i64 z.f.lo, int .i64 z.f.hi, int .i64 z.f.most, int .i64 z.n, str z.s, lst .ro 1 (map (fun n => int .i64 n) z.t), lst .ro 5 (map fldV z.fields)]])
def s_tapart {α : Type} (A : Alg α) (l : List Int) (below : Int) (kc : List AV → List (Nat × List AV) → α) : α :=
  A.asm ((map (fun n => int .i64 n) l).length ≤ maxL) (A.chk true (A.loop 3 [lst .ro 1 (map (fun n => int .i64 n) l), int .i64 below, lst .ro 1 (map (fun n => int .i64 n) l), int .i64 (↑(map (fun n => int .i64 n) l).length : Int), int .i64 0] [(List.replicate 1000 (bool false))] fun j0 l1 l2 => bif (j0.beq 0) then (asC A l1 fun v3 l4 => asB A v3 fun b5 => asN A l4 (asN A l2 (kc [bool b5] []))) else (bif (j0.beq 1) then (asC A l1 fun v6 l7 => asL A 1 v6 fun l8 => asN A l7 (asN A l2 (A.asm (l8.length ≤ maxL) (A.callx 107 [int .i64 (↑l8.length : Int), int .i64 1, int .i64 64] fun l9 => asC A l9 fun v10 l11 => asB A v10 fun b12 => asN A l11 (kc [bool b12] []))))) else A.fail)))
def s_tapartL {α : Type} (A : Alg α) (l : List Int) (below : Int) (m : Int) (i : Int) (seen : List Bool) (next : List AV → List (List AV) → α) (kc : Nat → List AV → List (List AV) → α) : α :=
  bif (decide (i < m)) then (A.chk (decide ((0 : Int) ≤ i)) (nthE A (map (fun n => int .i64 n) l) i.toNat fun v0 => asI A .i64 v0 fun n1 => A.join (fun x2 => A.callx 107 [int .i64 n1, int .i64 0, int .i64 (IntKind.i64.wrap (below - (1 : Int)))] fun l3 => asC A l3 fun v4 l5 => asB A v4 fun b6 => asN A l5 (bif (!b6) then (x2 true) else (A.chk (decide ((0 : Int) ≤ n1) && decide (n1 < (↑(1000 : Nat) : Int))) (nthE A (map bool seen) ((0 : Nat) + n1.toNat * 1) fun v7 => asB A v7 fun b8 => x2 b8)))) fun b9 => bif b9 then (kc 0 [bool false] []) else (A.chk (decide ((0 : Int) ≤ n1) && decide (n1 < (↑(1000 : Nat) : Int))) (A.chk (((0 : Nat) + n1.toNat * 1 + (1 : Nat)).ble (map bool seen).length) (A.chk ((setAt (map bool seen) ((0 : Nat) + n1.toNat * 1) [bool true]).all AV.flat1) (next [lst .ro 1 (map (fun n => int .i64 n) l), int .i64 below, lst .ro 1 (map (fun n => int .i64 n) l), int .i64 m, int .i64 (IntKind.i64.wrap (i + (1 : Int)))] [(setAt (map bool seen) ((0 : Nat) + n1.toNat * 1) [bool true])])))))) else (kc 1 [lst .ro 1 (map (fun n => int .i64 n) l)] [])
def s_tfits {α : Type} (A : Alg α) (x : Stp) (p : Int) (kc : List AV → List (Nat × List AV) → α) : α :=
  A.chk true (bif (p == (0 : Int)) then (A.callx 107 [int .i64 x.form, int .i64 0, int .i64 200] fun l0 => asC A l0 fun v1 l2 => asB A v1 fun b3 => asN A l2 (kc [bool b3] [])) else (bif (p == (1 : Int)) then (A.callx 107 [int .i64 x.field, int .i64 0, int .i64 255] fun l4 => asC A l4 fun v5 l6 => asB A v5 fun b7 => asN A l6 (kc [bool b7] [])) else (bif (p == (2 : Int)) then (A.callx 107 [int .i64 x.place, int .i64 0, int .i64 8] fun l8 => asC A l8 fun v9 l10 => asB A v9 fun b11 => asN A l10 (kc [bool b11] [])) else (bif (p == (3 : Int)) then (A.join (fun x12 => A.callx 107 [int .i64 x.to, int .i64 0, int .i64 255] fun l13 => asC A l13 fun v14 l15 => asB A v14 fun b16 => asN A l15 (bif b16 then (x12 (x.to != x.field)) else (x12 false))) fun b17 => kc [bool b17] []) else (bif (p == (4 : Int)) then (A.join (fun x18 => bif (x.op == (5 : Int)) then (A.callx 107 [int .i64 x.a, int .i64 1, int .i64 1000] fun l19 => asC A l19 fun v20 l21 => asB A v20 fun b22 => asN A l21 (bif b22 then (x18 true) else (bif (x.op != (5 : Int)) then (A.callx 107 [int .i64 x.a, int .i64 2, int .i64 1048576] fun l23 => asC A l23 fun v24 l25 => asB A v24 fun b26 => asN A l25 (x18 b26)) else (x18 false)))) else (bif (x.op != (5 : Int)) then (A.callx 107 [int .i64 x.a, int .i64 2, int .i64 1048576] fun l27 => asC A l27 fun v28 l29 => asB A v28 fun b30 => asN A l29 (x18 b30)) else (x18 false))) fun b31 => kc [bool b31] []) else (bif (p == (5 : Int)) then (A.join (fun x32 => A.callx 107 [int .i64 x.a, int .i64 (-1048576), int .i64 1048576] fun l33 => asC A l33 fun v34 l35 => asB A v34 fun b36 => asN A l35 (bif b36 then (bif (x.a != (0 : Int)) then (A.callx 107 [int .i64 x.b, int .i64 (-1099511627776), int .i64 1099511627776] fun l37 => asC A l37 fun v38 l39 => asB A v38 fun b40 => asN A l39 (x32 b40)) else (x32 false)) else (x32 false))) fun b41 => kc [bool b41] []) else (bif (p == (6 : Int)) then (A.join (fun x42 => bif (x.op == (1 : Int)) then (x42 true) else (bif (x.op == (22 : Int)) then (x42 true) else (x42 (x.f.id == x.field)))) fun b43 => A.join (fun x44 => A.chk true (A.callx 106 [agg [int .i64 x.f.id, int .i64 x.f.kind, int .i64 x.f.lo, int .i64 x.f.hi, int .i64 x.f.most]] fun l45 => asC A l45 fun v46 l47 => asB A v46 fun b48 => asN A l47 (bif b48 then (x44 b43) else (x44 false)))) fun b49 => kc [bool b49] []) else (bif (p == (7 : Int)) then (bif (x.op == (2 : Int)) then (A.join (fun x50 => A.callx 107 [int .i64 x.n, int .i64 (-1099511627776), int .i64 1099511627776] fun l51 => asC A l51 fun v52 l53 => asB A v52 fun b54 => asN A l53 (bif b54 then (A.asm (x.s.length ≤ maxL) (x50 (decide ((↑x.s.length : Int) ≤ (32 : Int))))) else (x50 false))) fun b55 => kc [bool b55] []) else (A.chk true (A.chk true (A.callx 108 [agg [int .i64 x.f.id, int .i64 x.f.kind, int .i64 x.f.lo, int .i64 x.f.hi, int .i64 x.f.most], agg [int .i64 x.n, str x.s]] fun l56 => asC A l56 fun v57 l58 => asB A v57 fun b59 => asN A l58 (kc [bool b59] []))))) else (bif (p == (8 : Int)) then (bif (x.op == (5 : Int)) then (A.callx 109 [lst .ro 1 (map (fun n => int .i64 n) x.t), int .i64 x.a] fun l60 => asC A l60 fun v61 l62 => asB A v61 fun b63 => asN A l62 (kc [bool b63] [])) else (A.callx 109 [lst .ro 1 (map (fun n => int .i64 n) x.t), int .i64 1000] fun l64 => asC A l64 fun v65 l66 => asB A v65 fun b67 => asN A l66 (kc [bool b67] []))) else (A.chk true (A.chk true (A.callx 83 [agg [int .i64 x.form, lst .ro 5 (map fldV x.fields)]] fun l68 => asC A l68 fun v69 l70 => asB A v69 fun b71 => asN A l70 (kc [bool b71] [])))))))))))))
def s_tRight {α : Type} (A : Alg α) (x : Stp) (kc : List AV → List (Nat × List AV) → α) : α :=
  A.chk true (A.callx 59 [int .i64 x.op] fun l0 => asC A l0 fun v1 l2 => asL A 1 v1 fun l3 => asN A l2 (A.asm (l3.length ≤ maxL) (A.loop 3 [lst .ro 1 l3, lst .ro 1 l3, int .i64 (↑l3.length : Int), int .i64 0] [[int .i64 x.op, int .i64 x.form, int .i64 x.field, int .i64 x.place, int .i64 x.to, int .i64 x.a, int .i64 x.b, int .i64 x.f.id, int .i64 x.f.kind, int .i64 x.f.lo, int .i64 x.f.hi, int .i64 x.f.most, int .i64 x.n, str x.s, lst .ro 1 (map (fun n => int .i64 n) x.t), lst .ro 5 (map fldV x.fields)]] fun j4 l5 l6 => bif (j4.beq 0) then (asC A l5 fun v7 l8 => asB A v7 fun b9 => asN A l8 (asN A l6 (kc [bool b9] []))) else (bif (j4.beq 1) then (asC A l5 fun v10 l11 => asL A 1 v10 fun l12 => asN A l11 (asC A l6 fun l13 l14 => asC A l13 fun v15 l16 => asI A .i64 v15 fun n17 => asC A l16 fun v18 l19 => asI A .i64 v18 fun n20 => asC A l19 fun v21 l22 => asI A .i64 v21 fun n23 => asC A l22 fun v24 l25 => asI A .i64 v24 fun n26 => asC A l25 fun v27 l28 => asI A .i64 v27 fun n29 => asC A l28 fun v30 l31 => asI A .i64 v30 fun n32 => asC A l31 fun v33 l34 => asI A .i64 v33 fun n35 => asC A l34 fun v36 l37 => asI A .i64 v36 fun n38 => asC A l37 fun v39 l40 => asI A .i64 v39 fun n41 => asC A l40 fun v42 l43 => asI A .i64 v42 fun n44 => asC A l43 fun v45 l46 => asI A .i64 v45 fun n47 => asC A l46 fun v48 l49 => asI A .i64 v48 fun n50 => asC A l49 fun v51 l52 => asI A .i64 v51 fun n53 => asC A l52 fun v54 l55 => asS A v54 fun l56 => asC A l55 fun v57 l58 => asL A 1 v57 fun l59 => asC A l58 fun v60 l61 => asL A 5 v60 fun l62 => asN A l61 (asN A l14 (A.asm (l12.length ≤ maxL) (bif (decide ((↑l12.length : Int) > (0 : Int))) then (A.chk true (A.chk true (A.callx 87 [agg [int .i64 n17, int .i64 n20, int .i64 n23, int .i64 n26, int .i64 n29, int .i64 n32, int .i64 n35, int .i64 n38, int .i64 n41, int .i64 n44, int .i64 n47, int .i64 n50, int .i64 n53, str l56, lst .ro 1 l59, lst .ro 5 l62]] fun l63 => asC A l63 fun v64 l65 => asA A v64 fun l66 => asC A l66 fun v67 l68 => asI A .i64 v67 fun n69 => asC A l68 fun v70 l71 => asI A .i64 v70 fun n72 => asC A l71 fun v73 l74 => asI A .i64 v73 fun n75 => asC A l74 fun v76 l77 => asI A .i64 v76 fun n78 => asC A l77 fun v79 l80 => asI A .i64 v79 fun n81 => asC A l80 fun v82 l83 => asI A .i64 v82 fun n84 => asC A l83 fun v85 l86 => asI A .i64 v85 fun n87 => asC A l86 fun v88 l89 => asI A .i64 v88 fun n90 => asC A l89 fun v91 l92 => asI A .i64 v91 fun n93 => asC A l92 fun v94 l95 => asI A .i64 v94 fun n96 => asC A l95 fun v97 l98 => asI A .i64 v97 fun n99 => asC A l98 fun v100 l101 => asI A .i64 v100 fun n102 => asC A l101 fun v103 l104 => asI A .i64 v103 fun n105 => asC A l104 fun v106 l107 => asS A v106 fun l108 => asC A l107 fun v109 l110 => asL A 1 v109 fun l111 => asC A l110 fun v112 l113 => asL A 5 v112 fun l114 => asN A l113 (asN A l65 (A.callx 86 [agg [int .i64 n17, int .i64 n20, int .i64 n23, int .i64 n26, int .i64 n29, int .i64 n32, int .i64 n35, int .i64 n38, int .i64 n41, int .i64 n44, int .i64 n47, int .i64 n50, int .i64 n53, str l56, lst .ro 1 l59, lst .ro 5 l62], agg [int .i64 n69, int .i64 n72, int .i64 n75, int .i64 n78, int .i64 n81, int .i64 n84, int .i64 n87, int .i64 n90, int .i64 n93, int .i64 n96, int .i64 n99, int .i64 n102, int .i64 n105, str l108, lst .ro 1 l111, lst .ro 5 l114]] fun l115 => asC A l115 fun v116 l117 => asB A v116 fun b118 => asN A l117 (kc [bool b118] [])))))) else (kc [bool false] [])))))) else A.fail))))
def s_tRightL {α : Type} (A : Alg α) (x : Stp) (l : List Int) (q : List Int) (m : Int) (i : Int) (next : List AV → List (List AV) → α) (kc : Nat → List AV → List (List AV) → α) : α :=
  bif (decide (i < m)) then (A.chk (decide ((0 : Int) ≤ i)) (nthE A (map (fun n => int .i64 n) q) i.toNat fun v0 => asI A .i64 v0 fun n1 => A.chk true (A.callx 85 [agg [int .i64 x.op, int .i64 x.form, int .i64 x.field, int .i64 x.place, int .i64 x.to, int .i64 x.a, int .i64 x.b, int .i64 x.f.id, int .i64 x.f.kind, int .i64 x.f.lo, int .i64 x.f.hi, int .i64 x.f.most, int .i64 x.n, str x.s, lst .ro 1 (map (fun n => int .i64 n) x.t), lst .ro 5 (map fldV x.fields)], int .i64 n1] fun l2 => asC A l2 fun v3 l4 => asB A v3 fun b5 => asN A l4 (bif (!b5) then (kc 0 [bool false] []) else (next [lst .ro 1 (map (fun n => int .i64 n) l), lst .ro 1 (map (fun n => int .i64 n) q), int .i64 m, int .i64 (IntKind.i64.wrap (i + (1 : Int)))] [[int .i64 x.op, int .i64 x.form, int .i64 x.field, int .i64 x.place, int .i64 x.to, int .i64 x.a, int .i64 x.b, int .i64 x.f.id, int .i64 x.f.kind, int .i64 x.f.lo, int .i64 x.f.hi, int .i64 x.f.most, int .i64 x.n, str x.s, lst .ro 1 (map (fun n => int .i64 n) x.t), lst .ro 5 (map fldV x.fields)]]))))) else (kc 1 [lst .ro 1 (map (fun n => int .i64 n) l)] [[int .i64 x.op, int .i64 x.form, int .i64 x.field, int .i64 x.place, int .i64 x.to, int .i64 x.a, int .i64 x.b, int .i64 x.f.id, int .i64 x.f.kind, int .i64 x.f.lo, int .i64 x.f.hi, int .i64 x.f.most, int .i64 x.n, str x.s, lst .ro 1 (map (fun n => int .i64 n) x.t), lst .ro 5 (map fldV x.fields)]])
def s_tSame {α : Type} (A : Alg α) (x : Stp) (y : Stp) (kc : List AV → List (Nat × List AV) → α) : α :=
  A.chk true (A.chk true (A.join (fun x0 => A.callx 110 [lst .ro 1 (map (fun n => int .i64 n) x.t), lst .ro 1 (map (fun n => int .i64 n) y.t)] fun l1 => asC A l1 fun v2 l3 => asB A v2 fun b4 => asN A l3 (bif b4 then (A.callx 111 [lst .ro 5 (map fldV x.fields), lst .ro 5 (map fldV y.fields)] fun l5 => asC A l5 fun v6 l7 => asB A v6 fun b8 => asN A l7 (x0 b8)) else (x0 false))) fun b9 => A.chk true (A.chk true (A.chk true (A.chk true (A.chk true (A.chk true (A.chk true (A.chk true (A.chk true (A.join (fun x10 => bif b9 then (A.chk true (bif (IntKind.i64.wrap (x.op - y.op) == (0 : Int) && (IntKind.i64.wrap (x.form - y.form) == (0 : Int) && (IntKind.i64.wrap (x.field - y.field) == (0 : Int) && (IntKind.i64.wrap (x.place - y.place) == (0 : Int) && (IntKind.i64.wrap (x.to - y.to) == (0 : Int) && (IntKind.i64.wrap (x.a - y.a) == (0 : Int) && (IntKind.i64.wrap (x.b - y.b) == (0 : Int) && true))))))) then (A.chk true (A.chk true (bif (x.f.id == y.f.id && (x.f.kind == y.f.kind && (x.f.lo == y.f.lo && (x.f.hi == y.f.hi && (x.f.most == y.f.most && true))))) then (A.chk true (A.chk true (x10 (x.n == y.n && (x.s == y.s && true))))) else (x10 false)))) else (x10 false))) else (x10 false)) fun b11 => kc [bool b11] [])))))))))))
def s_EqualI {α : Type} (A : Alg α) (a : List Int) (b : List Int) (kc : List AV → List (Nat × List AV) → α) : α :=
  A.asm ((map (fun n => int .i64 n) a).length ≤ maxL) (A.asm ((map (fun n => int .i64 n) b).length ≤ maxL) (bif ((↑(map (fun n => int .i64 n) a).length : Int) != (↑(map (fun n => int .i64 n) b).length : Int)) then (kc [bool false] []) else (A.asm ((map (fun n => int .i64 n) a).length ≤ maxL) (A.loop 4 [lst .ro 1 (map (fun n => int .i64 n) a), lst .ro 1 (map (fun n => int .i64 n) b), int .i64 (↑(map (fun n => int .i64 n) a).length : Int), int .i64 0] [] fun j0 l1 l2 => bif (j0.beq 0) then (asC A l1 fun v3 l4 => asB A v3 fun b5 => asN A l4 (asN A l2 (kc [bool b5] []))) else (bif (j0.beq 1) then (asN A l1 (asN A l2 (kc [bool true] []))) else A.fail)))))
def s_EqualIL {α : Type} (A : Alg α) (a : List Int) (b : List Int) (m : Int) (i : Int) (next : List AV → List (List AV) → α) (kc : Nat → List AV → List (List AV) → α) : α :=
  bif (decide (i < m)) then (A.chk (decide ((0 : Int) ≤ i)) (nthE A (map (fun n => int .i64 n) a) i.toNat fun v0 => asI A .i64 v0 fun n1 => A.chk (decide ((0 : Int) ≤ i)) (nthE A (map (fun n => int .i64 n) b) i.toNat fun v2 => asI A .i64 v2 fun n3 => bif (n1 != n3) then (kc 0 [bool false] []) else (next [lst .ro 1 (map (fun n => int .i64 n) a), lst .ro 1 (map (fun n => int .i64 n) b), int .i64 m, int .i64 (IntKind.i64.wrap (i + (1 : Int)))] [])))) else (kc 1 [] [])
def s_fHas {α : Type} (A : Alg α) (f : Fld) (n : Int) (s : List UInt8) (kc : List AV → List (Nat × List AV) → α) : α :=
  A.chk true (A.chk true (A.chk true (A.callx 116 [agg [int .i64 f.id, int .i64 f.kind, int .i64 f.lo, int .i64 f.hi, int .i64 f.most]] fun l0 => asC A l0 fun v1 l2 => asI A .i64 v1 fun n3 => asC A l2 fun v4 l5 => asI A .i64 v4 fun n6 => asN A l5 (bif (f.kind == (4 : Int)) then (A.join (fun x7 => A.chk true (A.callx 106 [agg [int .i64 f.id, int .i64 f.kind, int .i64 f.lo, int .i64 f.hi, int .i64 f.most]] fun l8 => asC A l8 fun v9 l10 => asB A v9 fun b11 => asN A l10 (bif b11 then (bif (decide (n ≥ n3)) then (bif (decide (n ≤ n6)) then (A.asm (s.length ≤ maxL) (x7 (decide ((↑s.length : Int) ≤ f.most)))) else (x7 false)) else (x7 false)) else (x7 false)))) fun b12 => kc [bool b12] []) else (A.join (fun x13 => A.chk true (A.callx 106 [agg [int .i64 f.id, int .i64 f.kind, int .i64 f.lo, int .i64 f.hi, int .i64 f.most]] fun l14 => asC A l14 fun v15 l16 => asB A v15 fun b17 => asN A l16 (bif b17 then (bif (decide (n ≥ n3)) then (bif (decide (n ≤ n6)) then (A.asm (s.length ≤ maxL) (x13 (decide ((↑s.length : Int) ≤ (0 : Int))))) else (x13 false)) else (x13 false)) else (x13 false)))) fun b18 => kc [bool b18] [])))))
def s_yHas {α : Type} (A : Alg α) (f : Fld) (n : Int) (s : List UInt8) (kc : List AV → List (Nat × List AV) → α) : α :=
  A.chk true (A.chk true (A.chk true (A.callx 112 [agg [int .i64 f.id, int .i64 f.kind, int .i64 f.lo, int .i64 f.hi, int .i64 f.most]] fun l0 => asC A l0 fun v1 l2 => asI A .i64 v1 fun n3 => asC A l2 fun v4 l5 => asI A .i64 v4 fun n6 => asC A l5 fun v7 l8 => asI A .i64 v7 fun n9 => asC A l8 fun v10 l11 => asB A v10 fun b12 => asN A l11 (A.join (fun x13 => bif b12 then (bif (decide (n ≥ n3)) then (bif (decide (n ≤ n6)) then (A.asm (s.length ≤ maxL) (x13 (decide ((↑s.length : Int) ≤ n9)))) else (x13 false)) else (x13 false)) else (x13 false)) fun b14 => kc [bool b14] []))))
def s_yuses {α : Type} (A : Alg α) (op : Int) (kc : List AV → List (Nat × List AV) → α) : α :=
  bif (op == (1 : Int)) then (A.loop 1000004 [int .i64 op, bool true] [] fun j0 l1 l2 => bif (j0.beq 50001) then (asN A l1 (asN A l2 (kc [str []] []))) else (bif (j0.beq 0) then (asC A l1 fun v3 l4 => asS A v3 fun l5 => asN A l4 (asN A l2 (kc [str l5] []))) else A.fail)) else (A.loop 1000004 [int .i64 op, bool (op == (22 : Int))] [] fun j6 l7 l8 => bif (j6.beq 50001) then (asN A l7 (asN A l8 (kc [str []] []))) else (bif (j6.beq 0) then (asC A l7 fun v9 l10 => asS A v9 fun l11 => asN A l10 (asN A l8 (kc [str l11] []))) else A.fail))
def s_yusesA {α : Type} (A : Alg α) (op : Int) (b : Bool) (next : List AV → List (List AV) → α) (kc : Nat → List AV → List (List AV) → α) : α :=
  bif b then (kc 0 [str [(102 : UInt8), (112 : UInt8), (70 : UInt8), (86 : UInt8)]] []) else (bif (op == (2 : Int)) then (kc 0 [str [(102 : UInt8), (100 : UInt8), (86 : UInt8)]] []) else (bif (op == (3 : Int)) then (A.loop 1000009 [int .i64 op, bool true] [] fun j0 l1 l2 => bif (j0.beq 50001) then (asN A l1 (asN A l2 (kc 50001 [] []))) else (bif (j0.beq 0) then (asC A l1 fun v3 l4 => asS A v3 fun l5 => asN A l4 (asN A l2 (kc 0 [str l5] []))) else A.fail)) else (A.loop 1000009 [int .i64 op, bool (op == (23 : Int))] [] fun j6 l7 l8 => bif (j6.beq 50001) then (asN A l7 (asN A l8 (kc 50001 [] []))) else (bif (j6.beq 0) then (asC A l7 fun v9 l10 => asS A v9 fun l11 => asN A l10 (asN A l8 (kc 0 [str l11] []))) else A.fail))))
def s_yusesB {α : Type} (A : Alg α) (op : Int) (b : Bool) (next : List AV → List (List AV) → α) (kc : Nat → List AV → List (List AV) → α) : α :=
  bif b then (kc 0 [str [(102 : UInt8), (100 : UInt8), (70 : UInt8)]] []) else (bif (op == (4 : Int)) then (kc 0 [str [(102 : UInt8), (100 : UInt8), (98 : UInt8)]] []) else (bif (op == (24 : Int)) then (kc 0 [str [(102 : UInt8), (100 : UInt8), (98 : UInt8), (70 : UInt8)]] []) else (bif (op == (5 : Int)) then (kc 0 [str [(102 : UInt8), (100 : UInt8), (97 : UInt8), (84 : UInt8)]] []) else (bif (op == (25 : Int)) then (kc 0 [str [(102 : UInt8), (100 : UInt8), (84 : UInt8)]] []) else (bif (op == (6 : Int)) then (kc 0 [str [(102 : UInt8), (100 : UInt8), (97 : UInt8), (116 : UInt8)]] []) else (bif (op == (26 : Int)) then (kc 0 [str [(102 : UInt8), (100 : UInt8), (97 : UInt8), (116 : UInt8), (70 : UInt8)]] []) else (bif (op == (7 : Int)) then (kc 0 [str [(102 : UInt8), (100 : UInt8), (112 : UInt8)]] []) else (bif (op == (27 : Int)) then (kc 0 [str [(102 : UInt8), (100 : UInt8), (112 : UInt8)]] []) else (bif (op == (8 : Int)) then (kc 0 [str [(102 : UInt8), (100 : UInt8), (116 : UInt8)]] []) else (bif (op == (28 : Int)) then (kc 0 [str [(102 : UInt8), (100 : UInt8), (116 : UInt8)]] []) else (bif (op == (9 : Int)) then (kc 0 [str [(102 : UInt8), (76 : UInt8)]] []) else (bif (op == (30 : Int)) then (kc 0 [str [(102 : UInt8), (76 : UInt8)]] []) else (bif (op == (10 : Int)) then (kc 0 [str [(102 : UInt8)]] []) else (bif (op == (29 : Int)) then (kc 0 [str [(102 : UInt8)]] []) else (bif (op == (21 : Int)) then (kc 0 [str [(102 : UInt8), (100 : UInt8)]] []) else (kc 50001 [] []))))))))))))))))
def s_yhas {α : Type} (A : Alg α) (op : Int) (c : Int) (kc : List AV → List (Nat × List AV) → α) : α :=
  A.callx 92 [int .i64 op] fun l0 => asC A l0 fun v1 l2 => asS A v1 fun l3 => asN A l2 (A.loop 3 [int .u8 c, str l3, int .i64 0] [] fun j4 l5 l6 => bif (j4.beq 0) then (asC A l5 fun v7 l8 => asB A v7 fun b9 => asN A l8 (asN A l6 (kc [bool b9] []))) else (bif (j4.beq 1) then (asN A l5 (asN A l6 (kc [bool false] []))) else A.fail))
def s_yhasL {α : Type} (A : Alg α) (c : Int) (i : Int) (s : List UInt8) (next : List AV → List (List AV) → α) (kc : Nat → List AV → List (List AV) → α) : α :=
  A.asm (s.length ≤ maxL) (bif (decide (i < (↑s.length : Int))) then (A.chk (decide ((0 : Int) ≤ i)) (nthE A s i.toNat fun x0 => bif ((↑x0.toNat : Int) == c) then (kc 0 [bool true] []) else (next [int .u8 c, str s, int .i64 (IntKind.i64.wrap (i + (1 : Int)))] []))) else (kc 1 [] []))
def s_yzero {α : Type} (A : Alg α) (x : Stp) (kc : List AV → List (Nat × List AV) → α) : α :=
  A.chk true (A.join (fun x0 => A.callx 96 [int .i64 x.op, int .u8 100] fun l1 => asC A l1 fun v2 l3 => asB A v2 fun b4 => asN A l3 (bif b4 then (A.callx 96 [int .i64 x.op, int .u8 112] fun l5 => asC A l5 fun v6 l7 => asB A v6 fun b8 => asN A l7 (bif b8 then (A.callx 96 [int .i64 x.op, int .u8 116] fun l9 => asC A l9 fun v10 l11 => asB A v10 fun b12 => asN A l11 (bif b12 then (x0 true) else (x0 (x.to == (0 : Int))))) else (bif (x.place == (0 : Int)) then (A.callx 96 [int .i64 x.op, int .u8 116] fun l13 => asC A l13 fun v14 l15 => asB A v14 fun b16 => asN A l15 (bif b16 then (x0 true) else (x0 (x.to == (0 : Int))))) else (x0 false)))) else (bif (x.field == (0 : Int)) then (A.callx 96 [int .i64 x.op, int .u8 112] fun l17 => asC A l17 fun v18 l19 => asB A v18 fun b20 => asN A l19 (bif b20 then (A.callx 96 [int .i64 x.op, int .u8 116] fun l21 => asC A l21 fun v22 l23 => asB A v22 fun b24 => asN A l23 (bif b24 then (x0 true) else (x0 (x.to == (0 : Int))))) else (bif (x.place == (0 : Int)) then (A.callx 96 [int .i64 x.op, int .u8 116] fun l25 => asC A l25 fun v26 l27 => asB A v26 fun b28 => asN A l27 (bif b28 then (x0 true) else (x0 (x.to == (0 : Int))))) else (x0 false)))) else (x0 false)))) fun b29 => A.join (fun x30 => bif b29 then (A.callx 96 [int .i64 x.op, int .u8 97] fun l31 => asC A l31 fun v32 l33 => asB A v32 fun b34 => asN A l33 (bif b34 then (A.callx 96 [int .i64 x.op, int .u8 98] fun l35 => asC A l35 fun v36 l37 => asB A v36 fun b38 => asN A l37 (bif b38 then (x30 true) else (x30 (x.b == (0 : Int))))) else (A.callx 96 [int .i64 x.op, int .u8 98] fun l39 => asC A l39 fun v40 l41 => asB A v40 fun b42 => asN A l41 (bif b42 then (A.callx 96 [int .i64 x.op, int .u8 98] fun l43 => asC A l43 fun v44 l45 => asB A v44 fun b46 => asN A l45 (bif b46 then (x30 true) else (x30 (x.b == (0 : Int))))) else (bif (x.a == (0 : Int)) then (A.callx 96 [int .i64 x.op, int .u8 98] fun l47 => asC A l47 fun v48 l49 => asB A v48 fun b50 => asN A l49 (bif b50 then (x30 true) else (x30 (x.b == (0 : Int))))) else (x30 false)))))) else (x30 false)) fun b51 => A.join (fun x52 => bif b51 then (A.callx 96 [int .i64 x.op, int .u8 70] fun l53 => asC A l53 fun v54 l55 => asB A v54 fun b56 => asN A l55 (bif b56 then (A.callx 96 [int .i64 x.op, int .u8 86] fun l57 => asC A l57 fun v58 l59 => asB A v58 fun b60 => asN A l59 (bif b60 then (x52 true) else (A.chk true (x52 (x.n == (0 : Int) && (x.s == [] && true)))))) else (A.chk true (bif (x.f.id == (0 : Int) && (x.f.kind == (0 : Int) && (x.f.lo == (0 : Int) && (x.f.hi == (0 : Int) && (x.f.most == (0 : Int) && true))))) then (A.callx 96 [int .i64 x.op, int .u8 86] fun l61 => asC A l61 fun v62 l63 => asB A v62 fun b64 => asN A l63 (bif b64 then (x52 true) else (A.chk true (x52 (x.n == (0 : Int) && (x.s == [] && true)))))) else (x52 false))))) else (x52 false)) fun b65 => A.join (fun x66 => bif b65 then (A.callx 96 [int .i64 x.op, int .u8 84] fun l67 => asC A l67 fun v68 l69 => asB A v68 fun b70 => asN A l69 (bif b70 then (A.callx 96 [int .i64 x.op, int .u8 76] fun l71 => asC A l71 fun v72 l73 => asB A v72 fun b74 => asN A l73 (bif b74 then (x66 true) else (A.asm ((map fldV x.fields).length ≤ maxL) (x66 ((↑(map fldV x.fields).length : Int) == (0 : Int)))))) else (A.asm ((map (fun n => int .i64 n) x.t).length ≤ maxL) (bif ((↑(map (fun n => int .i64 n) x.t).length : Int) == (0 : Int)) then (A.callx 96 [int .i64 x.op, int .u8 76] fun l75 => asC A l75 fun v76 l77 => asB A v76 fun b78 => asN A l77 (bif b78 then (x66 true) else (A.asm ((map fldV x.fields).length ≤ maxL) (x66 ((↑(map fldV x.fields).length : Int) == (0 : Int)))))) else (x66 false))))) else (x66 false)) fun b79 => kc [bool b79] [])
def s_ybetween {α : Type} (A : Alg α) (n : Int) (lo : Int) (hi : Int) (kc : List AV → List (Nat × List AV) → α) : α :=
  A.join (fun x0 => bif (decide (n ≥ lo)) then (x0 (decide (n ≤ hi))) else (x0 false)) fun b1 => kc [bool b1] []
def s_ytable {α : Type} (A : Alg α) (l : List Int) (below : Int) (kc : List AV → List (Nat × List AV) → α) : α :=
  A.loop 2 [lst .ro 1 (map (fun n => int .i64 n) l), int .i64 below, int .i64 0] [] fun j0 l1 l2 => bif (j0.beq 0) then (asC A l1 fun v3 l4 => asB A v3 fun b5 => asN A l4 (asN A l2 (kc [bool b5] []))) else (bif (j0.beq 1) then (asC A l1 fun v6 l7 => asL A 1 v6 fun l8 => asN A l7 (asN A l2 (A.join (fun x9 => A.asm (l8.length ≤ maxL) (bif (decide ((↑l8.length : Int) ≥ (1 : Int))) then (A.asm (l8.length ≤ maxL) (x9 (decide ((↑l8.length : Int) ≤ (64 : Int))))) else (x9 false))) fun b10 => kc [bool b10] []))) else A.fail)
def s_ytableL {α : Type} (A : Alg α) (l : List Int) (below : Int) (i : Int) (next : List AV → List (List AV) → α) (kc : Nat → List AV → List (List AV) → α) : α :=
  A.asm ((map (fun n => int .i64 n) l).length ≤ maxL) (bif (decide (i < (↑(map (fun n => int .i64 n) l).length : Int))) then (A.chk (decide ((0 : Int) ≤ i)) (nthE A (map (fun n => int .i64 n) l) i.toNat fun v0 => asI A .i64 v0 fun n1 => A.callx 94 [int .i64 n1, int .i64 0, int .i64 (IntKind.i64.wrap (below - (1 : Int)))] fun l2 => asC A l2 fun v3 l4 => asB A v3 fun b5 => asN A l4 (bif (!b5) then (kc 0 [bool false] []) else (A.loop 7 [lst .ro 1 (map (fun n => int .i64 n) l), int .i64 below, int .i64 i, int .i64 0] [] fun j6 l7 l8 => bif (j6.beq 0) then (asC A l7 fun v9 l10 => asB A v9 fun b11 => asN A l10 (asN A l8 (kc 0 [bool b11] []))) else (bif (j6.beq 3) then (asC A l7 fun v12 l13 => asL A 1 v12 fun l14 => asC A l13 fun v15 l16 => asI A .i64 v15 fun n17 => asC A l16 fun v18 l19 => asI A .i64 v18 fun n20 => asN A l19 (asN A l8 (next [lst .ro 1 l14, int .i64 n17, int .i64 (IntKind.i64.wrap (n20 + (1 : Int)))] []))) else A.fail))))) else (kc 1 [lst .ro 1 (map (fun n => int .i64 n) l)] []))
def s_ytableK {α : Type} (A : Alg α) (l : List Int) (below : Int) (i : Int) (k : Int) (next : List AV → List (List AV) → α) (kc : Nat → List AV → List (List AV) → α) : α :=
  bif (decide (k < i)) then (A.chk (decide ((0 : Int) ≤ k)) (nthE A (map (fun n => int .i64 n) l) k.toNat fun v0 => asI A .i64 v0 fun n1 => A.chk (decide ((0 : Int) ≤ i)) (nthE A (map (fun n => int .i64 n) l) i.toNat fun v2 => asI A .i64 v2 fun n3 => bif (n1 == n3) then (kc 0 [bool false] []) else (next [lst .ro 1 (map (fun n => int .i64 n) l), int .i64 below, int .i64 i, int .i64 (IntKind.i64.wrap (k + (1 : Int)))] [])))) else (kc 3 [lst .ro 1 (map (fun n => int .i64 n) l), int .i64 below, int .i64 i] [])
def s_ynumbers {α : Type} (A : Alg α) (x : Stp) (kc : List AV → List (Nat × List AV) → α) : α :=
  A.chk true (A.join (fun x0 => bif (x.op == (4 : Int)) then (x0 true) else (x0 (x.op == (24 : Int)))) fun b1 => bif b1 then (A.join (fun x2 => A.callx 94 [int .i64 x.a, int .i64 (-1048576), int .i64 1048576] fun l3 => asC A l3 fun v4 l5 => asB A v4 fun b6 => asN A l5 (bif b6 then (bif (x.a != (0 : Int)) then (A.callx 94 [int .i64 x.b, int .i64 (-1099511627776), int .i64 1099511627776] fun l7 => asC A l7 fun v8 l9 => asB A v8 fun b10 => asN A l9 (x2 b10)) else (x2 false)) else (x2 false))) fun b11 => kc [bool b11] []) else (A.join (fun x12 => bif (x.op == (6 : Int)) then (x12 true) else (x12 (x.op == (26 : Int)))) fun b13 => bif b13 then (A.callx 94 [int .i64 x.a, int .i64 2, int .i64 1048576] fun l14 => asC A l14 fun v15 l16 => asB A v15 fun b17 => asN A l16 (kc [bool b17] [])) else (bif (x.op == (5 : Int)) then (A.join (fun x18 => A.callx 94 [int .i64 x.a, int .i64 1, int .i64 1000] fun l19 => asC A l19 fun v20 l21 => asB A v20 fun b22 => asN A l21 (bif b22 then (A.callx 114 [lst .ro 1 (map (fun n => int .i64 n) x.t), int .i64 x.a] fun l23 => asC A l23 fun v24 l25 => asB A v24 fun b26 => asN A l25 (x18 b26)) else (x18 false))) fun b27 => kc [bool b27] []) else (bif (x.op == (25 : Int)) then (A.callx 114 [lst .ro 1 (map (fun n => int .i64 n) x.t), int .i64 1000] fun l28 => asC A l28 fun v29 l30 => asB A v29 fun b31 => asN A l30 (kc [bool b31] [])) else (kc [bool true] [])))))
def s_ytRight {α : Type} (A : Alg α) (x : Stp) (kc : List AV → List (Nat × List AV) → α) : α :=
  A.chk true (A.join (fun x0 => A.callx 92 [int .i64 x.op] fun l1 => asC A l1 fun v2 l3 => asS A v2 fun l4 => asN A l3 (bif (l4 == []) then (x0 true) else (A.chk true (A.callx 93 [agg [int .i64 x.op, int .i64 x.form, int .i64 x.field, int .i64 x.place, int .i64 x.to, int .i64 x.a, int .i64 x.b, int .i64 x.f.id, int .i64 x.f.kind, int .i64 x.f.lo, int .i64 x.f.hi, int .i64 x.f.most, int .i64 x.n, str x.s, lst .ro 1 (map (fun n => int .i64 n) x.t), lst .ro 5 (map fldV x.fields)]] fun l5 => asC A l5 fun v6 l7 => asB A v6 fun b8 => asN A l7 (bif (!b8) then (x0 true) else (A.callx 94 [int .i64 x.form, int .i64 0, int .i64 200] fun l9 => asC A l9 fun v10 l11 => asB A v10 fun b12 => asN A l11 (bif (!b12) then (x0 true) else (A.callx 94 [int .i64 x.field, int .i64 0, int .i64 255] fun l13 => asC A l13 fun v14 l15 => asB A v14 fun b16 => asN A l15 (bif (!b16) then (x0 true) else (A.callx 94 [int .i64 x.place, int .i64 0, int .i64 8] fun l17 => asC A l17 fun v18 l19 => asB A v18 fun b20 => asN A l19 (bif (!b20) then (x0 true) else (A.callx 94 [int .i64 x.to, int .i64 0, int .i64 255] fun l21 => asC A l21 fun v22 l23 => asB A v22 fun b24 => asN A l23 (bif (!b24) then (x0 true) else (A.chk true (A.callx 95 [agg [int .i64 x.op, int .i64 x.form, int .i64 x.field, int .i64 x.place, int .i64 x.to, int .i64 x.a, int .i64 x.b, int .i64 x.f.id, int .i64 x.f.kind, int .i64 x.f.lo, int .i64 x.f.hi, int .i64 x.f.most, int .i64 x.n, str x.s, lst .ro 1 (map (fun n => int .i64 n) x.t), lst .ro 5 (map fldV x.fields)]] fun l25 => asC A l25 fun v26 l27 => asB A v26 fun b28 => asN A l27 (x0 (!b28))))))))))))))))) fun b29 => bif b29 then (kc [bool false] []) else (A.join (fun x30 => A.callx 96 [int .i64 x.op, int .u8 116] fun l31 => asC A l31 fun v32 l33 => asB A v32 fun b34 => asN A l33 (bif b34 then (bif (x.to == x.field) then (x30 true) else (A.callx 96 [int .i64 x.op, int .u8 70] fun l35 => asC A l35 fun v36 l37 => asB A v36 fun b38 => asN A l37 (bif b38 then (A.chk true (A.callx 89 [agg [int .i64 x.f.id, int .i64 x.f.kind, int .i64 x.f.lo, int .i64 x.f.hi, int .i64 x.f.most]] fun l39 => asC A l39 fun v40 l41 => asB A v40 fun b42 => asN A l41 (x30 (!b42)))) else (x30 false)))) else (A.callx 96 [int .i64 x.op, int .u8 70] fun l43 => asC A l43 fun v44 l45 => asB A v44 fun b46 => asN A l45 (bif b46 then (A.chk true (A.callx 89 [agg [int .i64 x.f.id, int .i64 x.f.kind, int .i64 x.f.lo, int .i64 x.f.hi, int .i64 x.f.most]] fun l47 => asC A l47 fun v48 l49 => asB A v48 fun b50 => asN A l49 (x30 (!b50)))) else (x30 false))))) fun b51 => bif b51 then (kc [bool false] []) else (A.join (fun x52 => A.callx 96 [int .i64 x.op, int .u8 70] fun l53 => asC A l53 fun v54 l55 => asB A v54 fun b56 => asN A l55 (bif b56 then (A.callx 96 [int .i64 x.op, int .u8 100] fun l57 => asC A l57 fun v58 l59 => asB A v58 fun b60 => asN A l59 (bif b60 then (x52 (x.f.id != x.field)) else (x52 false))) else (x52 false))) fun b61 => bif b61 then (kc [bool false] []) else (A.join (fun x62 => bif (x.op == (2 : Int)) then (A.callx 94 [int .i64 x.n, int .i64 (-1099511627776), int .i64 1099511627776] fun l63 => asC A l63 fun v64 l65 => asB A v64 fun b66 => asN A l65 (bif (!b66) then (x62 true) else (A.asm (x.s.length ≤ maxL) (x62 (decide ((↑x.s.length : Int) > (32 : Int))))))) else (x62 false)) fun b67 => bif b67 then (kc [bool false] []) else (A.join (fun x68 => A.callx 96 [int .i64 x.op, int .u8 112] fun l69 => asC A l69 fun v70 l71 => asB A v70 fun b72 => asN A l71 (bif b72 then (A.callx 96 [int .i64 x.op, int .u8 86] fun l73 => asC A l73 fun v74 l75 => asB A v74 fun b76 => asN A l75 (bif b76 then (A.chk true (A.chk true (A.callx 97 [agg [int .i64 x.f.id, int .i64 x.f.kind, int .i64 x.f.lo, int .i64 x.f.hi, int .i64 x.f.most], agg [int .i64 x.n, str x.s]] fun l77 => asC A l77 fun v78 l79 => asB A v78 fun b80 => asN A l79 (x68 (!b80))))) else (x68 false))) else (x68 false))) fun b81 => bif b81 then (kc [bool false] []) else (A.join (fun x82 => A.callx 96 [int .i64 x.op, int .u8 76] fun l83 => asC A l83 fun v84 l85 => asB A v84 fun b86 => asN A l85 (bif (!b86) then (x82 true) else (A.chk true (A.chk true (A.callx 64 [agg [int .i64 x.form, lst .ro 5 (map fldV x.fields)]] fun l87 => asC A l87 fun v88 l89 => asB A v88 fun b90 => asN A l89 (x82 b90)))))) fun b91 => kc [bool b91] []))))))
def s_ytSame {α : Type} (A : Alg α) (x : Stp) (y : Stp) (kc : List AV → List (Nat × List AV) → α) : α :=
  A.chk true (A.chk true (A.join (fun x0 => bif (x.op != y.op) then (x0 true) else (bif (x.form != y.form) then (x0 true) else (bif (x.field != y.field) then (x0 true) else (bif (x.place != y.place) then (x0 true) else (bif (x.to != y.to) then (x0 true) else (bif (x.a != y.a) then (x0 true) else (bif (x.b != y.b) then (x0 true) else (A.chk true (A.chk true (bif (!(x.f.id == y.f.id && (x.f.kind == y.f.kind && (x.f.lo == y.f.lo && (x.f.hi == y.f.hi && (x.f.most == y.f.most && true)))))) then (x0 true) else (A.chk true (A.chk true (bif (!(x.n == y.n && (x.s == y.s && true))) then (x0 true) else (A.asm ((map (fun n => int .i64 n) x.t).length ≤ maxL) (A.asm ((map (fun n => int .i64 n) y.t).length ≤ maxL) (bif ((↑(map (fun n => int .i64 n) x.t).length : Int) != (↑(map (fun n => int .i64 n) y.t).length : Int)) then (x0 true) else (A.asm ((map fldV x.fields).length ≤ maxL) (A.asm ((map fldV y.fields).length ≤ maxL) (x0 ((↑(map fldV x.fields).length : Int) != (↑(map fldV y.fields).length : Int))))))))))))))))))))) fun b1 => bif b1 then (kc [bool false] []) else (A.loop 4 [int .i64 0] [[int .i64 x.op, int .i64 x.form, int .i64 x.field, int .i64 x.place, int .i64 x.to, int .i64 x.a, int .i64 x.b, int .i64 x.f.id, int .i64 x.f.kind, int .i64 x.f.lo, int .i64 x.f.hi, int .i64 x.f.most, int .i64 x.n, str x.s, lst .ro 1 (map (fun n => int .i64 n) x.t), lst .ro 5 (map fldV x.fields)], [int .i64 y.op, int .i64 y.form, int .i64 y.field, int .i64 y.place, int .i64 y.to, int .i64 y.a, int .i64 y.b, int .i64 y.f.id, int .i64 y.f.kind, int .i64 y.f.lo, int .i64 y.f.hi, int .i64 y.f.most, int .i64 y.n, str y.s, lst .ro 1 (map (fun n => int .i64 n) y.t), lst .ro 5 (map fldV y.fields)]] fun j2 l3 l4 => bif (j2.beq 0) then (asC A l3 fun v5 l6 => asB A v5 fun b7 => asN A l6 (asN A l4 (kc [bool b7] []))) else (bif (j2.beq 1) then (asN A l3 (asC A l4 fun l8 l9 => asC A l8 fun v10 l11 => asI A .i64 v10 fun n12 => asC A l11 fun v13 l14 => asI A .i64 v13 fun n15 => asC A l14 fun v16 l17 => asI A .i64 v16 fun n18 => asC A l17 fun v19 l20 => asI A .i64 v19 fun n21 => asC A l20 fun v22 l23 => asI A .i64 v22 fun n24 => asC A l23 fun v25 l26 => asI A .i64 v25 fun n27 => asC A l26 fun v28 l29 => asI A .i64 v28 fun n30 => asC A l29 fun v31 l32 => asI A .i64 v31 fun n33 => asC A l32 fun v34 l35 => asI A .i64 v34 fun n36 => asC A l35 fun v37 l38 => asI A .i64 v37 fun n39 => asC A l38 fun v40 l41 => asI A .i64 v40 fun n42 => asC A l41 fun v43 l44 => asI A .i64 v43 fun n45 => asC A l44 fun v46 l47 => asI A .i64 v46 fun n48 => asC A l47 fun v49 l50 => asS A v49 fun l51 => asC A l50 fun v52 l53 => asL A 1 v52 fun l54 => asC A l53 fun v55 l56 => asL A 5 v55 fun l57 => asN A l56 (asC A l9 fun l58 l59 => asC A l58 fun v60 l61 => asI A .i64 v60 fun n62 => asC A l61 fun v63 l64 => asI A .i64 v63 fun n65 => asC A l64 fun v66 l67 => asI A .i64 v66 fun n68 => asC A l67 fun v69 l70 => asI A .i64 v69 fun n71 => asC A l70 fun v72 l73 => asI A .i64 v72 fun n74 => asC A l73 fun v75 l76 => asI A .i64 v75 fun n77 => asC A l76 fun v78 l79 => asI A .i64 v78 fun n80 => asC A l79 fun v81 l82 => asI A .i64 v81 fun n83 => asC A l82 fun v84 l85 => asI A .i64 v84 fun n86 => asC A l85 fun v87 l88 => asI A .i64 v87 fun n89 => asC A l88 fun v90 l91 => asI A .i64 v90 fun n92 => asC A l91 fun v93 l94 => asI A .i64 v93 fun n95 => asC A l94 fun v96 l97 => asI A .i64 v96 fun n98 => asC A l97 fun v99 l100 => asS A v99 fun l101 => asC A l100 fun v102 l103 => asL A 1 v102 fun l104 => asC A l103 fun v105 l106 => asL A 5 v105 fun l107 => asN A l106 (asN A l59 (A.loop 9 [int .i64 0] [[int .i64 n12, int .i64 n15, int .i64 n18, int .i64 n21, int .i64 n24, int .i64 n27, int .i64 n30, int .i64 n33, int .i64 n36, int .i64 n39, int .i64 n42, int .i64 n45, int .i64 n48, str l51, lst .ro 1 l54, lst .ro 5 l57], [int .i64 n62, int .i64 n65, int .i64 n68, int .i64 n71, int .i64 n74, int .i64 n77, int .i64 n80, int .i64 n83, int .i64 n86, int .i64 n89, int .i64 n92, int .i64 n95, int .i64 n98, str l101, lst .ro 1 l104, lst .ro 5 l107]] fun j108 l109 l110 => bif (j108.beq 0) then (asC A l109 fun v111 l112 => asB A v111 fun b113 => asN A l112 (asN A l110 (kc [bool b113] []))) else (bif (j108.beq 3) then (asN A l109 (asN A l110 (kc [bool true] []))) else A.fail)))))) else A.fail))))
def s_ytSameL {α : Type} (A : Alg α) (x : Stp) (y : Stp) (i : Int) (next : List AV → List (List AV) → α) (kc : Nat → List AV → List (List AV) → α) : α :=
  A.asm ((map (fun n => int .i64 n) x.t).length ≤ maxL) (bif (decide (i < (↑(map (fun n => int .i64 n) x.t).length : Int))) then (A.chk (decide ((0 : Int) ≤ i)) (nthE A (map (fun n => int .i64 n) x.t) i.toNat fun v0 => asI A .i64 v0 fun n1 => A.chk (decide ((0 : Int) ≤ i)) (nthE A (map (fun n => int .i64 n) y.t) i.toNat fun v2 => asI A .i64 v2 fun n3 => bif (n1 != n3) then (kc 0 [bool false] []) else (next [int .i64 (IntKind.i64.wrap (i + (1 : Int)))] [[int .i64 x.op, int .i64 x.form, int .i64 x.field, int .i64 x.place, int .i64 x.to, int .i64 x.a, int .i64 x.b, int .i64 x.f.id, int .i64 x.f.kind, int .i64 x.f.lo, int .i64 x.f.hi, int .i64 x.f.most, int .i64 x.n, str x.s, lst .ro 1 (map (fun n => int .i64 n) x.t), lst .ro 5 (map fldV x.fields)], [int .i64 y.op, int .i64 y.form, int .i64 y.field, int .i64 y.place, int .i64 y.to, int .i64 y.a, int .i64 y.b, int .i64 y.f.id, int .i64 y.f.kind, int .i64 y.f.lo, int .i64 y.f.hi, int .i64 y.f.most, int .i64 y.n, str y.s, lst .ro 1 (map (fun n => int .i64 n) y.t), lst .ro 5 (map fldV y.fields)]])))) else (kc 1 [] [[int .i64 x.op, int .i64 x.form, int .i64 x.field, int .i64 x.place, int .i64 x.to, int .i64 x.a, int .i64 x.b, int .i64 x.f.id, int .i64 x.f.kind, int .i64 x.f.lo, int .i64 x.f.hi, int .i64 x.f.most, int .i64 x.n, str x.s, lst .ro 1 (map (fun n => int .i64 n) x.t), lst .ro 5 (map fldV x.fields)], [int .i64 y.op, int .i64 y.form, int .i64 y.field, int .i64 y.place, int .i64 y.to, int .i64 y.a, int .i64 y.b, int .i64 y.f.id, int .i64 y.f.kind, int .i64 y.f.lo, int .i64 y.f.hi, int .i64 y.f.most, int .i64 y.n, str y.s, lst .ro 1 (map (fun n => int .i64 n) y.t), lst .ro 5 (map fldV y.fields)]]))
def s_ytSameK {α : Type} (A : Alg α) (x : Stp) (y : Stp) (i : Int) (next : List AV → List (List AV) → α) (kc : Nat → List AV → List (List AV) → α) : α :=
  A.asm ((map fldV x.fields).length ≤ maxL) (bif (decide (i < (↑(map fldV x.fields).length : Int))) then (A.chk (decide ((0 : Int) ≤ i)) (nthE A (map fldV x.fields) i.toNat fun v0 => asA A v0 fun l1 => asC A l1 fun v2 l3 => asI A .i64 v2 fun n4 => asC A l3 fun v5 l6 => asI A .i64 v5 fun n7 => asC A l6 fun v8 l9 => asI A .i64 v8 fun n10 => asC A l9 fun v11 l12 => asI A .i64 v11 fun n13 => asC A l12 fun v14 l15 => asI A .i64 v14 fun n16 => asN A l15 (A.chk true (A.chk (decide ((0 : Int) ≤ i)) (nthE A (map fldV y.fields) i.toNat fun v17 => asA A v17 fun l18 => asC A l18 fun v19 l20 => asI A .i64 v19 fun n21 => asC A l20 fun v22 l23 => asI A .i64 v22 fun n24 => asC A l23 fun v25 l26 => asI A .i64 v25 fun n27 => asC A l26 fun v28 l29 => asI A .i64 v28 fun n30 => asC A l29 fun v31 l32 => asI A .i64 v31 fun n33 => asN A l32 (A.chk true (bif (!(n4 == n21 && (n7 == n24 && (n10 == n27 && (n13 == n30 && (n16 == n33 && true)))))) then (kc 0 [bool false] []) else (next [int .i64 (IntKind.i64.wrap (i + (1 : Int)))] [[int .i64 x.op, int .i64 x.form, int .i64 x.field, int .i64 x.place, int .i64 x.to, int .i64 x.a, int .i64 x.b, int .i64 x.f.id, int .i64 x.f.kind, int .i64 x.f.lo, int .i64 x.f.hi, int .i64 x.f.most, int .i64 x.n, str x.s, lst .ro 1 (map (fun n => int .i64 n) x.t), lst .ro 5 (map fldV x.fields)], [int .i64 y.op, int .i64 y.form, int .i64 y.field, int .i64 y.place, int .i64 y.to, int .i64 y.a, int .i64 y.b, int .i64 y.f.id, int .i64 y.f.kind, int .i64 y.f.lo, int .i64 y.f.hi, int .i64 y.f.most, int .i64 y.n, str y.s, lst .ro 1 (map (fun n => int .i64 n) y.t), lst .ro 5 (map fldV y.fields)]])))))))) else (kc 3 [] []))
def s_yGreat {α : Type} (A : Alg α) (l : List Stp) (kc : List AV → List (Nat × List AV) → α) : α :=
  A.loop 2 [lst .ro 16 (map stpV l), int .i64 0] [] fun j0 l1 l2 => bif (j0.beq 0) then (asC A l1 fun v3 l4 => asB A v3 fun b5 => asN A l4 (asN A l2 (kc [bool b5] []))) else (bif (j0.beq 1) then (asC A l1 fun v6 l7 => asL A 16 v6 fun l8 => asN A l7 (asN A l2 (A.asm (l8.length ≤ maxL) (kc [bool (decide ((↑l8.length : Int) > (60 : Int)))] [])))) else A.fail)
def s_yGreatL {α : Type} (A : Alg α) (l : List Stp) (i : Int) (next : List AV → List (List AV) → α) (kc : Nat → List AV → List (List AV) → α) : α :=
  A.join (fun x0 => A.asm ((map stpV l).length ≤ maxL) (bif (decide (i < (↑(map stpV l).length : Int))) then (x0 (decide (i < (61 : Int)))) else (x0 false))) fun b1 => bif b1 then (A.join (fun x2 => A.chk (decide ((0 : Int) ≤ i)) (nthE A (map stpV l) i.toNat fun v3 => asA A v3 fun l4 => asC A l4 fun v5 l6 => asI A .i64 v5 fun n7 => asC A l6 fun v8 l9 => asI A .i64 v8 fun n10 => asC A l9 fun v11 l12 => asI A .i64 v11 fun n13 => asC A l12 fun v14 l15 => asI A .i64 v14 fun n16 => asC A l15 fun v17 l18 => asI A .i64 v17 fun n19 => asC A l18 fun v20 l21 => asI A .i64 v20 fun n22 => asC A l21 fun v23 l24 => asI A .i64 v23 fun n25 => asC A l24 fun v26 l27 => asI A .i64 v26 fun n28 => asC A l27 fun v29 l30 => asI A .i64 v29 fun n31 => asC A l30 fun v32 l33 => asI A .i64 v32 fun n34 => asC A l33 fun v35 l36 => asI A .i64 v35 fun n37 => asC A l36 fun v38 l39 => asI A .i64 v38 fun n40 => asC A l39 fun v41 l42 => asI A .i64 v41 fun n43 => asC A l42 fun v44 l45 => asS A v44 fun l46 => asC A l45 fun v47 l48 => asL A 1 v47 fun l49 => asC A l48 fun v50 l51 => asL A 5 v50 fun l52 => asN A l51 (A.asm (l49.length ≤ maxL) (bif (decide ((↑l49.length : Int) > (100 : Int))) then (x2 true) else (A.chk (decide ((0 : Int) ≤ i)) (nthE A (map stpV l) i.toNat fun v53 => asA A v53 fun l54 => asC A l54 fun v55 l56 => asI A .i64 v55 fun n57 => asC A l56 fun v58 l59 => asI A .i64 v58 fun n60 => asC A l59 fun v61 l62 => asI A .i64 v61 fun n63 => asC A l62 fun v64 l65 => asI A .i64 v64 fun n66 => asC A l65 fun v67 l68 => asI A .i64 v67 fun n69 => asC A l68 fun v70 l71 => asI A .i64 v70 fun n72 => asC A l71 fun v73 l74 => asI A .i64 v73 fun n75 => asC A l74 fun v76 l77 => asI A .i64 v76 fun n78 => asC A l77 fun v79 l80 => asI A .i64 v79 fun n81 => asC A l80 fun v82 l83 => asI A .i64 v82 fun n84 => asC A l83 fun v85 l86 => asI A .i64 v85 fun n87 => asC A l86 fun v88 l89 => asI A .i64 v88 fun n90 => asC A l89 fun v91 l92 => asI A .i64 v91 fun n93 => asC A l92 fun v94 l95 => asS A v94 fun l96 => asC A l95 fun v97 l98 => asL A 1 v97 fun l99 => asC A l98 fun v100 l101 => asL A 5 v100 fun l102 => asN A l101 (A.asm (l102.length ≤ maxL) (x2 (decide ((↑l102.length : Int) > (40 : Int))))))))))) fun b103 => bif b103 then (kc 0 [bool true] []) else (next [lst .ro 16 (map stpV l), int .i64 (IntKind.i64.wrap (i + (1 : Int)))] [])) else (kc 1 [lst .ro 16 (map stpV l)] [])
theorem t_tuses (op : Int) {r : CR} (h : s_tuses (OA (tbl E0) (ltbl E0 59 0)) op (fun r o => some (r, o)) = some r) : tbl E0 59 [.int .i64 op] [] = some r :=
  tbl_of (body := bodyOf Tryz.f59) Tryz.func59 (by kernel_rfl) (by kernel_rfl) (by kernel_rfl) (Eq.trans (by kernel_rfl) h)
theorem t_tusesA (op : Int) (b : Bool) {r : LR} (h : s_tusesA (OA (tbl E0) (ltbl E0 59 0)) op b (fun vs os => ltbl E0 59 0 1000004 vs os) (fun j vs os => some (j, vs, os)) = some r) : ltbl E0 59 0 1000004 [.int .i64 op, .bool b] [] = some r :=
  ltbl_of (body := bodyOf Tryz.f59) Tryz.func59 (by kernel_rfl) (by kernel_rfl) (Eq.trans (by kernel_rfl) h)
theorem t_tusesB (op : Int) (b : Bool) {r : LR} (h : s_tusesB (OA (tbl E0) (ltbl E0 59 0)) op b (fun vs os => ltbl E0 59 0 1000009 vs os) (fun j vs os => some (j, vs, os)) = some r) : ltbl E0 59 0 1000009 [.int .i64 op, .bool b] [] = some r :=
  ltbl_of (body := bodyOf Tryz.f59) Tryz.func59 (by kernel_rfl) (by kernel_rfl) (Eq.trans (by kernel_rfl) h)
theorem t_tin (n lo hi : Int) {r : CR} (h : s_tin (OA (tbl E0) (ltbl E0 107 0)) n lo hi (fun r o => some (r, o)) = some r) : tbl E0 107 [.int .i64 n, .int .i64 lo, .int .i64 hi] [] = some r :=
  tbl_of (body := bodyOf Tryz.f107) Tryz.func107 (by kernel_rfl) (by kernel_rfl) (by kernel_rfl) (Eq.trans (by kernel_rfl) h)
theorem t_tonly (x : Stp) {r : CR} (h : s_tonly (OA (tbl E0) (ltbl E0 87 0)) x (fun r o => some (r, o)) = some r) : tbl E0 87 [stpV x] [] = some r :=
  tbl_of (body := bodyOf Tryz.f87) Tryz.func87 (by kernel_rfl) (by kernel_rfl) (by kernel_rfl) (Eq.trans (by kernel_rfl) h)
theorem t_tonlyL (x y z : Stp) (l : List Int) (m i : Int) {r : LR} (h : s_tonlyL (OA (tbl E0) (ltbl E0 87 0)) x y z l m i (fun vs os => ltbl E0 87 0 3 vs os) (fun j vs os => some (j, vs, os)) = some r) : ltbl E0 87 0 3 [intsV l, .int .i64 m, .int .i64 i] [stpC x, stpC y, stpC z] = some r :=
  ltbl_of (body := bodyOf Tryz.f87) Tryz.func87 (by kernel_rfl) (by kernel_rfl) (Eq.trans (by kernel_rfl) h)
theorem t_tapart (l : List Int) (below : Int) {r : CR} (h : s_tapart (OA (tbl E0) (ltbl E0 109 0)) l below (fun r o => some (r, o)) = some r) : tbl E0 109 [intsV l, .int .i64 below] [] = some r :=
  tbl_of (body := bodyOf Tryz.f109) Tryz.func109 (by kernel_rfl) (by kernel_rfl) (by kernel_rfl) (Eq.trans (by kernel_rfl) h)
theorem t_tapartL (l : List Int) (below m i : Int) (seen : List Bool) {r : LR} (h : s_tapartL (OA (tbl E0) (ltbl E0 109 0)) l below m i seen (fun vs os => ltbl E0 109 0 3 vs os) (fun j vs os => some (j, vs, os)) = some r) : ltbl E0 109 0 3 [intsV l, .int .i64 below, intsV l, .int .i64 m, .int .i64 i] [seen.map AV.bool] = some r :=
  ltbl_of (body := bodyOf Tryz.f109) Tryz.func109 (by kernel_rfl) (by kernel_rfl) (Eq.trans (by kernel_rfl) h)
theorem t_tfits (x : Stp) (p : Int) {r : CR} (h : s_tfits (OA (tbl E0) (ltbl E0 85 0)) x p (fun r o => some (r, o)) = some r) : tbl E0 85 [stpV x, .int .i64 p] [] = some r :=
  tbl_of (body := bodyOf Tryz.f85) Tryz.func85 (by kernel_rfl) (by kernel_rfl) (by kernel_rfl) (Eq.trans (by kernel_rfl) h)
theorem t_tRight (x : Stp) {r : CR} (h : s_tRight (OA (tbl E0) (ltbl E0 58 0)) x (fun r o => some (r, o)) = some r) : tbl E0 58 [stpV x] [] = some r :=
  tbl_of (body := bodyOf Tryz.f58) Tryz.func58 (by kernel_rfl) (by kernel_rfl) (by kernel_rfl) (Eq.trans (by kernel_rfl) h)
theorem t_tRightL (x : Stp) (l q : List Int) (m i : Int) {r : LR} (h : s_tRightL (OA (tbl E0) (ltbl E0 58 0)) x l q m i (fun vs os => ltbl E0 58 0 3 vs os) (fun j vs os => some (j, vs, os)) = some r) : ltbl E0 58 0 3 [intsV l, intsV q, .int .i64 m, .int .i64 i] [stpC x] = some r :=
  ltbl_of (body := bodyOf Tryz.f58) Tryz.func58 (by kernel_rfl) (by kernel_rfl) (Eq.trans (by kernel_rfl) h)
theorem t_tSame (x y : Stp) {r : CR} (h : s_tSame (OA (tbl E0) (ltbl E0 86 0)) x y (fun r o => some (r, o)) = some r) : tbl E0 86 [stpV x, stpV y] [] = some r :=
  tbl_of (body := bodyOf Tryz.f86) Tryz.func86 (by kernel_rfl) (by kernel_rfl) (by kernel_rfl) (Eq.trans (by kernel_rfl) h)
theorem t_EqualI (a b : List Int) {r : CR} (h : s_EqualI (OA (tbl E0) (ltbl E0 110 0)) a b (fun r o => some (r, o)) = some r) : tbl E0 110 [intsV a, intsV b] [] = some r :=
  tbl_of (body := bodyOf Tryz.f110) Tryz.func110 (by kernel_rfl) (by kernel_rfl) (by kernel_rfl) (Eq.trans (by kernel_rfl) h)
theorem t_EqualIL (a b : List Int) (m i : Int) {r : LR} (h : s_EqualIL (OA (tbl E0) (ltbl E0 110 0)) a b m i (fun vs os => ltbl E0 110 0 4 vs os) (fun j vs os => some (j, vs, os)) = some r) : ltbl E0 110 0 4 [intsV a, intsV b, .int .i64 m, .int .i64 i] [] = some r :=
  ltbl_of (body := bodyOf Tryz.f110) Tryz.func110 (by kernel_rfl) (by kernel_rfl) (Eq.trans (by kernel_rfl) h)
theorem t_fHas (f : Fld) (n : Int) (s : List UInt8) {r : CR} (h : s_fHas (OA (tbl E0) (ltbl E0 108 0)) f n s (fun r o => some (r, o)) = some r) : tbl E0 108 [fldV f, .agg [.int .i64 n, .str s]] [] = some r :=
  tbl_of (body := bodyOf Tryz.f108) Tryz.func108 (by kernel_rfl) (by kernel_rfl) (by kernel_rfl) (Eq.trans (by kernel_rfl) h)
theorem t_yHas (f : Fld) (n : Int) (s : List UInt8) {r : CR} (h : s_yHas (OA (tbl E0) (ltbl E0 97 0)) f n s (fun r o => some (r, o)) = some r) : tbl E0 97 [fldV f, .agg [.int .i64 n, .str s]] [] = some r :=
  tbl_of (body := bodyOf Tryz.f97) Tryz.func97 (by kernel_rfl) (by kernel_rfl) (by kernel_rfl) (Eq.trans (by kernel_rfl) h)
theorem t_yuses (op : Int) {r : CR} (h : s_yuses (OA (tbl E0) (ltbl E0 92 0)) op (fun r o => some (r, o)) = some r) : tbl E0 92 [.int .i64 op] [] = some r :=
  tbl_of (body := bodyOf Tryz.f92) Tryz.func92 (by kernel_rfl) (by kernel_rfl) (by kernel_rfl) (Eq.trans (by kernel_rfl) h)
theorem t_yusesA (op : Int) (b : Bool) {r : LR} (h : s_yusesA (OA (tbl E0) (ltbl E0 92 0)) op b (fun vs os => ltbl E0 92 0 1000004 vs os) (fun j vs os => some (j, vs, os)) = some r) : ltbl E0 92 0 1000004 [.int .i64 op, .bool b] [] = some r :=
  ltbl_of (body := bodyOf Tryz.f92) Tryz.func92 (by kernel_rfl) (by kernel_rfl) (Eq.trans (by kernel_rfl) h)
theorem t_yusesB (op : Int) (b : Bool) {r : LR} (h : s_yusesB (OA (tbl E0) (ltbl E0 92 0)) op b (fun vs os => ltbl E0 92 0 1000009 vs os) (fun j vs os => some (j, vs, os)) = some r) : ltbl E0 92 0 1000009 [.int .i64 op, .bool b] [] = some r :=
  ltbl_of (body := bodyOf Tryz.f92) Tryz.func92 (by kernel_rfl) (by kernel_rfl) (Eq.trans (by kernel_rfl) h)
theorem t_yhas (op c : Int) {r : CR} (h : s_yhas (OA (tbl E0) (ltbl E0 96 0)) op c (fun r o => some (r, o)) = some r) : tbl E0 96 [.int .i64 op, .int .u8 c] [] = some r :=
  tbl_of (body := bodyOf Tryz.f96) Tryz.func96 (by kernel_rfl) (by kernel_rfl) (by kernel_rfl) (Eq.trans (by kernel_rfl) h)
theorem t_yhasL (c i : Int) (s : List UInt8) {r : LR} (h : s_yhasL (OA (tbl E0) (ltbl E0 96 0)) c i s (fun vs os => ltbl E0 96 0 3 vs os) (fun j vs os => some (j, vs, os)) = some r) : ltbl E0 96 0 3 [.int .u8 c, .str s, .int .i64 i] [] = some r :=
  ltbl_of (body := bodyOf Tryz.f96) Tryz.func96 (by kernel_rfl) (by kernel_rfl) (Eq.trans (by kernel_rfl) h)
theorem t_yzero (x : Stp) {r : CR} (h : s_yzero (OA (tbl E0) (ltbl E0 93 0)) x (fun r o => some (r, o)) = some r) : tbl E0 93 [stpV x] [] = some r :=
  tbl_of (body := bodyOf Tryz.f93) Tryz.func93 (by kernel_rfl) (by kernel_rfl) (by kernel_rfl) (Eq.trans (by kernel_rfl) h)
theorem t_ybetween (n lo hi : Int) {r : CR} (h : s_ybetween (OA (tbl E0) (ltbl E0 94 0)) n lo hi (fun r o => some (r, o)) = some r) : tbl E0 94 [.int .i64 n, .int .i64 lo, .int .i64 hi] [] = some r :=
  tbl_of (body := bodyOf Tryz.f94) Tryz.func94 (by kernel_rfl) (by kernel_rfl) (by kernel_rfl) (Eq.trans (by kernel_rfl) h)
theorem t_ytable (l : List Int) (below : Int) {r : CR} (h : s_ytable (OA (tbl E0) (ltbl E0 114 0)) l below (fun r o => some (r, o)) = some r) : tbl E0 114 [intsV l, .int .i64 below] [] = some r :=
  tbl_of (body := bodyOf Tryz.f114) Tryz.func114 (by kernel_rfl) (by kernel_rfl) (by kernel_rfl) (Eq.trans (by kernel_rfl) h)
theorem t_ytableL (l : List Int) (below i : Int) {r : LR} (h : s_ytableL (OA (tbl E0) (ltbl E0 114 0)) l below i (fun vs os => ltbl E0 114 0 2 vs os) (fun j vs os => some (j, vs, os)) = some r) : ltbl E0 114 0 2 [intsV l, .int .i64 below, .int .i64 i] [] = some r :=
  ltbl_of (body := bodyOf Tryz.f114) Tryz.func114 (by kernel_rfl) (by kernel_rfl) (Eq.trans (by kernel_rfl) h)
theorem t_ytableK (l : List Int) (below i k : Int) {r : LR} (h : s_ytableK (OA (tbl E0) (ltbl E0 114 0)) l below i k (fun vs os => ltbl E0 114 0 7 vs os) (fun j vs os => some (j, vs, os)) = some r) : ltbl E0 114 0 7 [intsV l, .int .i64 below, .int .i64 i, .int .i64 k] [] = some r :=
  ltbl_of (body := bodyOf Tryz.f114) Tryz.func114 (by kernel_rfl) (by kernel_rfl) (Eq.trans (by kernel_rfl) h)
theorem t_ynumbers (x : Stp) {r : CR} (h : s_ynumbers (OA (tbl E0) (ltbl E0 95 0)) x (fun r o => some (r, o)) = some r) : tbl E0 95 [stpV x] [] = some r :=
  tbl_of (body := bodyOf Tryz.f95) Tryz.func95 (by kernel_rfl) (by kernel_rfl) (by kernel_rfl) (Eq.trans (by kernel_rfl) h)
theorem t_ytRight (x : Stp) {r : CR} (h : s_ytRight (OA (tbl E0) (ltbl E0 65 0)) x (fun r o => some (r, o)) = some r) : tbl E0 65 [stpV x] [] = some r :=
  tbl_of (body := bodyOf Tryz.f65) Tryz.func65 (by kernel_rfl) (by kernel_rfl) (by kernel_rfl) (Eq.trans (by kernel_rfl) h)
theorem t_ytSame (x y : Stp) {r : CR} (h : s_ytSame (OA (tbl E0) (ltbl E0 82 0)) x y (fun r o => some (r, o)) = some r) : tbl E0 82 [stpV x, stpV y] [] = some r :=
  tbl_of (body := bodyOf Tryz.f82) Tryz.func82 (by kernel_rfl) (by kernel_rfl) (by kernel_rfl) (Eq.trans (by kernel_rfl) h)
theorem t_ytSameL (x y : Stp) (i : Int) {r : LR} (h : s_ytSameL (OA (tbl E0) (ltbl E0 82 0)) x y i (fun vs os => ltbl E0 82 0 4 vs os) (fun j vs os => some (j, vs, os)) = some r) : ltbl E0 82 0 4 [.int .i64 i] [stpC x, stpC y] = some r :=
  ltbl_of (body := bodyOf Tryz.f82) Tryz.func82 (by kernel_rfl) (by kernel_rfl) (Eq.trans (by kernel_rfl) h)
theorem t_ytSameK (x y : Stp) (i : Int) {r : LR} (h : s_ytSameK (OA (tbl E0) (ltbl E0 82 0)) x y i (fun vs os => ltbl E0 82 0 9 vs os) (fun j vs os => some (j, vs, os)) = some r) : ltbl E0 82 0 9 [.int .i64 i] [stpC x, stpC y] = some r :=
  ltbl_of (body := bodyOf Tryz.f82) Tryz.func82 (by kernel_rfl) (by kernel_rfl) (Eq.trans (by kernel_rfl) h)
theorem t_yGreat (l : List Stp) {r : CR} (h : s_yGreat (OA (tbl E0) (ltbl E0 21 0)) l (fun r o => some (r, o)) = some r) : tbl E0 21 [stpsV l] [] = some r :=
  tbl_of (body := bodyOf Tryz.f21) Tryz.func21 (by kernel_rfl) (by kernel_rfl) (by kernel_rfl) (Eq.trans (by kernel_rfl) h)
theorem t_yGreatL (l : List Stp) (i : Int) {r : LR} (h : s_yGreatL (OA (tbl E0) (ltbl E0 21 0)) l i (fun vs os => ltbl E0 21 0 2 vs os) (fun j vs os => some (j, vs, os)) = some r) : ltbl E0 21 0 2 [stpsV l, .int .i64 i] [] = some r :=
  ltbl_of (body := bodyOf Tryz.f21) Tryz.func21 (by kernel_rfl) (by kernel_rfl) (Eq.trans (by kernel_rfl) h)
end Go.Proofs.YtmpfeofeokmooaaGreat.V
namespace Go.Proofs.YtmpfeofeokmooaaGreat.V
open Go
open AV (int lst agg str bool ref clo)
open List (map)
abbrev penA (b : List AV) (e : Int) : List (Nat × List AV) := [(0, [.lst (.own (.E 0 0)) 1 b, .int .i64 e])]
abbrev penV (b : List UInt8) (e : Int) : List (Nat × List AV) := penA (encB b) e
abbrev eyeV (b : List UInt8) (e : Int) : List (Nat × List AV) := [(0, [.lst .ro 1 (encB b), .int .i64 e])]
def s_put {α : Type} (A : Alg α) (b : List AV) (m : List AV) (e : Int) (kc : List AV → List (Nat × List AV) → α) : α :=
  A.chk (decide ((b.length + m.length) * 1 ≤ 140737488355328)) (A.chk true (kc [] [(0, [lst (.own (.E 0 0)) 1 (b ++ m), int .i64 e])]))
def s_groups {α : Type} (A : Alg α) (b : List AV) (u : Int) (e : Int) (kc : List AV → List (Nat × List AV) → α) : α :=
  A.loop 0 [int .u64 u] [[lst (.own (.O 0 0)) 1 b, int .i64 e]] fun j0 l1 l2 => bif (j0.beq 1) then (asC A l1 fun v3 l4 => asI A .u64 v3 fun n5 => asN A l4 (asC A l2 fun l6 l7 => asC A l6 fun v8 l9 => asOwn A 1 v8 fun x10 l11 => bif (x10.beq (.O (0 : Nat) (0 : Nat))) then (asC A l9 fun v12 l13 => asI A .i64 v12 fun n14 => asN A l13 (asN A l7 (A.call 62 [ref 0 0, lst .ro 1 [int .u8 (IntKind.u8.wrap n5)]] [(0, [lst (.own (.E 0 0)) 1 l11, int .i64 n14])] fun l15 l16 => asC A l16 fun x17 l18 => bif (x17.1.beq 0) then (asC A x17.2 fun v19 l20 => asOwn A 1 v19 fun x21 l22 => asC A l20 fun v23 l24 => asI A .i64 v23 fun n25 => asN A l24 (asN A l15 (asN A l18 (kc [] [(0, [lst (.own (.E 0 0)) 1 l22, int .i64 n25])])))) else A.fail))) else A.fail)) else A.fail
def s_groupsL {α : Type} (A : Alg α) (b : List AV) (u : Int) (e : Int) (next : List AV → List (List AV) → α) (kc : Nat → List AV → List (List AV) → α) : α :=
  bif (decide (u ≥ (128 : Int))) then (A.call 62 [ref 0 0, lst .ro 1 [int .u8 (bits Go.BinOp.or IntKind.u8 (IntKind.u8.wrap u) (128 : Int))]] [(0, [lst (.own (.E 0 0)) 1 b, int .i64 e])] fun l0 l1 => asC A l1 fun x2 l3 => bif (x2.1.beq 0) then (asC A x2.2 fun v4 l5 => asOwn A 1 v4 fun x6 l7 => asC A l5 fun v8 l9 => asI A .i64 v8 fun n10 => asN A l9 (asN A l0 (asN A l3 (A.chk true (next [int .u64 (u.fdiv ((2 : Int) ^ (7 : Nat)))] [[lst (.own (.O 0 0)) 1 l7, int .i64 n10]]))))) else A.fail) else (kc 1 [int .u64 u] [[lst (.own (.O 0 0)) 1 b, int .i64 e]])
def s_PCount {α : Type} (A : Alg α) (b : List AV) (n : Int) (e : Int) (kc : List AV → List (Nat × List AV) → α) : α :=
  bif (decide (n < (0 : Int))) then (A.chk true (kc [] [(0, [lst (.own (.E 0 0)) 1 b, int .i64 2])])) else (A.call 61 [ref 0 0, int .u64 (IntKind.u64.wrap n)] [(0, [lst (.own (.E 0 0)) 1 b, int .i64 e])] fun l0 l1 => asC A l1 fun x2 l3 => bif (x2.1.beq 0) then (asC A x2.2 fun v4 l5 => asOwn A 1 v4 fun x6 l7 => asC A l5 fun v8 l9 => asI A .i64 v8 fun n10 => asN A l9 (asN A l0 (asN A l3 (kc [] [(0, [lst (.own (.E 0 0)) 1 l7, int .i64 n10])])))) else A.fail)
def s_PNum {α : Type} (A : Alg α) (b : List AV) (n : Int) (e : Int) (kc : List AV → List (Nat × List AV) → α) : α :=
  A.chk true (A.chk true (A.call 61 [ref 0 0, int .u64 (bits Go.BinOp.xor IntKind.u64 (IntKind.u64.wrap (IntKind.u64.wrap n * (2 : Int) ^ (1 : Nat))) (IntKind.u64.wrap (n.fdiv ((2 : Int) ^ (63 : Nat)))))] [(0, [lst (.own (.E 0 0)) 1 b, int .i64 e])] fun l0 l1 => asC A l1 fun x2 l3 => bif (x2.1.beq 0) then (asC A x2.2 fun v4 l5 => asOwn A 1 v4 fun x6 l7 => asC A l5 fun v8 l9 => asI A .i64 v8 fun n10 => asN A l9 (asN A l0 (asN A l3 (kc [] [(0, [lst (.own (.E 0 0)) 1 l7, int .i64 n10])])))) else A.fail))
def s_PWord {α : Type} (A : Alg α) (b : List AV) (n : Int) (e : Int) (kc : List AV → List (Nat × List AV) → α) : α :=
  A.chk true (A.chk true (A.chk true (A.call 62 [ref 0 0, lst .ro 1 [int .u8 (IntKind.u8.wrap (n.fdiv ((2 : Int) ^ (24 : Nat)))), int .u8 (IntKind.u8.wrap (n.fdiv ((2 : Int) ^ (16 : Nat)))), int .u8 (IntKind.u8.wrap (n.fdiv ((2 : Int) ^ (8 : Nat)))), int .u8 (IntKind.u8.wrap n)]] [(0, [lst (.own (.E 0 0)) 1 b, int .i64 e])] fun l0 l1 => asC A l1 fun x2 l3 => bif (x2.1.beq 0) then (asC A x2.2 fun v4 l5 => asOwn A 1 v4 fun x6 l7 => asC A l5 fun v8 l9 => asI A .i64 v8 fun n10 => asN A l9 (asN A l0 (asN A l3 (kc [] [(0, [lst (.own (.E 0 0)) 1 l7, int .i64 n10])])))) else A.fail)))
def s_PText {α : Type} (A : Alg α) (b : List AV) (s : List UInt8) (e : Int) (kc : List AV → List (Nat × List AV) → α) : α :=
  A.asm (s.length ≤ maxL) (A.call 26 [ref 0 0, int .i64 (↑s.length : Int)] [(0, [lst (.own (.E 0 0)) 1 b, int .i64 e])] fun l0 l1 => asC A l1 fun x2 l3 => bif (x2.1.beq 0) then (asC A x2.2 fun v4 l5 => asOwn A 1 v4 fun x6 l7 => asC A l5 fun v8 l9 => asI A .i64 v8 fun n10 => asN A l9 (asN A l0 (asN A l3 (A.call 62 [ref 0 0, lst .ro 1 (encB s)] [(0, [lst (.own (.E 0 0)) 1 l7, int .i64 n10])] fun l11 l12 => asC A l12 fun x13 l14 => bif (x13.1.beq 0) then (asC A x13.2 fun v15 l16 => asOwn A 1 v15 fun x17 l18 => asC A l16 fun v19 l20 => asI A .i64 v19 fun n21 => asN A l20 (asN A l11 (asN A l14 (kc [] [(0, [lst (.own (.E 0 0)) 1 l18, int .i64 n21])])))) else A.fail)))) else A.fail)
def s_CloneB {α : Type} (A : Alg α) (b : List UInt8) (kc : List AV → List (Nat × List AV) → α) : α :=
  nilEq A Md.ro (encB b) fun b0 => bif b0 then (kc [lst .ro 1 []] []) else (A.chk (decide (((0 : Nat) + (encB b).length) * 1 ≤ 140737488355328)) (kc [lst .ro 1 ([] ++ encB b)] []))
def s_PDone {α : Type} (A : Alg α) (b : List AV) (e : Int) (kc : List AV → List (Nat × List AV) → α) : α :=
  bif (e != (0 : Int)) then (kc [lst .ro 1 [], int .i64 e] [(0, [lst (.own (.E 0 0)) 1 b, int .i64 e])]) else (A.callx 63 [lst .ro 1 b] fun l0 => asC A l0 fun v1 l2 => asL A 1 v1 fun l3 => asN A l2 (kc [lst .ro 1 l3, int .i64 0] [(0, [lst (.own (.E 0 0)) 1 b, int .i64 e])]))
def s_New {α : Type} (A : Alg α) (kc : List AV → List (Nat × List AV) → α) : α :=
  A.chk true (kc [ref 64 0] [(64, [lst (.own (.E 64 0)) 1 [], int .i64 0])])
def s_Of {α : Type} (A : Alg α) (b : List UInt8) (kc : List AV → List (Nat × List AV) → α) : α :=
  A.callx 63 [lst .ro 1 (encB b)] fun l0 => asC A l0 fun v1 l2 => asL A 1 v1 fun l3 => asN A l2 (A.chk true (A.chk true (kc [ref 64 0] [(64, [lst .ro 1 l3, int .i64 0])])))
def s_take {α : Type} (A : Alg α) (b : List UInt8) (e : Int) (n : Int) (kc : List AV → List (Nat × List AV) → α) : α :=
  A.join (fun x0 => x0 (e != (0 : Int))) fun b1 => bif b1 then (kc [lst .ro 1 []] [(0, [lst .ro 1 (encB b), int .i64 e])]) else (A.asm ((encB b).length ≤ maxL) (bif (decide (n > (↑(encB b).length : Int))) then (A.chk true (kc [lst .ro 1 []] [(0, [lst .ro 1 (encB b), int .i64 5])])) else (A.chk (decide ((0 : Int) ≤ (0 : Int)) && decide ((0 : Int) ≤ n) && decide (n ≤ n) && decide (n ≤ (↑(encB b).length : Int))) (A.chk (decide ((0 : Int) ≤ n) && decide (n ≤ (↑(encB b).length : Int)) && decide ((↑(encB b).length : Int) ≤ (↑(encB b).length : Int)) && decide ((↑(encB b).length : Int) ≤ (↑(encB b).length : Int))) (A.chk true (kc [lst .ro 1 (List.drop (0 : Nat) (List.take n.toNat (encB b)))] [(0, [lst .ro 1 (List.drop n.toNat (List.take (↑(encB b).length : Int).toNat (encB b))), int .i64 e])]))))))
def s_left {α : Type} (A : Alg α) (b : List UInt8) (e : Int) (kc : List AV → List (Nat × List AV) → α) : α :=
  kc [lst .ro 1 (encB b)] [(0, [lst .ro 1 (encB b), int .i64 e])]
def s_back {α : Type} (A : Alg α) (b : List UInt8) (c : List UInt8) (e : Int) (f : Int) (kc : List AV → List (Nat × List AV) → α) : α :=
  A.chk true (A.chk true (kc [] [(0, [lst .ro 1 (encB c), int .i64 f])]))
def s_ECount {α : Type} (A : Alg α) (b : List UInt8) (e : Int) (n : Int) (kc : List AV → List (Nat × List AV) → α) : α :=
  A.call 69 [ref 0 0] [(0, [lst .ro 1 (encB b), int .i64 e])] fun l0 l1 => asC A l1 fun x2 l3 => bif (x2.1.beq 0) then (asC A x2.2 fun v4 l5 => asL A 1 v4 fun l6 => asC A l5 fun v7 l8 => asI A .i64 v7 fun n9 => asN A l8 (asC A l0 fun v10 l11 => asL A 1 v10 fun l12 => asN A l11 (asN A l3 (A.call 70 [ref 0 0] [(0, [lst .ro 1 l6, int .i64 n9])] fun l13 l14 => asC A l14 fun x15 l16 => bif (x15.1.beq 0) then (asC A x15.2 fun v17 l18 => asL A 1 v17 fun l19 => asC A l18 fun v20 l21 => asI A .i64 v20 fun n22 => asN A l21 (asC A l13 fun v23 l24 => asI A .u64 v23 fun n25 => asN A l24 (asN A l16 (A.chk true (bif (n25.fdiv ((2 : Int) ^ (63 : Nat)) != (0 : Int)) then (A.call 71 [ref 0 0, lst .ro 1 l12, int .i64 4] [(0, [lst .ro 1 l19, int .i64 n22])] fun l26 l27 => asC A l27 fun x28 l29 => bif (x28.1.beq 0) then (asC A x28.2 fun v30 l31 => asL A 1 v30 fun l32 => asC A l31 fun v33 l34 => asI A .i64 v33 fun n35 => asN A l34 (asN A l26 (asN A l29 (kc [int .i64 0] [(0, [lst .ro 1 l32, int .i64 n35])])))) else A.fail) else (bif (decide (IntKind.i64.wrap n25 > if n < (0 : Int) then (0 : Int) else n)) then (A.call 71 [ref 0 0, lst .ro 1 l12, int .i64 7] [(0, [lst .ro 1 l19, int .i64 n22])] fun l36 l37 => asC A l37 fun x38 l39 => bif (x38.1.beq 0) then (asC A x38.2 fun v40 l41 => asL A 1 v40 fun l42 => asC A l41 fun v43 l44 => asI A .i64 v43 fun n45 => asN A l44 (asN A l36 (asN A l39 (kc [int .i64 0] [(0, [lst .ro 1 l42, int .i64 n45])])))) else A.fail) else (kc [int .i64 (IntKind.i64.wrap n25)] [(0, [lst .ro 1 l19, int .i64 n22])]))))))) else A.fail)))) else A.fail
def s_ENum {α : Type} (A : Alg α) (b : List UInt8) (e : Int) (kc : List AV → List (Nat × List AV) → α) : α :=
  A.call 70 [ref 0 0] [(0, [lst .ro 1 (encB b), int .i64 e])] fun l0 l1 => asC A l1 fun x2 l3 => bif (x2.1.beq 0) then (asC A x2.2 fun v4 l5 => asL A 1 v4 fun l6 => asC A l5 fun v7 l8 => asI A .i64 v7 fun n9 => asN A l8 (asC A l0 fun v10 l11 => asI A .u64 v10 fun n12 => asN A l11 (asN A l3 (A.chk true (kc [int .i64 (bits Go.BinOp.xor IntKind.i64 (IntKind.i64.wrap (n12.fdiv ((2 : Int) ^ (1 : Nat)))) (IntKind.i64.wrap ((0 : Int) - IntKind.i64.wrap (bits Go.BinOp.and IntKind.u64 n12 (1 : Int)))))] [(0, [lst .ro 1 l6, int .i64 n9])]))))) else A.fail
def s_EWord {α : Type} (A : Alg α) (b : List UInt8) (e : Int) (kc : List AV → List (Nat × List AV) → α) : α :=
  A.call 72 [ref 0 0, int .i64 4] [(0, [lst .ro 1 (encB b), int .i64 e])] fun l0 l1 => asC A l1 fun x2 l3 => bif (x2.1.beq 0) then (asC A x2.2 fun v4 l5 => asL A 1 v4 fun l6 => asC A l5 fun v7 l8 => asI A .i64 v7 fun n9 => asN A l8 (asC A l0 fun v10 l11 => asL A 1 v10 fun l12 => asN A l11 (asN A l3 (A.asm (l12.length ≤ maxL) (A.loop 3 [int .u32 0, lst .ro 1 l12, int .i64 (↑l12.length : Int), int .i64 0] [[lst .ro 1 l6, int .i64 n9]] fun j13 l14 l15 => bif (j13.beq 1) then (asC A l14 fun v16 l17 => asI A .u32 v16 fun n18 => asN A l17 (asC A l15 fun l19 l20 => asC A l19 fun v21 l22 => asL A 1 v21 fun l23 => asC A l22 fun v24 l25 => asI A .i64 v24 fun n26 => asN A l25 (asN A l20 (kc [int .u32 n18] [(0, [lst .ro 1 l23, int .i64 n26])])))) else A.fail))))) else A.fail
def s_EText {α : Type} (A : Alg α) (b : List UInt8) (e : Int) (n : Int) (kc : List AV → List (Nat × List AV) → α) : α :=
  A.call 69 [ref 0 0] [(0, [lst .ro 1 (encB b), int .i64 e])] fun l0 l1 => asC A l1 fun x2 l3 => bif (x2.1.beq 0) then (asC A x2.2 fun v4 l5 => asL A 1 v4 fun l6 => asC A l5 fun v7 l8 => asI A .i64 v7 fun n9 => asN A l8 (asC A l0 fun v10 l11 => asL A 1 v10 fun l12 => asN A l11 (asN A l3 (A.call 36 [ref 0 0, int .i64 n] [(0, [lst .ro 1 l6, int .i64 n9])] fun l13 l14 => asC A l14 fun x15 l16 => bif (x15.1.beq 0) then (asC A x15.2 fun v17 l18 => asL A 1 v17 fun l19 => asC A l18 fun v20 l21 => asI A .i64 v20 fun n22 => asN A l21 (asC A l13 fun v23 l24 => asI A .i64 v23 fun n25 => asN A l24 (asN A l16 (A.call 72 [ref 0 0, int .i64 n25] [(0, [lst .ro 1 l19, int .i64 n22])] fun l26 l27 => asC A l27 fun x28 l29 => bif (x28.1.beq 0) then (asC A x28.2 fun v30 l31 => asL A 1 v30 fun l32 => asC A l31 fun v33 l34 => asI A .i64 v33 fun n35 => asN A l34 (asC A l26 fun v36 l37 => asL A 1 v36 fun l38 => asN A l37 (asN A l29 (A.join (fun x39 => x39 (n35 == (5 : Int))) fun b40 => bif b40 then (A.chk true (orFail A (bytesOf l38) fun l41 => kc [str l41] [(0, [lst .ro 1 l12, int .i64 n35])])) else (orFail A (bytesOf l38) fun l42 => kc [str l42] [(0, [lst .ro 1 l32, int .i64 n35])]))))) else A.fail)))) else A.fail)))) else A.fail
def s_Left {α : Type} (A : Alg α) (b : List UInt8) (e : Int) (kc : List AV → List (Nat × List AV) → α) : α :=
  A.call 69 [ref 0 0] [(0, [lst .ro 1 (encB b), int .i64 e])] fun l0 l1 => asC A l1 fun x2 l3 => bif (x2.1.beq 0) then (asC A x2.2 fun v4 l5 => asL A 1 v4 fun l6 => asC A l5 fun v7 l8 => asI A .i64 v7 fun n9 => asN A l8 (asC A l0 fun v10 l11 => asL A 1 v10 fun l12 => asN A l11 (asN A l3 (A.asm (l12.length ≤ maxL) (kc [int .i64 (↑l12.length : Int)] [(0, [lst .ro 1 l6, int .i64 n9])]))))) else A.fail
def s_Bad {α : Type} (A : Alg α) (b : List UInt8) (e : Int) (kc : List AV → List (Nat × List AV) → α) : α :=
  kc [int .i64 e] [(0, [lst .ro 1 (encB b), int .i64 e])]
def s_End {α : Type} (A : Alg α) (b : List UInt8) (e : Int) (kc : List AV → List (Nat × List AV) → α) : α :=
  A.call 52 [ref 0 0] [(0, [lst .ro 1 (encB b), int .i64 e])] fun l0 l1 => asC A l1 fun x2 l3 => bif (x2.1.beq 0) then (asC A x2.2 fun v4 l5 => asL A 1 v4 fun l6 => asC A l5 fun v7 l8 => asI A .i64 v7 fun n9 => asN A l8 (asC A l0 fun v10 l11 => asI A .i64 v10 fun n12 => asN A l11 (asN A l3 (bif (n12 != (0 : Int)) then (kc [int .i64 n12] [(0, [lst .ro 1 l6, int .i64 n9])]) else (A.call 54 [ref 0 0] [(0, [lst .ro 1 l6, int .i64 n9])] fun l13 l14 => asC A l14 fun x15 l16 => bif (x15.1.beq 0) then (asC A x15.2 fun v17 l18 => asL A 1 v17 fun l19 => asC A l18 fun v20 l21 => asI A .i64 v20 fun n22 => asN A l21 (asC A l13 fun v23 l24 => asI A .i64 v23 fun n25 => asN A l24 (asN A l16 (bif (decide (n25 > (0 : Int))) then (kc [int .i64 6] [(0, [lst .ro 1 l19, int .i64 n22])]) else (kc [int .i64 0] [(0, [lst .ro 1 l19, int .i64 n22])]))))) else A.fail))))) else A.fail
def s_egroups {α : Type} (A : Alg α) (b : List UInt8) (e : Int) (kc : List AV → List (Nat × List AV) → α) : α :=
  A.join (fun x0 => x0 (e != (0 : Int))) fun b1 => bif b1 then (kc [int .u64 0] [(0, [lst .ro 1 (encB b), int .i64 e])]) else (A.asm ((encB b).length ≤ maxL) (A.loop 5 [int .u64 0, lst .ro 1 (encB b), int .i64 (↑(encB b).length : Int), int .i64 0] [[lst .ro 1 (encB b), int .i64 e]] fun j2 l3 l4 => bif (j2.beq 0) then (asC A l3 fun v5 l6 => asI A .u64 v5 fun n7 => asN A l6 (asC A l4 fun l8 l9 => asC A l8 fun v10 l11 => asL A 1 v10 fun l12 => asC A l11 fun v13 l14 => asI A .i64 v13 fun n15 => asN A l14 (asN A l9 (kc [int .u64 n7] [(0, [lst .ro 1 l12, int .i64 n15])])))) else (bif (j2.beq 1) then (asN A l3 (asC A l4 fun l16 l17 => asC A l16 fun v18 l19 => asL A 1 v18 fun l20 => asC A l19 fun v21 l22 => asI A .i64 v21 fun n23 => asN A l22 (asN A l17 (A.chk true (kc [int .u64 0] [(0, [lst .ro 1 l20, int .i64 5])]))))) else A.fail)))
def s_EWordL {α : Type} (A : Alg α) (l : List UInt8) (b : List UInt8) (x : Int) (m : Int) (i : Int) (e : Int) (next : List AV → List (List AV) → α) (kc : Nat → List AV → List (List AV) → α) : α :=
  bif (decide (i < m)) then (A.chk (decide ((0 : Int) ≤ i)) (nthE A (encB l) i.toNat fun v0 => asI A .u8 v0 fun n1 => A.chk true (next [int .u32 (bits Go.BinOp.or IntKind.u32 (IntKind.u32.wrap (x * (2 : Int) ^ (8 : Nat))) (IntKind.u32.wrap n1)), lst .ro 1 (encB l), int .i64 m, int .i64 (IntKind.i64.wrap (i + (1 : Int)))] [[lst .ro 1 (encB b), int .i64 e]]))) else (kc 1 [int .u32 x] [[lst .ro 1 (encB b), int .i64 e]])
def s_egroupsL {α : Type} (A : Alg α) (l : List UInt8) (b : List UInt8) (u : Int) (m : Int) (i : Int) (e : Int) (next : List AV → List (List AV) → α) (kc : Nat → List AV → List (List AV) → α) : α :=
  bif (decide (i < m)) then (A.chk (decide ((0 : Int) ≤ i)) (nthE A (encB l) i.toNat fun v0 => asI A .u8 v0 fun n1 => A.join (fun x2 => bif (i == (9 : Int)) then (bif (decide (n1 > (1 : Int))) then (x2 true) else (bif (decide (i > (0 : Int))) then (x2 (n1 == (0 : Int))) else (x2 false))) else (bif (decide (i > (0 : Int))) then (x2 (n1 == (0 : Int))) else (x2 false))) fun b3 => bif b3 then (A.chk true (kc 0 [int .u64 0] [[lst .ro 1 (encB b), int .i64 4]])) else (A.chk (decide ((0 : Int) ≤ IntKind.u64.wrap (IntKind.i64.wrap ((7 : Int) * i)))) (bif (decide (n1 < (128 : Int))) then (A.chk (decide ((0 : Int) ≤ IntKind.i64.wrap (i + (1 : Int))) && decide (IntKind.i64.wrap (i + (1 : Int)) ≤ (↑(encB b).length : Int)) && decide ((↑(encB b).length : Int) ≤ (↑(encB b).length : Int)) && decide ((↑(encB b).length : Int) ≤ (↑(encB b).length : Int))) (A.chk true (kc 0 [int .u64 (bits Go.BinOp.or IntKind.u64 u (IntKind.u64.wrap (IntKind.u64.wrap (bits Go.BinOp.andNot IntKind.u8 n1 (128 : Int)) * (2 : Int) ^ Min.min (IntKind.u64.wrap (IntKind.i64.wrap ((7 : Int) * i))).toNat (64 : Nat))))] [[lst .ro 1 (List.drop (IntKind.i64.wrap (i + (1 : Int))).toNat (List.take (↑(encB b).length : Int).toNat (encB b))), int .i64 e]]))) else (next [int .u64 (bits Go.BinOp.or IntKind.u64 u (IntKind.u64.wrap (IntKind.u64.wrap (bits Go.BinOp.andNot IntKind.u8 n1 (128 : Int)) * (2 : Int) ^ Min.min (IntKind.u64.wrap (IntKind.i64.wrap ((7 : Int) * i))).toNat (64 : Nat)))), lst .ro 1 (encB l), int .i64 m, int .i64 (IntKind.i64.wrap (i + (1 : Int)))] [[lst .ro 1 (encB b), int .i64 e]]))))) else (kc 1 [] [[lst .ro 1 (encB b), int .i64 e]])
def s_rCount {α : Type} (A : Alg α) (u : Int) (kc : List AV → List (Nat × List AV) → α) : α :=
  A.loop 2 [int .u64 u, lst (.own (.L 3)) 1 []] [] fun j0 l1 l2 => bif (j0.beq 1) then (asC A l1 fun v3 l4 => asI A .u64 v3 fun n5 => asC A l4 fun v6 l7 => asOwn A 1 v6 fun x8 l9 => bif (x8.beq (.L (3 : Nat))) then (asN A l7 (asN A l2 (A.chk (decide ((l9.length + [int .u8 (IntKind.u8.wrap n5)].length) * 1 ≤ 140737488355328)) (kc [lst (.own (.R 0)) 1 (l9 ++ [int .u8 (IntKind.u8.wrap n5)])] [])))) else A.fail) else A.fail
def s_rCountL {α : Type} (A : Alg α) (u : Int) (b : List AV) (next : List AV → List (List AV) → α) (kc : Nat → List AV → List (List AV) → α) : α :=
  bif (decide (u > (127 : Int))) then (A.chk true (A.chk (decide ((b.length + [int .u8 (IntKind.u8.wrap (IntKind.u64.wrap ((128 : Int) + u.tmod (128 : Int))))].length) * 1 ≤ 140737488355328)) (A.chk true (next [int .u64 (IntKind.u64.wrap (u.tdiv (128 : Int))), lst (.own (.L 3)) 1 (b ++ [int .u8 (IntKind.u8.wrap (IntKind.u64.wrap ((128 : Int) + u.tmod (128 : Int))))])] [])))) else (kc 1 [int .u64 u, lst (.own (.L 3)) 1 b] [])
def s_rNum {α : Type} (A : Alg α) (n : Int) (kc : List AV → List (Nat × List AV) → α) : α :=
  bif (decide (n < (0 : Int))) then (A.call 31 [int .u64 (IntKind.u64.wrap (IntKind.u64.wrap ((2 : Int) * IntKind.u64.wrap (IntKind.i64.wrap ((0 : Int) - IntKind.i64.wrap (n + (1 : Int))))) + (1 : Int)))] [] fun l0 l1 => asC A l0 fun v2 l3 => asOwn A 1 v2 fun x4 l5 => asN A l3 (asN A l1 (kc [lst (.own (.R 0)) 1 l5] []))) else (A.call 31 [int .u64 (IntKind.u64.wrap ((2 : Int) * IntKind.u64.wrap n))] [] fun l6 l7 => asC A l6 fun v8 l9 => asOwn A 1 v8 fun x10 l11 => asN A l9 (asN A l7 (kc [lst (.own (.R 0)) 1 l11] [])))
def s_rWord {α : Type} (A : Alg α) (n : Int) (kc : List AV → List (Nat × List AV) → α) : α :=
  A.chk true (A.chk true (A.chk true (A.chk true (A.chk true (A.chk true (kc [lst (.own (.R 0)) 1 [int .u8 (IntKind.u8.wrap (IntKind.u32.wrap (n.tdiv (16777216 : Int)))), int .u8 (IntKind.u8.wrap ((IntKind.u32.wrap (n.tdiv (65536 : Int))).tmod (256 : Int))), int .u8 (IntKind.u8.wrap ((IntKind.u32.wrap (n.tdiv (256 : Int))).tmod (256 : Int))), int .u8 (IntKind.u8.wrap (n.tmod (256 : Int)))]] []))))))
def s_rText {α : Type} (A : Alg α) (s : List UInt8) (kc : List AV → List (Nat × List AV) → α) : α :=
  A.asm (s.length ≤ maxL) (A.call 31 [int .u64 (IntKind.u64.wrap (↑s.length : Int))] [] fun l0 l1 => asC A l0 fun v2 l3 => asOwn A 1 v2 fun x4 l5 => asN A l3 (asN A l1 (A.chk (decide ((l5.length + (encB s).length) * 1 ≤ 140737488355328)) (kc [lst .ro 1 (l5 ++ encB s)] []))))
def s_yTake {α : Type} (A : Alg α) (b : List UInt8) (e : Int) (n : Int) (kc : List AV → List (Nat × List AV) → α) : α :=
  A.join (fun x0 => bif (e == (0 : Int)) then (A.asm ((encB b).length ≤ maxL) (x0 (decide (n > (↑(encB b).length : Int))))) else (x0 false)) fun b1 => bif b1 then (A.chk true (kc [lst .ro 1 []] [(0, [lst .ro 1 (encB b), int .i64 5])])) else (bif (e != (0 : Int)) then (kc [lst .ro 1 []] [(0, [lst .ro 1 (encB b), int .i64 e])]) else (A.chk (decide ((0 : Int) ≤ (0 : Int)) && decide ((0 : Int) ≤ n) && decide (n ≤ (↑(encB b).length : Int)) && decide ((↑(encB b).length : Int) ≤ (↑(encB b).length : Int))) (A.chk (decide ((0 : Int) ≤ n) && decide (n ≤ (↑(encB b).length : Int)) && decide ((↑(encB b).length : Int) ≤ (↑(encB b).length : Int)) && decide ((↑(encB b).length : Int) ≤ (↑(encB b).length : Int))) (A.chk true (kc [lst .ro 1 (List.drop (0 : Nat) (List.take n.toNat (encB b)))] [(0, [lst .ro 1 (List.drop n.toNat (List.take (↑(encB b).length : Int).toNat (encB b))), int .i64 e])])))))
def s_ygroups {α : Type} (A : Alg α) (b : List UInt8) (kc : List AV → List (Nat × List AV) → α) : α :=
  A.loop 4 [lst .ro 1 (encB b), int .u64 0, int .u64 1, int .i64 0] [] fun j0 l1 l2 => bif (j0.beq 0) then (asC A l1 fun v3 l4 => asI A .u64 v3 fun n5 => asC A l4 fun v6 l7 => asI A .i64 v6 fun n8 => asC A l7 fun v9 l10 => asI A .i64 v9 fun n11 => asN A l10 (asN A l2 (kc [int .u64 n5, int .i64 n8, int .i64 n11] []))) else (bif (j0.beq 1) then (asN A l1 (asN A l2 (kc [int .u64 0, int .i64 0, int .i64 5] []))) else A.fail)
def s_ygroupsL {α : Type} (A : Alg α) (l : List UInt8) (u : Int) (w : Int) (i : Int) (next : List AV → List (List AV) → α) (kc : Nat → List AV → List (List AV) → α) : α :=
  A.join (fun x0 => A.asm ((encB l).length ≤ maxL) (bif (decide (i < (↑(encB l).length : Int))) then (x0 (decide (i < (10 : Int)))) else (x0 false))) fun b1 => bif b1 then (A.chk (decide ((0 : Int) ≤ i)) (nthE A (encB l) i.toNat fun v2 => asI A .u8 v2 fun n3 => A.join (fun x4 => bif (i == (9 : Int)) then (x4 (decide (IntKind.u64.wrap n3 > (1 : Int)))) else (x4 false)) fun b5 => bif b5 then (kc 0 [int .u64 0, int .i64 0, int .i64 4] []) else (A.join (fun x6 => bif (decide (i > (0 : Int))) then (x6 (IntKind.u64.wrap n3 == (0 : Int))) else (x6 false)) fun b7 => bif b7 then (kc 0 [int .u64 0, int .i64 0, int .i64 4] []) else (A.chk true (bif (decide (IntKind.u64.wrap n3 < (128 : Int))) then (kc 0 [int .u64 (IntKind.u64.wrap (u + IntKind.u64.wrap ((IntKind.u64.wrap n3).tmod (128 : Int) * w))), int .i64 (IntKind.i64.wrap (i + (1 : Int))), int .i64 0] []) else (next [lst .ro 1 (encB l), int .u64 (IntKind.u64.wrap (u + IntKind.u64.wrap ((IntKind.u64.wrap n3).tmod (128 : Int) * w))), int .u64 (IntKind.u64.wrap (w * (128 : Int))), int .i64 (IntKind.i64.wrap (i + (1 : Int)))] [])))))) else (kc 1 [] [])
def s_yCount {α : Type} (A : Alg α) (b : List UInt8) (e : Int) (m : Int) (kc : List AV → List (Nat × List AV) → α) : α :=
  bif (e != (0 : Int)) then (kc [int .i64 0] [(0, [lst .ro 1 (encB b), int .i64 e])]) else (A.callx 77 [lst .ro 1 (encB b)] fun l0 => asC A l0 fun v1 l2 => asI A .u64 v1 fun n3 => asC A l2 fun v4 l5 => asI A .i64 v4 fun n6 => asC A l5 fun v7 l8 => asI A .i64 v7 fun n9 => asN A l8 (A.join (fun x10 => bif (n9 == (0 : Int)) then (x10 (decide (n3 ≥ (9223372036854775808 : Int)))) else (x10 false)) fun b11 => bif b11 then (A.join (fun x12 => x12 false) fun b13 => bif b13 then (A.chk true (kc [int .i64 0] [(0, [lst .ro 1 (encB b), int .i64 7])])) else (A.chk true (kc [int .i64 0] [(0, [lst .ro 1 (encB b), int .i64 4])]))) else (A.join (fun x14 => bif (n9 == (0 : Int)) then (x14 (decide (IntKind.i64.wrap n3 > if m < (0 : Int) then (0 : Int) else m))) else (x14 false)) fun b15 => bif b15 then (A.chk true (kc [int .i64 0] [(0, [lst .ro 1 (encB b), int .i64 7])])) else (bif (n9 != (0 : Int)) then (A.chk true (kc [int .i64 0] [(0, [lst .ro 1 (encB b), int .i64 n9])])) else (A.chk (decide ((0 : Int) ≤ n6) && decide (n6 ≤ (↑(encB b).length : Int)) && decide ((↑(encB b).length : Int) ≤ (↑(encB b).length : Int)) && decide ((↑(encB b).length : Int) ≤ (↑(encB b).length : Int))) (A.chk true (kc [int .i64 (IntKind.i64.wrap n3)] [(0, [lst .ro 1 (List.drop n6.toNat (List.take (↑(encB b).length : Int).toNat (encB b))), int .i64 e])])))))))
def s_yNum {α : Type} (A : Alg α) (b : List UInt8) (e : Int) (kc : List AV → List (Nat × List AV) → α) : α :=
  bif (e != (0 : Int)) then (kc [int .i64 0] [(0, [lst .ro 1 (encB b), int .i64 e])]) else (A.callx 77 [lst .ro 1 (encB b)] fun l0 => asC A l0 fun v1 l2 => asI A .u64 v1 fun n3 => asC A l2 fun v4 l5 => asI A .i64 v4 fun n6 => asC A l5 fun v7 l8 => asI A .i64 v7 fun n9 => asN A l8 (bif (n9 != (0 : Int)) then (A.chk true (kc [int .i64 0] [(0, [lst .ro 1 (encB b), int .i64 n9])])) else (A.chk (decide ((0 : Int) ≤ n6) && decide (n6 ≤ (↑(encB b).length : Int)) && decide ((↑(encB b).length : Int) ≤ (↑(encB b).length : Int)) && decide ((↑(encB b).length : Int) ≤ (↑(encB b).length : Int))) (A.chk true (A.chk true (bif (n3.tmod (2 : Int) == (1 : Int)) then (A.chk true (kc [int .i64 (IntKind.i64.wrap (IntKind.i64.wrap ((0 : Int) - IntKind.i64.wrap (IntKind.u64.wrap (n3.tdiv (2 : Int)))) - (1 : Int)))] [(0, [lst .ro 1 (List.drop n6.toNat (List.take (↑(encB b).length : Int).toNat (encB b))), int .i64 e])])) else (A.chk true (kc [int .i64 (IntKind.i64.wrap (IntKind.u64.wrap (n3.tdiv (2 : Int))))] [(0, [lst .ro 1 (List.drop n6.toNat (List.take (↑(encB b).length : Int).toNat (encB b))), int .i64 e])]))))))))
def s_yWord {α : Type} (A : Alg α) (b : List UInt8) (e : Int) (kc : List AV → List (Nat × List AV) → α) : α :=
  A.call 78 [ref 0 0, int .i64 4] [(0, [lst .ro 1 (encB b), int .i64 e])] fun l0 l1 => asC A l1 fun x2 l3 => bif (x2.1.beq 0) then (asC A x2.2 fun v4 l5 => asL A 1 v4 fun l6 => asC A l5 fun v7 l8 => asI A .i64 v7 fun n9 => asN A l8 (asC A l0 fun v10 l11 => asL A 1 v10 fun l12 => asN A l11 (asN A l3 (A.loop 4 [int .u32 0, lst .ro 1 l12, int .i64 0] [[lst .ro 1 l6, int .i64 n9]] fun j13 l14 l15 => bif (j13.beq 1) then (asC A l14 fun v16 l17 => asI A .u32 v16 fun n18 => asN A l17 (asC A l15 fun l19 l20 => asC A l19 fun v21 l22 => asL A 1 v21 fun l23 => asC A l22 fun v24 l25 => asI A .i64 v24 fun n26 => asN A l25 (asN A l20 (kc [int .u32 n18] [(0, [lst .ro 1 l23, int .i64 n26])])))) else A.fail)))) else A.fail
def s_yWordL {α : Type} (A : Alg α) (l : List UInt8) (b : List UInt8) (x : Int) (i : Int) (e : Int) (next : List AV → List (List AV) → α) (kc : Nat → List AV → List (List AV) → α) : α :=
  A.asm ((encB l).length ≤ maxL) (bif (decide (i < (↑(encB l).length : Int))) then (A.chk (decide ((0 : Int) ≤ i)) (nthE A (encB l) i.toNat fun v0 => asI A .u8 v0 fun n1 => next [int .u32 (IntKind.u32.wrap (IntKind.u32.wrap ((256 : Int) * x) + IntKind.u32.wrap n1)), lst .ro 1 (encB l), int .i64 (IntKind.i64.wrap (i + (1 : Int)))] [[lst .ro 1 (encB b), int .i64 e]])) else (kc 1 [int .u32 x] [[lst .ro 1 (encB b), int .i64 e]]))
def s_yText {α : Type} (A : Alg α) (b : List UInt8) (e : Int) (m : Int) (kc : List AV → List (Nat × List AV) → α) : α :=
  A.call 41 [ref 0 0, int .i64 m] [(0, [lst .ro 1 (encB b), int .i64 e])] fun l0 l1 => asC A l1 fun x2 l3 => bif (x2.1.beq 0) then (asC A x2.2 fun v4 l5 => asL A 1 v4 fun l6 => asC A l5 fun v7 l8 => asI A .i64 v7 fun n9 => asN A l8 (asC A l0 fun v10 l11 => asI A .i64 v10 fun n12 => asN A l11 (asN A l3 (A.call 78 [ref 0 0, int .i64 n12] [(0, [lst .ro 1 l6, int .i64 n9])] fun l13 l14 => asC A l14 fun x15 l16 => bif (x15.1.beq 0) then (asC A x15.2 fun v17 l18 => asL A 1 v17 fun l19 => asC A l18 fun v20 l21 => asI A .i64 v20 fun n22 => asN A l21 (asC A l13 fun v23 l24 => asL A 1 v23 fun l25 => asN A l24 (asN A l16 (orFail A (bytesOf l25) fun l26 => bif (n22 != (0 : Int)) then (A.chk true (kc [str l26] [(0, [lst .ro 1 (encB b), int .i64 n22])])) else (kc [str l26] [(0, [lst .ro 1 l19, int .i64 n22])]))))) else A.fail)))) else A.fail
def s_yEnd {α : Type} (A : Alg α) (b : List UInt8) (e : Int) (kc : List AV → List (Nat × List AV) → α) : α :=
  A.join (fun x0 => bif (e == (0 : Int)) then (A.asm ((encB b).length ≤ maxL) (x0 (decide ((↑(encB b).length : Int) > (0 : Int))))) else (x0 false)) fun b1 => bif b1 then (kc [int .i64 6] [(0, [lst .ro 1 (encB b), int .i64 e])]) else (kc [int .i64 e] [(0, [lst .ro 1 (encB b), int .i64 e])])
theorem t_put (b m : List AV) (e : Int) {r : CR} (h : s_put (OA (tbl E0) (ltbl E0 62 0)) b m e (fun r o => some (r, o)) = some r) : tbl E0 62 [.ref 0 0, .lst .ro 1 m] (penA b e) = some r :=
  tbl_of (body := bodyOf Tryz.f62) Tryz.func62 (by kernel_rfl) (by kernel_rfl) (by kernel_rfl) (Eq.trans (by kernel_rfl) h)
theorem t_groups (b : List AV) (u : Int) (e : Int) {r : CR} (h : s_groups (OA (tbl E0) (ltbl E0 61 0)) b u e (fun r o => some (r, o)) = some r) : tbl E0 61 [.ref 0 0, .int .u64 u] (penA b e) = some r :=
  tbl_of (body := bodyOf Tryz.f61) Tryz.func61 (by kernel_rfl) (by kernel_rfl) (by kernel_rfl) (Eq.trans (by kernel_rfl) h)
theorem t_groupsL (b : List AV) (u : Int) (e : Int) {r : LR} (h : s_groupsL (OA (tbl E0) (ltbl E0 61 0)) b u e (fun vs os => ltbl E0 61 0 0 vs os) (fun j vs os => some (j, vs, os)) = some r) : ltbl E0 61 0 0 [.int .u64 u] [[.lst (.own (.O 0 0)) 1 b, .int .i64 e]] = some r :=
  ltbl_of (body := bodyOf Tryz.f61) Tryz.func61 (by kernel_rfl) (by kernel_rfl) (Eq.trans (by kernel_rfl) h)
theorem t_PCount (b : List AV) (n : Int) (e : Int) {r : CR} (h : s_PCount (OA (tbl E0) (ltbl E0 26 0)) b n e (fun r o => some (r, o)) = some r) : tbl E0 26 [.ref 0 0, .int .i64 n] (penA b e) = some r :=
  tbl_of (body := bodyOf Tryz.f26) Tryz.func26 (by kernel_rfl) (by kernel_rfl) (by kernel_rfl) (Eq.trans (by kernel_rfl) h)
theorem t_PNum (b : List AV) (n : Int) (e : Int) {r : CR} (h : s_PNum (OA (tbl E0) (ltbl E0 84 0)) b n e (fun r o => some (r, o)) = some r) : tbl E0 84 [.ref 0 0, .int .i64 n] (penA b e) = some r :=
  tbl_of (body := bodyOf Tryz.f84) Tryz.func84 (by kernel_rfl) (by kernel_rfl) (by kernel_rfl) (Eq.trans (by kernel_rfl) h)
theorem t_PWord (b : List AV) (n : Int) (e : Int) {r : CR} (h : s_PWord (OA (tbl E0) (ltbl E0 49 0)) b n e (fun r o => some (r, o)) = some r) : tbl E0 49 [.ref 0 0, .int .u32 n] (penA b e) = some r :=
  tbl_of (body := bodyOf Tryz.f49) Tryz.func49 (by kernel_rfl) (by kernel_rfl) (by kernel_rfl) (Eq.trans (by kernel_rfl) h)
theorem t_PText (b : List AV) (s : List UInt8) (e : Int) {r : CR} (h : s_PText (OA (tbl E0) (ltbl E0 27 0)) b s e (fun r o => some (r, o)) = some r) : tbl E0 27 [.ref 0 0, .str s] (penA b e) = some r :=
  tbl_of (body := bodyOf Tryz.f27) Tryz.func27 (by kernel_rfl) (by kernel_rfl) (by kernel_rfl) (Eq.trans (by kernel_rfl) h)
theorem t_CloneB (b : List UInt8) {r : CR} (h : s_CloneB (OA (tbl E0) (ltbl E0 63 0)) b (fun r o => some (r, o)) = some r) : tbl E0 63 [.lst .ro 1 (encB b)] [] = some r :=
  tbl_of (body := bodyOf Tryz.f63) Tryz.func63 (by kernel_rfl) (by kernel_rfl) (by kernel_rfl) (Eq.trans (by kernel_rfl) h)
theorem t_PDone (b : List AV) (e : Int) {r : CR} (h : s_PDone (OA (tbl E0) (ltbl E0 28 0)) b e (fun r o => some (r, o)) = some r) : tbl E0 28 [.ref 0 0] (penA b e) = some r :=
  tbl_of (body := bodyOf Tryz.f28) Tryz.func28 (by kernel_rfl) (by kernel_rfl) (by kernel_rfl) (Eq.trans (by kernel_rfl) h)
theorem t_New  {r : CR} (h : s_New (OA (tbl E0) (ltbl E0 25 0))  (fun r o => some (r, o)) = some r) : tbl E0 25 [] [] = some r :=
  tbl_of (body := bodyOf Tryz.f25) Tryz.func25 (by kernel_rfl) (by kernel_rfl) (by kernel_rfl) (Eq.trans (by kernel_rfl) h)
theorem t_Of (b : List UInt8) {r : CR} (h : s_Of (OA (tbl E0) (ltbl E0 35 0)) b (fun r o => some (r, o)) = some r) : tbl E0 35 [.lst .ro 1 (encB b)] [] = some r :=
  tbl_of (body := bodyOf Tryz.f35) Tryz.func35 (by kernel_rfl) (by kernel_rfl) (by kernel_rfl) (Eq.trans (by kernel_rfl) h)
theorem t_take (b : List UInt8) (e n : Int) {r : CR} (h : s_take (OA (tbl E0) (ltbl E0 72 0)) b e n (fun r o => some (r, o)) = some r) : tbl E0 72 [.ref 0 0, .int .i64 n] (eyeV b e) = some r :=
  tbl_of (body := bodyOf Tryz.f72) Tryz.func72 (by kernel_rfl) (by kernel_rfl) (by kernel_rfl) (Eq.trans (by kernel_rfl) h)
theorem t_left (b : List UInt8) (e : Int) {r : CR} (h : s_left (OA (tbl E0) (ltbl E0 69 0)) b e (fun r o => some (r, o)) = some r) : tbl E0 69 [.ref 0 0] (eyeV b e) = some r :=
  tbl_of (body := bodyOf Tryz.f69) Tryz.func69 (by kernel_rfl) (by kernel_rfl) (by kernel_rfl) (Eq.trans (by kernel_rfl) h)
theorem t_back (b c : List UInt8) (e f : Int) {r : CR} (h : s_back (OA (tbl E0) (ltbl E0 71 0)) b c e f (fun r o => some (r, o)) = some r) : tbl E0 71 [.ref 0 0, .lst .ro 1 (encB c), .int .i64 f] (eyeV b e) = some r :=
  tbl_of (body := bodyOf Tryz.f71) Tryz.func71 (by kernel_rfl) (by kernel_rfl) (by kernel_rfl) (Eq.trans (by kernel_rfl) h)
theorem t_ECount (b : List UInt8) (e n : Int) {r : CR} (h : s_ECount (OA (tbl E0) (ltbl E0 36 0)) b e n (fun r o => some (r, o)) = some r) : tbl E0 36 [.ref 0 0, .int .i64 n] (eyeV b e) = some r :=
  tbl_of (body := bodyOf Tryz.f36) Tryz.func36 (by kernel_rfl) (by kernel_rfl) (by kernel_rfl) (Eq.trans (by kernel_rfl) h)
theorem t_ENum (b : List UInt8) (e : Int) {r : CR} (h : s_ENum (OA (tbl E0) (ltbl E0 100 0)) b e (fun r o => some (r, o)) = some r) : tbl E0 100 [.ref 0 0] (eyeV b e) = some r :=
  tbl_of (body := bodyOf Tryz.f100) Tryz.func100 (by kernel_rfl) (by kernel_rfl) (by kernel_rfl) (Eq.trans (by kernel_rfl) h)
theorem t_EWord (b : List UInt8) (e : Int) {r : CR} (h : s_EWord (OA (tbl E0) (ltbl E0 51 0)) b e (fun r o => some (r, o)) = some r) : tbl E0 51 [.ref 0 0] (eyeV b e) = some r :=
  tbl_of (body := bodyOf Tryz.f51) Tryz.func51 (by kernel_rfl) (by kernel_rfl) (by kernel_rfl) (Eq.trans (by kernel_rfl) h)
theorem t_EText (b : List UInt8) (e n : Int) {r : CR} (h : s_EText (OA (tbl E0) (ltbl E0 37 0)) b e n (fun r o => some (r, o)) = some r) : tbl E0 37 [.ref 0 0, .int .i64 n] (eyeV b e) = some r :=
  tbl_of (body := bodyOf Tryz.f37) Tryz.func37 (by kernel_rfl) (by kernel_rfl) (by kernel_rfl) (Eq.trans (by kernel_rfl) h)
theorem t_Left (b : List UInt8) (e : Int) {r : CR} (h : s_Left (OA (tbl E0) (ltbl E0 54 0)) b e (fun r o => some (r, o)) = some r) : tbl E0 54 [.ref 0 0] (eyeV b e) = some r :=
  tbl_of (body := bodyOf Tryz.f54) Tryz.func54 (by kernel_rfl) (by kernel_rfl) (by kernel_rfl) (Eq.trans (by kernel_rfl) h)
theorem t_Bad (b : List UInt8) (e : Int) {r : CR} (h : s_Bad (OA (tbl E0) (ltbl E0 52 0)) b e (fun r o => some (r, o)) = some r) : tbl E0 52 [.ref 0 0] (eyeV b e) = some r :=
  tbl_of (body := bodyOf Tryz.f52) Tryz.func52 (by kernel_rfl) (by kernel_rfl) (by kernel_rfl) (Eq.trans (by kernel_rfl) h)
theorem t_End (b : List UInt8) (e : Int) {r : CR} (h : s_End (OA (tbl E0) (ltbl E0 38 0)) b e (fun r o => some (r, o)) = some r) : tbl E0 38 [.ref 0 0] (eyeV b e) = some r :=
  tbl_of (body := bodyOf Tryz.f38) Tryz.func38 (by kernel_rfl) (by kernel_rfl) (by kernel_rfl) (Eq.trans (by kernel_rfl) h)
theorem t_egroups (b : List UInt8) (e : Int) {r : CR} (h : s_egroups (OA (tbl E0) (ltbl E0 70 0)) b e (fun r o => some (r, o)) = some r) : tbl E0 70 [.ref 0 0] (eyeV b e) = some r :=
  tbl_of (body := bodyOf Tryz.f70) Tryz.func70 (by kernel_rfl) (by kernel_rfl) (by kernel_rfl) (Eq.trans (by kernel_rfl) h)
theorem t_EWordL (l b : List UInt8) (x m i e : Int) {r : LR} (h : s_EWordL (OA (tbl E0) (ltbl E0 51 0)) l b x m i e (fun vs os => ltbl E0 51 0 3 vs os) (fun j vs os => some (j, vs, os)) = some r) : ltbl E0 51 0 3 [.int .u32 x, .lst .ro 1 (encB l), .int .i64 m, .int .i64 i] [[.lst .ro 1 (encB b), .int .i64 e]] = some r :=
  ltbl_of (body := bodyOf Tryz.f51) Tryz.func51 (by kernel_rfl) (by kernel_rfl) (Eq.trans (by kernel_rfl) h)
theorem t_egroupsL (l b : List UInt8) (u m i e : Int) {r : LR} (h : s_egroupsL (OA (tbl E0) (ltbl E0 70 0)) l b u m i e (fun vs os => ltbl E0 70 0 5 vs os) (fun j vs os => some (j, vs, os)) = some r) : ltbl E0 70 0 5 [.int .u64 u, .lst .ro 1 (encB l), .int .i64 m, .int .i64 i] [[.lst .ro 1 (encB b), .int .i64 e]] = some r :=
  ltbl_of (body := bodyOf Tryz.f70) Tryz.func70 (by kernel_rfl) (by kernel_rfl) (Eq.trans (by kernel_rfl) h)
theorem t_rCount (u : Int) {r : CR} (h : s_rCount (OA (tbl E0) (ltbl E0 31 0)) u (fun r o => some (r, o)) = some r) : tbl E0 31 [.int .u64 u] [] = some r :=
  tbl_of (body := bodyOf Tryz.f31) Tryz.func31 (by kernel_rfl) (by kernel_rfl) (by kernel_rfl) (Eq.trans (by kernel_rfl) h)
theorem t_rCountL (u : Int) (b : List AV) {r : LR} (h : s_rCountL (OA (tbl E0) (ltbl E0 31 0)) u b (fun vs os => ltbl E0 31 0 2 vs os) (fun j vs os => some (j, vs, os)) = some r) : ltbl E0 31 0 2 [.int .u64 u, .lst (.own (.L 3)) 1 b] [] = some r :=
  ltbl_of (body := bodyOf Tryz.f31) Tryz.func31 (by kernel_rfl) (by kernel_rfl) (Eq.trans (by kernel_rfl) h)
theorem t_rNum (n : Int) {r : CR} (h : s_rNum (OA (tbl E0) (ltbl E0 98 0)) n (fun r o => some (r, o)) = some r) : tbl E0 98 [.int .i64 n] [] = some r :=
  tbl_of (body := bodyOf Tryz.f98) Tryz.func98 (by kernel_rfl) (by kernel_rfl) (by kernel_rfl) (Eq.trans (by kernel_rfl) h)
theorem t_rWord (n : Int) {r : CR} (h : s_rWord (OA (tbl E0) (ltbl E0 50 0)) n (fun r o => some (r, o)) = some r) : tbl E0 50 [.int .u32 n] [] = some r :=
  tbl_of (body := bodyOf Tryz.f50) Tryz.func50 (by kernel_rfl) (by kernel_rfl) (by kernel_rfl) (Eq.trans (by kernel_rfl) h)
theorem t_rText (s : List UInt8) {r : CR} (h : s_rText (OA (tbl E0) (ltbl E0 32 0)) s (fun r o => some (r, o)) = some r) : tbl E0 32 [.str s] [] = some r :=
  tbl_of (body := bodyOf Tryz.f32) Tryz.func32 (by kernel_rfl) (by kernel_rfl) (by kernel_rfl) (Eq.trans (by kernel_rfl) h)
theorem t_yTake (b : List UInt8) (e n : Int) {r : CR} (h : s_yTake (OA (tbl E0) (ltbl E0 78 0)) b e n (fun r o => some (r, o)) = some r) : tbl E0 78 [.ref 0 0, .int .i64 n] (eyeV b e) = some r :=
  tbl_of (body := bodyOf Tryz.f78) Tryz.func78 (by kernel_rfl) (by kernel_rfl) (by kernel_rfl) (Eq.trans (by kernel_rfl) h)
theorem t_ygroups (b : List UInt8) {r : CR} (h : s_ygroups (OA (tbl E0) (ltbl E0 77 0)) b (fun r o => some (r, o)) = some r) : tbl E0 77 [.lst .ro 1 (encB b)] [] = some r :=
  tbl_of (body := bodyOf Tryz.f77) Tryz.func77 (by kernel_rfl) (by kernel_rfl) (by kernel_rfl) (Eq.trans (by kernel_rfl) h)
theorem t_ygroupsL (l : List UInt8) (u w i : Int) {r : LR} (h : s_ygroupsL (OA (tbl E0) (ltbl E0 77 0)) l u w i (fun vs os => ltbl E0 77 0 4 vs os) (fun j vs os => some (j, vs, os)) = some r) : ltbl E0 77 0 4 [.lst .ro 1 (encB l), .int .u64 u, .int .u64 w, .int .i64 i] [] = some r :=
  ltbl_of (body := bodyOf Tryz.f77) Tryz.func77 (by kernel_rfl) (by kernel_rfl) (Eq.trans (by kernel_rfl) h)
theorem t_yCount (b : List UInt8) (e m : Int) {r : CR} (h : s_yCount (OA (tbl E0) (ltbl E0 41 0)) b e m (fun r o => some (r, o)) = some r) : tbl E0 41 [.ref 0 0, .int .i64 m] (eyeV b e) = some r :=
  tbl_of (body := bodyOf Tryz.f41) Tryz.func41 (by kernel_rfl) (by kernel_rfl) (by kernel_rfl) (Eq.trans (by kernel_rfl) h)
theorem t_yNum (b : List UInt8) (e : Int) {r : CR} (h : s_yNum (OA (tbl E0) (ltbl E0 103 0)) b e (fun r o => some (r, o)) = some r) : tbl E0 103 [.ref 0 0] (eyeV b e) = some r :=
  tbl_of (body := bodyOf Tryz.f103) Tryz.func103 (by kernel_rfl) (by kernel_rfl) (by kernel_rfl) (Eq.trans (by kernel_rfl) h)
theorem t_yWord (b : List UInt8) (e : Int) {r : CR} (h : s_yWord (OA (tbl E0) (ltbl E0 55 0)) b e (fun r o => some (r, o)) = some r) : tbl E0 55 [.ref 0 0] (eyeV b e) = some r :=
  tbl_of (body := bodyOf Tryz.f55) Tryz.func55 (by kernel_rfl) (by kernel_rfl) (by kernel_rfl) (Eq.trans (by kernel_rfl) h)
theorem t_yWordL (l b : List UInt8) (x i e : Int) {r : LR} (h : s_yWordL (OA (tbl E0) (ltbl E0 55 0)) l b x i e (fun vs os => ltbl E0 55 0 4 vs os) (fun j vs os => some (j, vs, os)) = some r) : ltbl E0 55 0 4 [.int .u32 x, .lst .ro 1 (encB l), .int .i64 i] [[.lst .ro 1 (encB b), .int .i64 e]] = some r :=
  ltbl_of (body := bodyOf Tryz.f55) Tryz.func55 (by kernel_rfl) (by kernel_rfl) (Eq.trans (by kernel_rfl) h)
theorem t_yText (b : List UInt8) (e m : Int) {r : CR} (h : s_yText (OA (tbl E0) (ltbl E0 42 0)) b e m (fun r o => some (r, o)) = some r) : tbl E0 42 [.ref 0 0, .int .i64 m] (eyeV b e) = some r :=
  tbl_of (body := bodyOf Tryz.f42) Tryz.func42 (by kernel_rfl) (by kernel_rfl) (by kernel_rfl) (Eq.trans (by kernel_rfl) h)
theorem t_yEnd (b : List UInt8) (e : Int) {r : CR} (h : s_yEnd (OA (tbl E0) (ltbl E0 43 0)) b e (fun r o => some (r, o)) = some r) : tbl E0 43 [.ref 0 0] (eyeV b e) = some r :=
  tbl_of (body := bodyOf Tryz.f43) Tryz.func43 (by kernel_rfl) (by kernel_rfl) (by kernel_rfl) (Eq.trans (by kernel_rfl) h)
end Go.Proofs.YtmpfeofeokmooaaGreat.V
namespace Go.Proofs.YtmpfeofeokmooaaGreat.V
open Go
open AV (int lst agg str bool ref clo)
open List (map)
end Go.Proofs.YtmpfeofeokmooaaGreat.V
namespace Go.Proofs.YtmpfeofeokmooaaGreat.V
open Go
def cnt (u : Nat) : List UInt8 := if u < 128 then [byt u] else byt (u % 128 + 128) :: cnt (u / 128)
termination_by u
decreasing_by omega
def cntI (u : Nat) : List UInt8 := if u < 128 then [] else byt (u % 128 + 128) :: cntI (u / 128)
termination_by u
decreasing_by omega
def cntL (u : Nat) : Nat := if u < 128 then u else cntL (u / 128)
termination_by u
decreasing_by omega
theorem cnt_eq (u : Nat) : cnt u = cntI u ++ [byt (cntL u)] := by
  induction u using cnt.induct with
  | case1 u h => rw [cnt, cntI, cntL]; simp [h]
  | case2 u h ih => rw [cnt, cntI, cntL]; simp [h, ih]
theorem cntL_lt (u : Nat) : cntL u < 128 := by
  induction u using cntL.induct with
  | case1 u h => rw [cntL]; simp [h]
  | case2 u h ih => rw [cntL]; simp [h, ih]
theorem cnt_len (k u : Nat) (h : u < 128 ^ (k + 1)) : (cnt u).length ≤ k + 1 := by
  induction k generalizing u with
  | zero => rw [cnt]; simp at h; simp [h]
  | succ k ih =>
    rw [cnt]
    split
    · simp
    · have : u / 128 < 128 ^ (k + 1) := by rw [Nat.div_lt_iff_lt_mul (by omega)]; rw [Nat.pow_succ] at h; exact h
      have := ih _ this
      simp; omega
theorem cnt_len10 {u : Nat} (h : u < 18446744073709551616) : (cnt u).length ≤ 10 := cnt_len 9 u (Nat.lt_of_lt_of_le h (by decide))
theorem cntI_len {u : Nat} (h : u < 18446744073709551616) : (cntI u).length + 1 ≤ 10 := by
  have := cnt_len10 h
  rw [cnt_eq] at this
  simpa using this
theorem c_put (b m : List AV) (e : Int) (h : b.length + m.length ≤ 140737488355328) : tbl E0 62 [.ref 0 0, .lst .ro 1 m] (penA b e) = some ([], penA (b ++ m) e) :=
  t_put b m e (by simp [s_put, h, penA])
theorem fdiv7 (u : Nat) : (u : Int).fdiv ((2 : Int) ^ (7 : Nat)) = ((u / 128 : Nat) : Int) := by
  rw [Int.fdiv_eq_ediv_of_nonneg _ (by decide)]; omega
theorem or128' (u : Nat) : bits .or .u8 (IntKind.u8.wrap (u : Int)) 128 = ((u % 128 + 128 : Nat) : Int) := by
  rw [wrap_u8, show (u : Int) % 256 = ((u % 256 : Nat) : Int) by omega, or128 _ (by omega)]
  have : u % 256 % 128 = u % 128 := by omega
  rw [this]
theorem c_pgroupsL (u : Nat) : ∀ (b : List AV) (e : Int), u < 18446744073709551616 → b.length + (cntI u).length ≤ 140737488355328 → ltbl E0 61 0 0 [.int .u64 u] [[.lst (.own (.O 0 0)) 1 b, .int .i64 e]] = some (1, [.int .u64 (cntL u : Nat)], [[.lst (.own (.O 0 0)) 1 (b ++ encB (cntI u)), .int .i64 e]]) := by
  induction u using cnt.induct with
  | case1 u h =>
    intro b e hu hb
    refine t_groupsL b u e ?_
    rw [cntL, cntI]
    have : ¬ (128 : Int) ≤ (u : Int) := by omega
    simp [s_groupsL, h, this, encB_nil]
  | case2 u h ih =>
    intro b e hu hb
    refine t_groupsL b u e ?_
    rw [cntI] at hb
    simp only [h, if_false, List.length_cons] at hb
    rw [cntL, cntI]
    have h1 : (128 : Int) ≤ (u : Int) := by omega
    have hp := c_put b [.int .u8 ((u % 128 + 128 : Nat) : Int)] e (by simp; omega)
    simp only [penA] at hp
    have h2 := ih (b ++ [.int .u8 ((u % 128 + 128 : Nat) : Int)]) e (by omega) (by simp; omega)
    simp only [s_groupsL, or128', fdiv7]
    simp only [ge_iff_le, h1, decide_true, cond_true, OA_call, hp, Option.bind_some, u_asC, u_asOwn, u_asI, u_asN, OA_chk, Nat.beq_eq_true_eq, h2, h, if_false]
    simp only [encB_cons, byt_toNat (show u % 128 + 128 < 256 by omega), List.append_assoc, List.singleton_append]
    rfl
theorem c_pgroups (b : List AV) (u : Nat) (e : Int) (hu : u < 18446744073709551616) (hb : b.length + 10 ≤ 140737488355328) : tbl E0 61 [.ref 0 0, .int .u64 u] (penA b e) = some ([], penA (b ++ encB (cnt u)) e) :=
  t_groups b u e (by
    have hl := cntI_len hu
    have h1 := c_pgroupsL u b e hu (by omega)
    have h2 := c_put (b ++ encB (cntI u)) [.int .u8 (cntL u : Nat)] e (by simp; omega)
    have h3 := cntL_lt u
    simp only [penA] at h2
    simp [s_groups, h1, wrap_u8_id (show (0 : Int) ≤ (cntL u : Nat) by omega) (by omega), h2, penA, cnt_eq, encB_append, encB_cons, encB_nil, byt_toNat (show cntL u < 256 by omega)])
end Go.Proofs.YtmpfeofeokmooaaGreat.V
namespace Go.Proofs.YtmpfeofeokmooaaGreat.V
open Go
theorem c_PCount (b : List AV) (n e : Int) (hb : b.length + 10 ≤ 140737488355328) (hn : n ≤ 9223372036854775807) : tbl E0 26 [.ref 0 0, .int .i64 n] (penA b e) = some ([], if n < 0 then penA b 2 else penA (b ++ encB (cnt n.toNat)) e) :=
  t_PCount b n e (by
    by_cases h : n < 0
    · simp [s_PCount, h]
    · have h1 := c_pgroups b n.toNat e (by omega) hb
      rw [Int.toNat_of_nonneg (by omega)] at h1
      simp [s_PCount, h, wrap_u64_id (show 0 ≤ n by omega) (by omega), h1])
theorem c_PNum (b : List AV) (n e : Int) (hb : b.length + 10 ≤ 140737488355328) (h : -9223372036854775808 ≤ n) (h' : n ≤ 9223372036854775807) : tbl E0 84 [.ref 0 0, .int .i64 n] (penA b e) = some ([], penA (b ++ encB (cnt (zz n))) e) :=
  t_PNum b n e (by simp [s_PNum, xor_zz h h', c_pgroups b (zz n) e (zz_lt h h') hb, -Int.reducePow])
def word4 (n : Nat) : List UInt8 := [byt (n / 16777216), byt (n / 65536 % 256), byt (n / 256 % 256), byt (n % 256)]
theorem c_PWord (b : List AV) (n : Nat) (e : Int) (hb : b.length + 4 ≤ 140737488355328) (hn : n < 4294967296) : tbl E0 49 [.ref 0 0, .int .u32 (n : Int)] (penA b e) = some ([], penA (b ++ encB (word4 n)) e) :=
  t_PWord b n e (by
    have e1 : IntKind.u8.wrap ((n : Int).fdiv ((2 : Int) ^ (24 : Nat))) = ((byt (n / 16777216)).toNat : Int) := by rw [Int.fdiv_eq_ediv_of_nonneg _ (by decide), wrap_u8, byt_toNat (by omega)]; omega
    have e2 : IntKind.u8.wrap ((n : Int).fdiv ((2 : Int) ^ (16 : Nat))) = ((byt (n / 65536 % 256)).toNat : Int) := by rw [Int.fdiv_eq_ediv_of_nonneg _ (by decide), wrap_u8, byt_toNat (by omega)]; omega
    have e3 : IntKind.u8.wrap ((n : Int).fdiv ((2 : Int) ^ (8 : Nat))) = ((byt (n / 256 % 256)).toNat : Int) := by rw [Int.fdiv_eq_ediv_of_nonneg _ (by decide), wrap_u8, byt_toNat (by omega)]; omega
    have e4 : IntKind.u8.wrap (n : Int) = ((byt (n % 256)).toNat : Int) := by rw [wrap_u8, byt_toNat (by omega)]; omega
    unfold s_PWord
    rw [e1, e2, e3, e4]
    have hp := c_put b (encB (word4 n)) e (by simpa [word4] using hb)
    rw [show encB (word4 n) = [.int .u8 ((byt (n / 16777216)).toNat : Int), .int .u8 ((byt (n / 65536 % 256)).toNat : Int), .int .u8 ((byt (n / 256 % 256)).toNat : Int), .int .u8 ((byt (n % 256)).toNat : Int)] from rfl] at hp
    simp only [OA_chk, cond_true, OA_call, hp, Option.bind_some, u_asC, u_asOwn, u_asI, u_asN, Nat.beq_eq_true_eq]
    rfl)
theorem c_PText (b : List AV) (s : List UInt8) (e : Int) (hb : b.length + 10 + s.length ≤ 140737488355328) : tbl E0 27 [.ref 0 0, .str s] (penA b e) = some ([], penA (b ++ encB (cnt s.length ++ s)) e) :=
  t_PText b s e (by
    have h1 := c_PCount b s.length e (by omega) (by omega)
    have h0 : ¬ ((s.length : Int) < 0) := by omega
    have hc := cnt_len10 (u := s.length) (by omega)
    simp only [h0, if_false, Int.toNat_natCast] at h1
    have h2 := c_put (b ++ encB (cnt s.length)) (encB s) e (by simp; omega)
    simp [s_PText, h1, h2, encB_append])
theorem c_CloneB (b : List UInt8) (hb : b.length ≤ 140737488355328) : tbl E0 63 [.lst .ro 1 (encB b)] [] = some ([.lst .ro 1 (encB b)], []) :=
  t_CloneB b (by
    unfold s_CloneB
    cases b with
    | nil => exact OA_amb_same fun b => by cases b <;> rfl
    | cons c l => simp only [encB_cons, u_nil_cons, cond_false, List.length_cons, encB_length, OA_chk]; simp at hb; simp [hb])
theorem c_PDone (b : List UInt8) (e : Int) (hb : b.length ≤ 140737488355328) : tbl E0 28 [.ref 0 0] (penV b e) = some ([.lst .ro 1 (if e = 0 then encB b else []), .int .i64 e], penV b e) :=
  t_PDone (encB b) e (by
    by_cases h : e = 0
    · subst h; simp [s_PDone, c_CloneB b hb]
    · simp [s_PDone, h, bne_t h])
theorem c_New : tbl E0 25 [] [] = some ([.ref 64 0], [(64, [.lst (.own (.E 64 0)) 1 [], .int .i64 0])]) := t_New rfl
theorem c_Of (b : List UInt8) (hb : b.length ≤ 140737488355328) : tbl E0 35 [.lst .ro 1 (encB b)] [] = some ([.ref 64 0], [(64, [.lst .ro 1 (encB b), .int .i64 0])]) :=
  t_Of b (by simp [s_Of, c_CloneB b hb])
def grp : Nat → Nat → List UInt8 → Nat × Nat × Int
  | _, _, [] => (0, 0, 5)
  | i, u, c :: l => if (i = 9 ∧ 1 < c.toNat) ∨ (0 < i ∧ c.toNat = 0) then (0, 0, 4) else if c.toNat < 128 then (u + c.toNat * 128 ^ i, i + 1, 0) else grp (i + 1) (u + c.toNat % 128 * 128 ^ i) l
def grpS (b : List UInt8) (e : Int) : Nat × List UInt8 × Int := if e ≠ 0 then (0, b, e) else if (grp 0 0 b).2.2 ≠ 0 then (0, b, (grp 0 0 b).2.2) else ((grp 0 0 b).1, b.drop (grp 0 0 b).2.1, 0)
def countS (b : List UInt8) (e : Int) (m : Int) : Int × List UInt8 × Int :=
  if e ≠ 0 then (0, b, e) else if (grp 0 0 b).2.2 ≠ 0 then (0, b, (grp 0 0 b).2.2) else if 9223372036854775808 ≤ (grp 0 0 b).1 then (0, b, 4) else if max m 0 < ((grp 0 0 b).1 : Int) then (0, b, 7) else ((grp 0 0 b).1, b.drop (grp 0 0 b).2.1, 0)
def numS (b : List UInt8) (e : Int) : Int × List UInt8 × Int := (unz (grpS b e).1, (grpS b e).2)
def takeS (b : List UInt8) (e : Int) (n : Nat) : List UInt8 × List UInt8 × Int := if e ≠ 0 then ([], b, e) else if b.length < n then ([], b, 5) else (b.take n, b.drop n, 0)
def wordOf (x : Nat) (l : List UInt8) : Nat := l.foldl (fun x c => 256 * x + c.toNat) x
def wordS (b : List UInt8) (e : Int) : Nat × List UInt8 × Int := (wordOf 0 (takeS b e 4).1, (takeS b e 4).2)
def textS (b : List UInt8) (e : Int) (m : Int) : List UInt8 × List UInt8 × Int :=
  let c := countS b e m
  let t := takeS c.2.1 c.2.2 c.1.toNat
  (t.1, if t.2.2 = 5 then b else t.2.1, t.2.2)
def endS (b : List UInt8) (e : Int) : Int := if e ≠ 0 then e else if b = [] then 0 else 6
theorem grp_bound : ∀ (l : List UInt8) (i u : Nat), i ≤ 9 → u < 128 ^ i → (grp i u l).1 < 18446744073709551616 ∧ ((grp i u l).2.2 = 0 → (grp i u l).2.1 ≤ i + l.length) ∧ ((grp i u l).2.2 = 0 ∨ (grp i u l).2.2 = 4 ∨ (grp i u l).2.2 = 5)
  | [], i, u, hi, hu => by simp [grp]
  | c :: l, i, u, hi, hu => by
    have hc := c.toNat_lt
    rw [grp]
    split
    · simp
    · rename_i h1
      split
      · rename_i h2
        refine ⟨?_, fun _ => by simp, .inl rfl⟩
        show u + c.toNat * 128 ^ i < _
        have h9 : i = 9 → c.toNat ≤ 1 := fun h => by omega
        have hp : i ≤ 8 → (128 : Nat) ^ i ≤ 128 ^ 8 := fun h => Nat.pow_le_pow_right (by decide) h
        by_cases hi9 : i = 9
        · subst hi9
          have := h9 rfl
          have : c.toNat * 128 ^ 9 ≤ 1 * 128 ^ 9 := Nat.mul_le_mul_right _ this
          omega
        · have h8 := hp (by omega)
          have : c.toNat * 128 ^ i ≤ 127 * 128 ^ 8 := Nat.mul_le_mul (by omega) h8
          omega
      · rename_i h2
        have hi9 : i ≠ 9 := fun h => by omega
        have h3 : u + c.toNat % 128 * 128 ^ i < 128 ^ (i + 1) := by
          have : c.toNat % 128 * 128 ^ i ≤ 127 * 128 ^ i := Nat.mul_le_mul_right _ (by omega)
          rw [Nat.pow_succ]; omega
        obtain ⟨a1, a2, a3⟩ := grp_bound l (i + 1) _ (by omega) h3
        exact ⟨a1, fun h => by have := a2 h; simp; omega, a3⟩
theorem c_egroupsL (l : List UInt8) : ∀ (r : List UInt8) (i u : Nat), l.drop i = r → i ≤ 9 → u < 128 ^ i → l.length ≤ 140737488355328 →
    ltbl E0 70 0 5 [.int .u64 u, .lst .ro 1 (encB l), .int .i64 l.length, .int .i64 i] [[.lst .ro 1 (encB l), .int .i64 0]] =
      some (if (grp i u r).2.2 = 5 then (1, [], [[.lst .ro 1 (encB l), .int .i64 0]]) else if (grp i u r).2.2 = 4 then (0, [.int .u64 0], [[.lst .ro 1 (encB l), .int .i64 4]]) else (0, [.int .u64 (grp i u r).1], [[.lst .ro 1 (encB (l.drop (grp i u r).2.1)), .int .i64 0]])) := by
  intro r
  induction r with
  | nil =>
    intro i u hr hi hu hl
    have h : l.length ≤ i := by simpa using hr
    refine t_egroupsL l l u l.length i 0 ?_
    have : ¬ ((i : Int) < l.length) := by omega
    simp [s_egroupsL, this, grp]
  | cons c r ih =>
    intro i u hr hi hu hl
    have hlt : i < l.length := by
      rcases Nat.lt_or_ge i l.length with h | h
      · exact h
      · rw [List.drop_eq_nil_of_le h] at hr; cases hr
    have hget : l[i]? = some c := by
      rw [List.drop_eq_getElem_cons hlt] at hr
      injection hr with h1 h2
      rw [List.getElem?_eq_getElem hlt, h1]
    have hr2 : l.drop (i + 1) = r := by
      rw [List.drop_eq_getElem_cons hlt] at hr
      injection hr
    have hc := c.toNat_lt
    refine t_egroupsL l l u l.length i 0 ?_
    have h1 : (i : Int) < l.length := by omega
    have h7 : IntKind.u64.wrap (IntKind.i64.wrap ((7 : Int) * (i : Int))) = ((7 * i : Nat) : Int) := by
      rw [wrap_i64 _ (by omega) (by omega), wrap_u64_id (by omega) (by omega)]; omega
    have hi1 : IntKind.i64.wrap ((i : Int) + 1) = ((i + 1 : Nat) : Int) := by rw [wrap_i64 _ (by omega) (by omega)]; omega
    have hmin : min (7 * i) 64 = 7 * i := by omega
    have hp9 : (128 : Nat) ^ i ≤ 128 ^ 9 := Nat.pow_le_pow_right (by decide) hi
    have h27 : (2 : Nat) ^ (7 * i) = 128 ^ i := by rw [Nat.pow_mul]
    have hu64 : u < 18446744073709551616 := by omega
    have hnew : ∀ d : Nat, d < 128 → (i = 9 → d ≤ 1) → bits .or .u64 (u : Int) (IntKind.u64.wrap (IntKind.u64.wrap (d : Int) * (2 : Int) ^ (7 * i))) = ((u + d * 128 ^ i : Nat) : Int) := by
      intro d hd h9
      have hb : d * 128 ^ i < 18446744073709551616 := by
        by_cases hi9 : i = 9
        · subst hi9
          have : d * 128 ^ 9 ≤ 1 * 128 ^ 9 := Nat.mul_le_mul_right _ (h9 rfl)
          omega
        · have h8 : (128 : Nat) ^ i ≤ 128 ^ 8 := Nat.pow_le_pow_right (by decide) (by omega)
          have : d * 128 ^ i ≤ 127 * 128 ^ 8 := Nat.mul_le_mul (by omega) h8
          omega
      have e1 : (IntKind.u64.wrap (d : Int)) * (2 : Int) ^ (7 * i) = ((d * 128 ^ i : Nat) : Int) := by
        rw [wrap_u64_id (by omega) (by omega), ← h27]; simp
      rw [e1, wrap_u64_id (by omega) (by omega), bits_or64 u _ hu64 hb, ← h27, or_add u d (7 * i) (by rw [h27]; exact hu), h27]
    have h10 : decide ((i : Int) > 0) = decide (0 < i) := by rw [Bool.eq_iff_iff, decide_eq_true_eq, decide_eq_true_eq]; omega
    have h9 : ((i : Int) == 9) = decide (i = 9) := by rw [Bool.eq_iff_iff]; simp; omega
    have hc0 : ((c.toNat : Int) == 0) = decide (c.toNat = 0) := by rw [Bool.eq_iff_iff, beq_iff_eq, decide_eq_true_eq]; omega
    have hc1 : decide ((c.toNat : Int) > 1) = decide (1 < c.toNat) := by rw [Bool.eq_iff_iff, decide_eq_true_eq, decide_eq_true_eq]; omega
    have hjoin : ∀ (f : (Bool → Option LR) → Option LR), f = (fun x2 => bif ((i : Int) == 9) then (bif decide ((c.toNat : Int) > 1) then x2 true else (bif decide ((i : Int) > 0) then x2 ((c.toNat : Int) == 0) else x2 false)) else (bif decide ((i : Int) > 0) then x2 ((c.toNat : Int) == 0) else x2 false)) →
        f (fun b => some (Tok.tok b)) = some (Tok.tok (decide ((i = 9 ∧ 1 < c.toNat) ∨ (0 < i ∧ c.toNat = 0)))) := by
      intro f hf
      subst hf
      simp only [h9, h10, hc0, hc1]
      by_cases a1 : i = 9 <;> by_cases a2 : 1 < c.toNat <;> by_cases a3 : 0 < i <;> by_cases a4 : c.toNat = 0 <;> simp [a1, a2, a3, a4] <;> omega
    simp only [s_egroupsL, h1, decide_true, cond_true, OA_chk, nthE, Int.toNat_natCast, encB_get, hget, Option.map_some, u_asI, OA_join, h7, hmin, hi1, andn128 _ hc]
    rw [hjoin _ rfl]
    simp only [Option.bind_some, Tok.untok_tok]
    by_cases hbad : (i = 9 ∧ 1 < c.toNat) ∨ (0 < i ∧ c.toNat = 0)
    · have hg : grp i u (c :: r) = (0, 0, 4) := by rw [grp, if_pos hbad]
      simp [hbad, hg]
    · simp only [hbad, decide_false, cond_false, Int.natCast_nonneg, decide_true, cond_true]
      have hd := hnew (c.toNat % 128) (by omega) (fun h => by omega)
      rw [hd]
      by_cases hs : c.toNat < 128
      · have hg : grp i u (c :: r) = (u + c.toNat * 128 ^ i, i + 1, 0) := by rw [grp, if_neg hbad, if_pos hs]
        have hs2 : (c.toNat : Int) < 128 := by omega
        have hm : c.toNat % 128 = c.toNat := by omega
        have hle : (i : Int) + 1 ≤ l.length := by omega
        rw [hg, hm]
        simp [hs2, encB_take, encB_drop, List.take_of_length_le, hle]
      · have hg : grp i u (c :: r) = grp (i + 1) (u + c.toNat % 128 * 128 ^ i) r := by rw [grp, if_neg hbad, if_neg hs]
        have hs2 : ¬ (c.toNat : Int) < 128 := by omega
        have hi9 : i ≠ 9 := fun h => by omega
        have h3 : u + c.toNat % 128 * 128 ^ i < 128 ^ (i + 1) := by
          have : c.toNat % 128 * 128 ^ i ≤ 127 * 128 ^ i := Nat.mul_le_mul_right _ (by omega)
          rw [Nat.pow_succ]; omega
        rw [hg]
        simp only [hs2, decide_false, cond_false]
        exact ih (i + 1) _ hr2 (by omega) h3 hl
theorem c_egroups (b : List UInt8) (e : Int) (hb : b.length ≤ 140737488355328) : tbl E0 70 [.ref 0 0] (eyeV b e) = some ([.int .u64 (grpS b e).1], eyeV (grpS b e).2.1 (grpS b e).2.2) :=
  t_egroups b e (by
    by_cases h : e = 0
    · subst h
      have hL := c_egroupsL b b 0 0 rfl (by omega) (by decide) hb
      have hg := (grp_bound b 0 0 (by omega) (by decide)).2.2
      simp only [Int.natCast_zero] at hL
      unfold grpS
      rcases hg with hg | hg | hg <;> simp [s_egroups, hL, hg]
    · simp [s_egroups, grpS, h, bne_t h])
theorem c_take (b : List UInt8) (e : Int) (n : Nat) : tbl E0 72 [.ref 0 0, .int .i64 n] (eyeV b e) = some ([.lst .ro 1 (encB (takeS b e n).1)], eyeV (takeS b e n).2.1 (takeS b e n).2.2) :=
  t_take b e n (by
    unfold takeS
    by_cases h : e = 0
    · subst h
      by_cases h2 : b.length < n
      · have h3 : (b.length : Int) < n := by omega
        simp [s_take, h2, h3, encB_nil]
      · have h3 : ¬ (b.length : Int) < n := by omega
        have h4 : (n : Int) ≤ b.length := by omega
        simp [s_take, h2, h3, h4, encB_take, encB_drop, List.take_of_length_le]
    · simp [s_take, h, bne_t h, encB_nil])
theorem takeS_len (b : List UInt8) (e : Int) (n : Nat) : (takeS b e n).1.length = n ∨ (takeS b e n).1 = [] := by
  unfold takeS
  by_cases h : e = 0 <;> by_cases h2 : b.length < n <;> simp [h, h2]
  omega
theorem c_left (b : List UInt8) (e : Int) : tbl E0 69 [.ref 0 0] (eyeV b e) = some ([.lst .ro 1 (encB b)], eyeV b e) := t_left b e rfl
theorem c_back (b c : List UInt8) (e f : Int) : tbl E0 71 [.ref 0 0, .lst .ro 1 (encB c), .int .i64 f] (eyeV b e) = some ([], eyeV c f) := t_back b c e f rfl
theorem fdiv63' (u : Nat) : (u : Int).fdiv ((2 : Int) ^ (63 : Nat)) = ((u / 9223372036854775808 : Nat) : Int) := by
  rw [Int.fdiv_eq_ediv_of_nonneg _ (by decide), show (2 : Int) ^ 63 = 9223372036854775808 by decide]; omega
theorem max_eq (n : Int) : (if n < 0 then (0 : Int) else n) = max n 0 := by split <;> omega
theorem c_ECount (b : List UInt8) (e m : Int) (hb : b.length ≤ 140737488355328) : tbl E0 36 [.ref 0 0, .int .i64 m] (eyeV b e) = some ([.int .i64 (countS b e m).1], eyeV (countS b e m).2.1 (countS b e m).2.2) :=
  t_ECount b e m (by
    have hg := c_egroups b e hb
    have hbd := (grp_bound b 0 0 (by omega) (by decide)).1
    simp only [s_ECount, OA_call, c_left, Option.bind_some, u_asC, u_asL, u_asI, u_asN, Nat.beq_eq_true_eq, hg, OA_chk, cond_true, c_back, fdiv63', max_eq, r_b0']
    unfold countS grpS
    by_cases h : e = 0
    · subst h
      by_cases hf : (grp 0 0 b).2.2 = 0
      · simp only [ne_eq, not_true_eq_false, if_false, hf]
        by_cases h63 : 9223372036854775808 ≤ (grp 0 0 b).1
        · have : ((grp 0 0 b).1 / 9223372036854775808 : Nat) = 1 := by omega
          simp [h63, this]
        · have h0 : ((grp 0 0 b).1 / 9223372036854775808 : Nat) = 0 := by omega
          simp only [h0, wrap_i64 ((grp 0 0 b).1 : Int) (by omega) (by omega)]
          by_cases hm : max m 0 < ((grp 0 0 b).1 : Int)
          · simp [h63, hm]
          · simp [h63, hm]
      · have hm : ¬ max m 0 < 0 := by omega
        simp [hf, hm]
    · have hm : ¬ max m 0 < 0 := by omega
      simp [h, hm])
end Go.Proofs.YtmpfeofeokmooaaGreat.V
namespace Go.Proofs.YtmpfeofeokmooaaGreat.V
open Go
theorem grpS_bound (b : List UInt8) (e : Int) : (grpS b e).1 < 18446744073709551616 := by
  have := (grp_bound b 0 0 (by omega) (by decide)).1
  unfold grpS
  split
  · simp
  · split
    · simp
    · exact this
theorem grpS_len (b : List UInt8) (e : Int) : (grpS b e).2.1.length ≤ b.length := by unfold grpS; split <;> (try split) <;> simp
theorem countS_len (b : List UInt8) (e m : Int) : (countS b e m).2.1.length ≤ b.length := by unfold countS; split <;> (try split) <;> (try split) <;> (try split) <;> simp
theorem takeS_len2 (b : List UInt8) (e : Int) (n : Nat) : (takeS b e n).2.1.length ≤ b.length := by unfold takeS; split <;> (try split) <;> simp
theorem countS_nonneg (b : List UInt8) (e m : Int) : 0 ≤ (countS b e m).1 := by unfold countS; split <;> (try split) <;> (try split) <;> (try split) <;> simp
theorem countS_le (b : List UInt8) (e m : Int) : (countS b e m).1 ≤ max m 0 := by unfold countS; split <;> (try split) <;> (try split) <;> (try split) <;> simp <;> omega
theorem c_ENum (b : List UInt8) (e : Int) (hb : b.length ≤ 140737488355328) : tbl E0 100 [.ref 0 0] (eyeV b e) = some ([.int .i64 (numS b e).1], eyeV (numS b e).2.1 (numS b e).2.2) :=
  t_ENum b e (by
    simp only [s_ENum, OA_call, c_egroups b e hb, Option.bind_some, u_asC, u_asL, u_asI, u_asN, r_b0', OA_chk, cond_true, xor_unz (grpS_bound b e)]
    rfl)
theorem c_EWordL (l b : List UInt8) (e : Int) : ∀ (r : List UInt8) (i x : Nat), l.drop i = r → i ≤ l.length → l.length ≤ 4 → x < 256 ^ i →
    ltbl E0 51 0 3 [.int .u32 x, .lst .ro 1 (encB l), .int .i64 l.length, .int .i64 i] [[.lst .ro 1 (encB b), .int .i64 e]] = some (1, [.int .u32 (wordOf x r)], [[.lst .ro 1 (encB b), .int .i64 e]]) := by
  intro r
  induction r with
  | nil =>
    intro i x hr hi hl hx
    have h : l.length ≤ i := by simpa using hr
    refine t_EWordL _ _ _ _ _ _ ?_
    have : ¬ ((i : Int) < l.length) := by omega
    simp [s_EWordL, this, wordOf]
  | cons c r ih =>
    intro i x hr hi hl hx
    have hlt : i < l.length := by
      rcases Nat.lt_or_ge i l.length with h | h
      · exact h
      · rw [List.drop_eq_nil_of_le h] at hr; cases hr
    have hget : l[i]? = some c := by
      rw [List.drop_eq_getElem_cons hlt] at hr
      injection hr with h1 h2
      rw [List.getElem?_eq_getElem hlt, h1]
    have hr2 : l.drop (i + 1) = r := by
      rw [List.drop_eq_getElem_cons hlt] at hr
      injection hr
    have hc := c.toNat_lt
    have hp : (256 : Nat) ^ i ≤ 256 ^ 3 := Nat.pow_le_pow_right (by decide) (by omega)
    refine t_EWordL _ _ _ _ _ _ ?_
    have h1 : (i : Int) < l.length := by omega
    have hi1 : IntKind.i64.wrap ((i : Int) + 1) = ((i + 1 : Nat) : Int) := by rw [wrap_i64 _ (by omega) (by omega)]; omega
    have hx2 : IntKind.u32.wrap ((x : Int) * 2 ^ (8 : Nat)) = ((x * 2 ^ 8 : Nat) : Int) := by rw [wrap_u32_id (by omega) (by omega)]; simp
    have hc2 : IntKind.u32.wrap (c.toNat : Int) = ((c.toNat : Nat) : Int) := wrap_u32_id (by omega) (by omega)
    have ho : bits .or .u32 ((x * 2 ^ 8 : Nat) : Int) (c.toNat : Int) = ((256 * x + c.toNat : Nat) : Int) := by
      rw [bits_or32 _ _ (by omega) (by omega), Nat.or_comm, or_add _ _ _ hc]; congr 1; omega
    have h3 : 256 * x + c.toNat < 256 ^ (i + 1) := by rw [Nat.pow_succ]; omega
    simp only [s_EWordL, h1, decide_true, cond_true, OA_chk, nthE, Int.toNat_natCast, encB_get, hget, Option.map_some, u_asI, hi1, hx2, hc2, ho, Int.natCast_nonneg]
    exact ih (i + 1) _ hr2 (by omega) hl h3
theorem c_EWord (b : List UInt8) (e : Int) : tbl E0 51 [.ref 0 0] (eyeV b e) = some ([.int .u32 (wordS b e).1], eyeV (wordS b e).2.1 (wordS b e).2.2) :=
  t_EWord b e (by
    have ht := c_take b e 4
    have hl := c_EWordL (takeS b e 4).1 (takeS b e 4).2.1 (takeS b e 4).2.2 (takeS b e 4).1 0 0 rfl (Nat.zero_le _) (by rcases takeS_len b e 4 with h | h <;> simp [h]) (by decide)
    simp only [Int.natCast_zero] at hl
    rw [show ((4 : Nat) : Int) = 4 from rfl] at ht
    simp [s_EWord, ht, hl, wordS])
theorem c_EText (b : List UInt8) (e m : Int) (hb : b.length ≤ 140737488355328) : tbl E0 37 [.ref 0 0, .int .i64 m] (eyeV b e) = some ([.str (textS b e m).1], eyeV (textS b e m).2.1 (textS b e m).2.2) :=
  t_EText b e m (by
    have hc := c_ECount b e m hb
    have h0 := countS_nonneg b e m
    have ht := c_take (countS b e m).2.1 (countS b e m).2.2 (countS b e m).1.toNat
    rw [Int.toNat_of_nonneg h0] at ht
    by_cases h5 : (takeS (countS b e m).2.1 (countS b e m).2.2 (countS b e m).1.toNat).2.2 = 5
    · simp [s_EText, c_left, hc, ht, textS, h5, orFail]
    · simp [s_EText, c_left, hc, ht, textS, h5, orFail])
theorem c_Left (b : List UInt8) (e : Int) : tbl E0 54 [.ref 0 0] (eyeV b e) = some ([.int .i64 b.length], eyeV b e) := t_Left b e (by simp [s_Left, c_left])
theorem c_Bad (b : List UInt8) (e : Int) : tbl E0 52 [.ref 0 0] (eyeV b e) = some ([.int .i64 e], eyeV b e) := t_Bad b e rfl
theorem c_End (b : List UInt8) (e : Int) : tbl E0 38 [.ref 0 0] (eyeV b e) = some ([.int .i64 (endS b e)], eyeV b e) :=
  t_End b e (by
    unfold endS
    by_cases h : e = 0
    · subst h
      cases b with
      | nil => simp [s_End, c_Bad, c_Left]
      | cons c b => have : (0 : Int) < (b.length : Int) + 1 := by omega
                    simp [s_End, c_Bad, c_Left, this]
    · simp [s_End, c_Bad, h, bne_t h])
end Go.Proofs.YtmpfeofeokmooaaGreat.V
namespace Go.Proofs.YtmpfeofeokmooaaGreat.V
open Go
theorem wrap_u64_dvd (u : Nat) (h : u < 18446744073709551616) : IntKind.u8.wrap (IntKind.u64.wrap ((128 : Int) + (u : Int).tmod (128 : Int))) = ((u % 128 + 128 : Nat) : Int) := by
  rw [Int.tmod_eq_emod_of_nonneg (by omega), wrap_u64_id (by omega) (by omega), wrap_u8_id (by omega) (by omega)]; omega
theorem r_CountL (u : Nat) : ∀ (b : List AV), u < 18446744073709551616 → b.length + (cntI u).length ≤ 140737488355328 → ltbl E0 31 0 2 [.int .u64 u, .lst (.own (.L 3)) 1 b] [] = some (1, [.int .u64 (cntL u : Nat), .lst (.own (.L 3)) 1 (b ++ encB (cntI u))], []) := by
  induction u using cnt.induct with
  | case1 u h =>
    intro b hu hb
    refine t_rCountL u b ?_
    rw [cntL, cntI]
    have : ¬ (127 : Int) < (u : Int) := by omega
    simp [s_rCountL, h, this, encB_nil]
  | case2 u h ih =>
    intro b hu hb
    refine t_rCountL u b ?_
    rw [cntI] at hb
    simp only [h, if_false, List.length_cons] at hb
    rw [cntL, cntI]
    have h1 : (127 : Int) < (u : Int) := by omega
    have h2 := ih (b ++ [.int .u8 ((u % 128 + 128 : Nat) : Int)]) (by omega) (by simp; omega)
    have h3 : IntKind.u64.wrap ((u : Int).tdiv 128) = ((u / 128 : Nat) : Int) := by rw [Int.tdiv_eq_ediv_of_nonneg (by omega), wrap_u64_id (by omega) (by omega)]; omega
    have h4 : (b.length + 1) * 1 ≤ 140737488355328 := by omega
    simp only [s_rCountL, wrap_u64_dvd u hu, h3]
    simp only [gt_iff_lt, h1, decide_true, cond_true, OA_chk, List.length_singleton, h4, h2, h, if_false]
    simp only [encB_cons, byt_toNat (show u % 128 + 128 < 256 by omega), List.append_assoc, List.singleton_append]
theorem r_Count (u : Nat) (hu : u < 18446744073709551616) : tbl E0 31 [.int .u64 u] [] = some ([.lst (.own (.R 0)) 1 (encB (cnt u))], []) :=
  t_rCount u (by
    have hl := cntI_len hu
    have h1 := r_CountL u [] hu (by simp; omega)
    have h3 := cntL_lt u
    simp only [List.nil_append] at h1
    have h4 : (cntI u).length ≤ 140737488355327 := by omega
    simp [s_rCount, h1, wrap_u8_id (show (0 : Int) ≤ (cntL u : Nat) by omega) (by omega), cnt_eq, encB_append, encB_cons, encB_nil, byt_toNat (show cntL u < 256 by omega), h4])
theorem r_Num (n : Int) (h : -9223372036854775808 ≤ n) (h' : n ≤ 9223372036854775807) : tbl E0 98 [.int .i64 n] [] = some ([.lst (.own (.R 0)) 1 (encB (cnt (zz n)))], []) :=
  t_rNum n (by
    have hz := r_Count (zz n) (zz_lt h h')
    by_cases hn : n < 0
    · have e : IntKind.u64.wrap (IntKind.u64.wrap ((2 : Int) * IntKind.u64.wrap (IntKind.i64.wrap ((0 : Int) - IntKind.i64.wrap (n + (1 : Int))))) + (1 : Int)) = (zz n : Int) := by
        rw [wrap_i64 (n + 1) (by omega) (by omega), wrap_i64 _ (by omega) (by omega), wrap_u64_id (show 0 ≤ 0 - (n + 1) by omega) (by omega), wrap_u64_id (show 0 ≤ 2 * (0 - (n + 1)) by omega) (by omega), wrap_u64_id (by omega) (by omega)]
        unfold zz; rw [if_pos hn]; omega
      unfold s_rNum; rw [e]; simp [hn, hz]
    · have e : IntKind.u64.wrap ((2 : Int) * IntKind.u64.wrap n) = (zz n : Int) := by
        rw [wrap_u64_id (show 0 ≤ n by omega) (by omega), wrap_u64_id (by omega) (by omega)]
        unfold zz; rw [if_neg hn]; omega
      simp [s_rNum, hn, e, hz])
theorem r_Word (n : Nat) (hn : n < 4294967296) : tbl E0 50 [.int .u32 n] [] = some ([.lst (.own (.R 0)) 1 (encB (word4 n))], []) :=
  t_rWord n (by
    have e1 : IntKind.u8.wrap (IntKind.u32.wrap ((n : Int).tdiv (16777216 : Int))) = ((byt (n / 16777216)).toNat : Int) := by rw [Int.tdiv_eq_ediv_of_nonneg (by omega), wrap_u32_id (by omega) (by omega), wrap_u8, byt_toNat (by omega)]; omega
    have e2 : IntKind.u8.wrap ((IntKind.u32.wrap ((n : Int).tdiv (65536 : Int))).tmod (256 : Int)) = ((byt (n / 65536 % 256)).toNat : Int) := by rw [Int.tdiv_eq_ediv_of_nonneg (by omega), wrap_u32_id (by omega) (by omega), Int.tmod_eq_emod_of_nonneg (by omega), wrap_u8, byt_toNat (by omega)]; omega
    have e3 : IntKind.u8.wrap ((IntKind.u32.wrap ((n : Int).tdiv (256 : Int))).tmod (256 : Int)) = ((byt (n / 256 % 256)).toNat : Int) := by rw [Int.tdiv_eq_ediv_of_nonneg (by omega), wrap_u32_id (by omega) (by omega), Int.tmod_eq_emod_of_nonneg (by omega), wrap_u8, byt_toNat (by omega)]; omega
    have e4 : IntKind.u8.wrap ((n : Int).tmod (256 : Int)) = ((byt (n % 256)).toNat : Int) := by rw [Int.tmod_eq_emod_of_nonneg (by omega), wrap_u8, byt_toNat (by omega)]; omega
    unfold s_rWord
    rw [e1, e2, e3, e4]
    rfl)
theorem r_Text (s : List UInt8) (hs : s.length + 10 ≤ 140737488355328) : tbl E0 32 [.str s] [] = some ([.lst .ro 1 (encB (cnt s.length ++ s))], []) :=
  t_rText s (by
    have h1 := r_Count s.length (by omega)
    have hc := cnt_len10 (u := s.length) (by omega)
    have h4 : (cnt s.length).length + s.length ≤ 140737488355328 := by omega
    simp [s_rText, wrap_u64_id (show (0 : Int) ≤ s.length by omega) (by omega), h1, encB_append, h4])
theorem drop_cons {α : Type} {l r : List α} {i : Nat} {a : α} (h : l.drop i = a :: r) : i < l.length ∧ l[i]? = some a ∧ l.drop (i + 1) = r := by
  have hlt : i < l.length := by
    rcases Nat.lt_or_ge i l.length with h' | h'
    · exact h'
    · rw [List.drop_eq_nil_of_le h'] at h; cases h
  rw [List.drop_eq_getElem_cons hlt] at h
  injection h with h1 h2
  exact ⟨hlt, by rw [List.getElem?_eq_getElem hlt, h1], h2⟩
end Go.Proofs.YtmpfeofeokmooaaGreat.V
namespace Go.Proofs.YtmpfeofeokmooaaGreat.V
open Go
theorem r_take (b : List UInt8) (e : Int) (n : Nat) : tbl E0 78 [.ref 0 0, .int .i64 n] (eyeV b e) = some ([.lst .ro 1 (encB (takeS b e n).1)], eyeV (takeS b e n).2.1 (takeS b e n).2.2) :=
  t_yTake b e n (by
    unfold takeS
    by_cases h : e = 0
    · subst h
      by_cases h2 : b.length < n
      · have h3 : (b.length : Int) < n := by omega
        simp [s_yTake, h2, h3, encB_nil]
      · have h3 : ¬ (b.length : Int) < n := by omega
        have h4 : (n : Int) ≤ b.length := by omega
        simp [s_yTake, h2, h3, h4, encB_take, encB_drop, List.take_of_length_le]
    · simp [s_yTake, h, encB_nil])
theorem r_groupsL (l : List UInt8) (hl : l.length ≤ 140737488355328) : ∀ (r : List UInt8) (i u : Nat) (w : Int), l.drop i = r → i ≤ 9 → u < 128 ^ i → w = ((128 ^ i : Nat) : Int) →
    ltbl E0 77 0 4 [.lst .ro 1 (encB l), .int .u64 u, .int .u64 w, .int .i64 i] [] =
      some (if (grp i u r).2.2 = 5 then (1, [], []) else if (grp i u r).2.2 = 4 then (0, [.int .u64 0, .int .i64 0, .int .i64 4], []) else (0, [.int .u64 (grp i u r).1, .int .i64 (grp i u r).2.1, .int .i64 0], [])) := by
  intro r
  induction r with
  | nil =>
    intro i u w hr hi hu hw
    have h : l.length ≤ i := by simpa using hr
    refine t_ygroupsL l u w i ?_
    have : ¬ ((i : Int) < l.length) := by omega
    simp [s_ygroupsL, this, grp]
  | cons c r ih =>
    intro i u w hr hi hu hw
    obtain ⟨hlt, hget, hr2⟩ := drop_cons hr
    have hc := c.toNat_lt
    refine t_ygroupsL l u w i ?_
    have h1 : (i : Int) < l.length := by omega
    have h10 : (i : Int) < 10 := by omega
    have hi1 : IntKind.i64.wrap ((i : Int) + 1) = ((i + 1 : Nat) : Int) := by rw [wrap_i64 _ (by omega) (by omega)]; omega
    have hc2 : IntKind.u64.wrap (c.toNat : Int) = (c.toNat : Int) := wrap_u64_id (by omega) (by omega)
    have hp9 : (128 : Nat) ^ i ≤ 9223372036854775808 := Nat.le_trans (Nat.pow_le_pow_right (by decide) hi) (show (128 : Nat) ^ 9 ≤ 9223372036854775808 by decide)
    have hnew : (i = 9 → c.toNat ≤ 1) → IntKind.u64.wrap ((u : Int) + IntKind.u64.wrap ((c.toNat : Int).tmod 128 * w)) = ((u + c.toNat % 128 * 128 ^ i : Nat) : Int) := by
      intro h9
      rw [hw, Int.tmod_eq_emod_of_nonneg (by omega)]
      have hb : c.toNat % 128 * 128 ^ i ≤ 9223372036854775808 := by
        by_cases hi9 : i = 9
        · subst hi9
          have h9' := h9 rfl
          have : c.toNat % 128 * 128 ^ 9 ≤ 1 * 128 ^ 9 := Nat.mul_le_mul_right _ (by omega)
          omega
        · have h8 : (128 : Nat) ^ i ≤ 128 ^ 8 := Nat.pow_le_pow_right (by decide) (by omega)
          have : c.toNat % 128 * 128 ^ i ≤ 127 * 128 ^ 8 := Nat.mul_le_mul (by omega) h8
          omega
      have e1 : (c.toNat : Int) % 128 * ((128 ^ i : Nat) : Int) = ((c.toNat % 128 * 128 ^ i : Nat) : Int) := by rw [Int.natCast_mul, Int.natCast_emod]; rfl
      rw [e1]
      generalize c.toNat % 128 * 128 ^ i = z at hb
      rw [wrap_u64_id (n := (z : Int)) (by omega) (by omega), wrap_u64_id (by omega) (by omega)]
      rfl
    simp only [s_ygroupsL, encB_length, OA_asm, h1, h10, decide_true, cond_true, OA_join, Option.bind_some, Tok.untok_tok, OA_chk, Int.natCast_nonneg, nthE, Int.toNat_natCast, encB_get, hget, Option.map_some, u_asI, hc2, hi1]
    by_cases h9 : i = 9 ∧ 1 < c.toNat
    · have hg : grp i u (c :: r) = (0, 0, 4) := by rw [grp, if_pos (.inl h9)]
      have a1 : ((i : Int) == 9) = true := by rw [beq_iff_eq]; omega
      have a2 : (1 : Int) < c.toNat := by omega
      simp [hg, a1, a2]
    · have hj : (bif (i : Int) == 9 then some (Tok.tok (R := LR) (decide ((c.toNat : Int) > 1))) else some (Tok.tok false)) = some (Tok.tok false) := by
        by_cases a1 : i = 9
        · have a2 : ¬ (1 : Int) < c.toNat := fun h => h9 ⟨a1, by omega⟩
          simp [a2]
        · have a1 : ((i : Int) == 9) = false := by rw [beq_eq_false_iff_ne]; omega
          simp only [a1, cond_false]
      simp only [hj, Option.bind_some, Tok.untok_tok, cond_false]
      by_cases h0 : 0 < i ∧ c.toNat = 0
      · have hg : grp i u (c :: r) = (0, 0, 4) := by rw [grp, if_pos (.inr h0)]
        have a1 : (0 : Int) < i := by omega
        have a3 := h0.1
        simp [hg, a3, h0.2]
      · have hj2 : (bif decide ((i : Int) > 0) then some (Tok.tok (R := LR) ((c.toNat : Int) == 0)) else some (Tok.tok false)) = some (Tok.tok false) := by
          by_cases a1 : 0 < i
          · have a2 : ((c.toNat : Int) == 0) = false := by rw [beq_eq_false_iff_ne]; intro h; exact h0 ⟨a1, by omega⟩
            have a1' : (i : Int) > 0 := by omega
            simp only [a1', decide_true, cond_true, a2]
          · have a1' : ¬ (i : Int) > 0 := by omega
            simp only [a1', decide_false, cond_false]
        simp only [hj2, Option.bind_some, Tok.untok_tok, cond_false, hnew (fun h => by omega)]
        have hbad : ¬ ((i = 9 ∧ 1 < c.toNat) ∨ (0 < i ∧ c.toNat = 0)) := fun h => h.elim h9 h0
        by_cases hs : c.toNat < 128
        · have hg : grp i u (c :: r) = (u + c.toNat * 128 ^ i, i + 1, 0) := by rw [grp, if_neg hbad, if_pos hs]
          have hs2 : (c.toNat : Int) < 128 := by omega
          have hm : c.toNat % 128 = c.toNat := by omega
          rw [hg, hm]
          simp [hs2]
        · have hg : grp i u (c :: r) = grp (i + 1) (u + c.toNat % 128 * 128 ^ i) r := by rw [grp, if_neg hbad, if_neg hs]
          have hs2 : ¬ (c.toNat : Int) < 128 := by omega
          have hi9 : i ≠ 9 := fun h => by omega
          have h3 : u + c.toNat % 128 * 128 ^ i < 128 ^ (i + 1) := by
            have : c.toNat % 128 * 128 ^ i ≤ 127 * 128 ^ i := Nat.mul_le_mul_right _ (by omega)
            rw [Nat.pow_succ]; omega
          rw [hg]
          simp only [hs2, decide_false, cond_false]
          refine ih (i + 1) _ _ hr2 (by omega) h3 ?_
          have h8 : (128 : Nat) ^ i ≤ 72057594037927936 := Nat.le_trans (Nat.pow_le_pow_right (n := 128) (by decide) (show i ≤ 8 by omega)) (by decide)
          rw [hw, wrap_u64_id (by omega) (by omega), Nat.pow_succ]
          omega
theorem r_groups (b : List UInt8) (hb : b.length ≤ 140737488355328) : tbl E0 77 [.lst .ro 1 (encB b)] [] = some (if (grp 0 0 b).2.2 = 0 then ([.int .u64 (grp 0 0 b).1, .int .i64 (grp 0 0 b).2.1, .int .i64 0], []) else ([.int .u64 0, .int .i64 0, .int .i64 (grp 0 0 b).2.2], [])) :=
  t_ygroups b (by
    have hL := r_groupsL b hb b 0 0 1 rfl (by omega) (by decide) (by decide)
    have hg := (grp_bound b 0 0 (by omega) (by decide)).2.2
    simp only [Int.natCast_zero] at hL
    rcases hg with hg | hg | hg <;> simp [s_ygroups, hL, hg])
theorem r_ECount (b : List UInt8) (e m : Int) (hb : b.length ≤ 140737488355328) : tbl E0 41 [.ref 0 0, .int .i64 m] (eyeV b e) = some ([.int .i64 (countS b e m).1], eyeV (countS b e m).2.1 (countS b e m).2.2) :=
  t_yCount b e m (by
    have hg := r_groups b hb
    have hbd := grp_bound b 0 0 (by omega) (by decide)
    unfold countS
    by_cases h : e = 0
    · subst h
      by_cases hf : (grp 0 0 b).2.2 = 0
      · have hn := hbd.2.1 hf
        simp only [hf, if_true] at hg
        by_cases h63 : 9223372036854775808 ≤ (grp 0 0 b).1
        · have h63' : (9223372036854775808 : Int) ≤ (grp 0 0 b).1 := by omega
          simp [s_yCount, hg, hf, h63, h63']
        · have h63' : ¬ (9223372036854775808 : Int) ≤ (grp 0 0 b).1 := by omega
          have hw := wrap_i64 ((grp 0 0 b).1 : Int) (by omega) (by omega)
          have hn' : ((grp 0 0 b).2.1 : Int) ≤ b.length := by omega
          by_cases hm : max m 0 < ((grp 0 0 b).1 : Int)
          · simp [s_yCount, hg, hf, h63, h63', hw, max_eq, hm]
          · simp [s_yCount, hg, hf, h63, h63', hw, max_eq, hm, hn', encB_take, encB_drop, List.take_of_length_le]
      · simp only [hf, if_false] at hg
        simp [s_yCount, hg, hf]
    · simp [s_yCount, h])
theorem r_ENum (b : List UInt8) (e : Int) (hb : b.length ≤ 140737488355328) : tbl E0 103 [.ref 0 0] (eyeV b e) = some ([.int .i64 (numS b e).1], eyeV (numS b e).2.1 (numS b e).2.2) :=
  t_yNum b e (by
    have hg := r_groups b hb
    have hbd := grp_bound b 0 0 (by omega) (by decide)
    unfold numS grpS
    by_cases h : e = 0
    · subst h
      by_cases hf : (grp 0 0 b).2.2 = 0
      · have hn := hbd.2.1 hf
        simp only [hf, if_true] at hg
        have hn' : ((grp 0 0 b).2.1 : Int) ≤ b.length := by omega
        have e1 : ((grp 0 0 b).1 : Int).tmod 2 = ((grp 0 0 b).1 % 2 : Nat) := by rw [Int.tmod_eq_emod_of_nonneg (by omega)]; omega
        have e2 : ((grp 0 0 b).1 : Int).tdiv 2 = ((grp 0 0 b).1 / 2 : Nat) := by rw [Int.tdiv_eq_ediv_of_nonneg (by omega)]; omega
        have e3 := wrap_u64_id (n := ((grp 0 0 b).1 / 2 : Nat)) (by omega) (by omega)
        have e4 := wrap_i64 ((grp 0 0 b).1 / 2 : Nat) (by omega) (by omega)
        have e5 := wrap_i64 (0 - (((grp 0 0 b).1 / 2 : Nat) : Int)) (by omega) (by omega)
        have e6 := wrap_i64 (0 - (((grp 0 0 b).1 / 2 : Nat) : Int) - 1) (by omega) (by omega)
        simp only [s_yNum, OA_callx, hg, Option.bind_some, u_asC, u_asI, u_asN, OA_chk, cond_true, e1, e2, e3, e4, e5, e6]
        unfold unz
        by_cases ho : (grp 0 0 b).1 % 2 = 1
        · simp [hf, hn', ho, encB_take, encB_drop, List.take_of_length_le]
        · have ho' : ¬ ((((grp 0 0 b).1 % 2 : Nat) : Int) = 1) := by omega
          simp [hf, hn', ho, encB_take, encB_drop, List.take_of_length_le]
          intro hh; omega
      · simp only [hf, if_false] at hg
        simp [s_yNum, hg, hf, unz]
    · simp [s_yNum, h, unz])
theorem r_EWordL (l b : List UInt8) (e : Int) : ∀ (r : List UInt8) (i x : Nat), l.drop i = r → l.length ≤ 4 → x < 256 ^ i →
    ltbl E0 55 0 4 [.int .u32 x, .lst .ro 1 (encB l), .int .i64 i] [[.lst .ro 1 (encB b), .int .i64 e]] = some (1, [.int .u32 (wordOf x r)], [[.lst .ro 1 (encB b), .int .i64 e]]) := by
  intro r
  induction r with
  | nil =>
    intro i x hr hl hx
    have h : l.length ≤ i := by simpa using hr
    refine t_yWordL _ _ _ _ _ ?_
    have : ¬ ((i : Int) < l.length) := by omega
    simp [s_yWordL, this, wordOf]
  | cons c r ih =>
    intro i x hr hl hx
    obtain ⟨hlt, hget, hr2⟩ := drop_cons hr
    have hc := c.toNat_lt
    have hp : (256 : Nat) ^ i ≤ 16777216 := Nat.le_trans (Nat.pow_le_pow_right (n := 256) (by decide) (show i ≤ 3 by omega)) (by decide)
    refine t_yWordL _ _ _ _ _ ?_
    have h1 : (i : Int) < l.length := by omega
    have hi1 : IntKind.i64.wrap ((i : Int) + 1) = ((i + 1 : Nat) : Int) := by rw [wrap_i64 _ (by omega) (by omega)]; omega
    have hx2 : IntKind.u32.wrap (IntKind.u32.wrap (256 * (x : Int)) + IntKind.u32.wrap (c.toNat : Int)) = ((256 * x + c.toNat : Nat) : Int) := by
      rw [wrap_u32_id (show 0 ≤ 256 * (x : Int) by omega) (by omega), wrap_u32_id (show (0 : Int) ≤ c.toNat by omega) (by omega), wrap_u32_id (by omega) (by omega)]; omega
    have h3 : 256 * x + c.toNat < 256 ^ (i + 1) := by rw [Nat.pow_succ]; omega
    simp only [s_yWordL, OA_asm, encB_length, h1, decide_true, cond_true, OA_chk, nthE, Int.toNat_natCast, encB_get, hget, Option.map_some, u_asI, hi1, hx2, Int.natCast_nonneg]
    exact ih (i + 1) _ hr2 hl h3
theorem r_EWord (b : List UInt8) (e : Int) : tbl E0 55 [.ref 0 0] (eyeV b e) = some ([.int .u32 (wordS b e).1], eyeV (wordS b e).2.1 (wordS b e).2.2) :=
  t_yWord b e (by
    have ht := r_take b e 4
    have hl := r_EWordL (takeS b e 4).1 (takeS b e 4).2.1 (takeS b e 4).2.2 (takeS b e 4).1 0 0 rfl (by rcases takeS_len b e 4 with h | h <;> simp [h]) (by decide)
    simp only [Int.natCast_zero] at hl
    rw [show ((4 : Nat) : Int) = 4 from rfl] at ht
    simp [s_yWord, ht, hl, wordS])
theorem countS_fail (b : List UInt8) (e m : Int) (h : (countS b e m).2.2 ≠ 0) : (countS b e m).2.1 = b ∧ (countS b e m).1 = 0 := by
  revert h
  unfold countS
  split
  · simp
  · split
    · simp
    · split
      · simp
      · split <;> simp
theorem textS_ref (b : List UInt8) (e m : Int) : (if (textS b e m).2.2 ≠ 0 then b else (takeS (countS b e m).2.1 (countS b e m).2.2 (countS b e m).1.toNat).2.1) = (textS b e m).2.1 := by
  have hf := countS_fail b e m
  unfold textS
  simp only
  generalize countS b e m = cs at hf ⊢
  obtain ⟨c1, c2, c3⟩ := cs
  simp only at hf ⊢
  by_cases hc : c3 = 0
  · subst hc
    unfold takeS
    simp only [ne_eq, not_true_eq_false, if_false]
    split <;> simp
  · obtain ⟨rfl, rfl⟩ := hf hc
    unfold takeS
    simp [hc]
theorem r_EText (b : List UInt8) (e m : Int) (hb : b.length ≤ 140737488355328) : tbl E0 42 [.ref 0 0, .int .i64 m] (eyeV b e) = some ([.str (textS b e m).1], eyeV (textS b e m).2.1 (textS b e m).2.2) :=
  t_yText b e m (by
    have hc := r_ECount b e m hb
    have h0 := countS_nonneg b e m
    have ht := r_take (countS b e m).2.1 (countS b e m).2.2 (countS b e m).1.toNat
    rw [Int.toNat_of_nonneg h0] at ht
    have hx := textS_ref b e m
    have h2 : (textS b e m).2.2 = (takeS (countS b e m).2.1 (countS b e m).2.2 (countS b e m).1.toNat).2.2 := rfl
    have h1 : (textS b e m).1 = (takeS (countS b e m).2.1 (countS b e m).2.2 (countS b e m).1.toNat).1 := rfl
    rw [h2] at hx
    rw [← hx, h1, h2]
    by_cases h5 : (takeS (countS b e m).2.1 (countS b e m).2.2 (countS b e m).1.toNat).2.2 = 0
    · simp [s_yText, hc, ht, h5, orFail]
    · simp [s_yText, hc, ht, h5, orFail])
theorem r_EEnd (b : List UInt8) (e : Int) : tbl E0 43 [.ref 0 0] (eyeV b e) = some ([.int .i64 (endS b e)], eyeV b e) :=
  t_yEnd b e (by
    unfold endS
    by_cases h : e = 0
    · subst h
      cases b with
      | nil => simp [s_yEnd]
      | cons c b => have : (0 : Int) < (b.length : Int) + 1 := by omega
                    simp [s_yEnd, this]
    · simp [s_yEnd, h])
end Go.Proofs.YtmpfeofeokmooaaGreat.V
namespace Go.Proofs.YtmpfeofeokmooaaGreat.V
open Go
theorem textS_len (b : List UInt8) (e m : Int) : (textS b e m).2.1.length ≤ b.length := by
  unfold textS
  simp only
  split
  · exact Nat.le_refl _
  · exact Nat.le_trans (takeS_len2 _ _ _) (countS_len b e m)
theorem r_CountI (n : Int) (h0 : 0 ≤ n) (h1 : n ≤ 9223372036854775807) : tbl E0 31 [.int .u64 n] [] = some ([.lst (.own (.R 0)) 1 (encB (cnt n.toNat))], []) := by
  have := r_Count n.toNat (by omega)
  rwa [Int.toNat_of_nonneg h0] at this
end Go.Proofs.YtmpfeofeokmooaaGreat.V
namespace Go.Proofs.YtmpfeofeokmooaaGreat.V
open Go
theorem rgtS_1 {f : Fld} (k : f.kind = 1) : rgtS f = (decide (0 ≤ f.id) && (decide (f.id ≤ 255) && (decide (-1099511627776 ≤ f.lo) && (decide (f.lo ≤ f.hi) && (decide (f.hi ≤ 1099511627776) && decide (f.most = 0)))))) := by
  simp [rgtS, k, Bool.and_assoc, Bool.decide_and]
theorem rgtS_2 {f : Fld} (k : f.kind = 2) : rgtS f = (decide (0 ≤ f.id) && (decide (f.id ≤ 255) && (decide (f.lo = 0) && (decide (f.hi = 0) && decide (f.most = 0))))) := by
  simp [rgtS, k, Bool.and_assoc, Bool.decide_and]
theorem rgtS_3 {f : Fld} (k : f.kind = 3) : rgtS f = (decide (0 ≤ f.id) && (decide (f.id ≤ 255) && (decide (f.lo = 0) && (decide (f.hi = 0) && (decide (1 ≤ f.most) && decide (f.most ≤ 1000)))))) := by
  simp [rgtS, k, Bool.and_assoc, Bool.decide_and]
theorem rgtS_4 {f : Fld} (k : f.kind = 4) : rgtS f = (decide (0 ≤ f.id) && (decide (f.id ≤ 255) && (decide (f.lo = 0) && (decide (f.hi = 0) && (decide (0 ≤ f.most) && decide (f.most ≤ 32)))))) := by
  simp [rgtS, k, Bool.and_assoc, Bool.decide_and]
theorem rgtS_0 {f : Fld} (k1 : f.kind ≠ 1) (k2 : f.kind ≠ 2) (k3 : f.kind ≠ 3) (k4 : f.kind ≠ 4) : rgtS f = false := by
  simp [rgtS, k1, k2, k3, k4]
theorem c_fRight (f : Fld) : tbl E0 106 [fldV f] [] = some ([.bool (rgtS f)], []) :=
  t_fRight f (by
    unfold s_fRight
    by_cases i0 : f.id < 0
    · have : rgtS f = false := by have : ¬ (0 ≤ f.id) := by omega
                                  simp [rgtS, this]
      simp [i0, this]
    · by_cases i1 : 255 < f.id
      · have : rgtS f = false := by have : ¬ (f.id ≤ 255) := by omega
                                    simp [rgtS, this]
        simp [i0, i1, this]
      · have j0 : 0 ≤ f.id := by omega
        have j1 : f.id ≤ 255 := by omega
        simp only [OA_chk, cond_true, OA_join, i0, decide_false, cond_false, show ¬ (f.id > 255) from i1, Option.bind_some, Tok.untok_tok, tok_cond]
        by_cases k1 : f.kind = 1
        · rw [rgtS_1 k1]
          by_cases a : -1099511627776 ≤ f.lo <;> by_cases b : f.lo ≤ f.hi <;> by_cases c : f.hi ≤ 1099511627776 <;> by_cases d : f.lo = 0 <;> by_cases e : f.most = 0 <;> simp [*]
        · by_cases k2 : f.kind = 2
          · rw [rgtS_2 k2]
            by_cases a : f.lo = 0 <;> by_cases b : f.hi = 0 <;> by_cases e : f.most = 0 <;> simp [*]
          · by_cases k3 : f.kind = 3
            · rw [rgtS_3 k3]
              by_cases a : f.lo = 0 <;> by_cases b : f.hi = 0 <;> by_cases c : 1 ≤ f.most <;> simp [*]
            · by_cases k4 : f.kind = 4
              · rw [rgtS_4 k4]
                by_cases a : f.lo = 0 <;> by_cases b : f.hi = 0 <;> by_cases c : 0 ≤ f.most <;> simp [*]
              · rw [rgtS_0 k1 k2 k3 k4]
                by_cases a : f.lo = 0 <;> simp [*])
theorem c_fbounds (f : Fld) (h : f.kind = 3 → rgtS f = true) : tbl E0 116 [fldV f] [] = some ([.int .i64 (loS f), .int .i64 (hiS f)], []) :=
  t_fbounds f (by
    unfold s_fbounds
    by_cases k1 : f.kind = 1
    · simp [k1, loS, hiS]
    · by_cases k2 : f.kind = 2
      · simp [k2, loS, hiS]
      · by_cases k3 : f.kind = 3
        · have h' := h k3
          rw [rgtS_3 k3] at h'
          simp only [Bool.and_eq_true, decide_eq_true_eq] at h'
          rw [wrap_i64 _ (by omega) (by omega)]
          simp [k3, loS, hiS]
        · simp [k1, k2, k3, loS, hiS])
theorem c_fwidthL (n : Nat) : ∀ (w : Nat), n < 9223372036854775808 → w + n < 9223372036854775808 → ltbl E0 119 0 2 [.int .i64 (n : Int), .int .i64 (w : Int)] [] = some (1, [.int .i64 ((w + wdS n : Nat) : Int)], []) := by
  induction n using wdS.induct with
  | case1 =>
    intro w hn hw
    exact t_fwidthL _ _ (by rw [wdS]; simp [s_fwidthL])
  | case2 n h ih =>
    intro w hn hw
    refine t_fwidthL _ _ ?_
    have h0 : (n : Int) > 0 := by omega
    have e : (n : Int).fdiv ((2 : Int) ^ (8 : Nat)) = ((n / 256 : Nat) : Int) := by rw [Int.fdiv_eq_ediv_of_nonneg _ (by decide)]; omega
    have e2 : IntKind.i64.wrap ((w : Int) + 1) = ((w + 1 : Nat) : Int) := by rw [wrap_i64 _ (by omega) (by omega)]; omega
    have e3 : wdS n = wdS (n / 256) + 1 := by rw [wdS]; simp [h]
    have := ih (w + 1) (by omega) (by omega)
    rw [e3, show w + (wdS (n / 256) + 1) = w + 1 + wdS (n / 256) by omega, ← this]
    simp only [s_fwidthL, h0, decide_true, cond_true, OA_chk, e, e2]
theorem c_fwidth (n : Int) (h : n < 9223372036854775808) : tbl E0 119 [.int .i64 n] [] = some ([.int .i64 (wdS n.toNat : Nat)], []) :=
  t_fwidth n (by
    by_cases h0 : 0 ≤ n
    · have := c_fwidthL n.toNat 0 (by omega) (by omega)
      rw [show (n.toNat : Int) = n by omega] at this
      simp only [Int.natCast_zero] at this
      simp [s_fwidth, this]
    · have e : ltbl E0 119 0 2 [.int .i64 n, .int .i64 0] [] = some (1, [.int .i64 0], []) := t_fwidthL _ _ (by
        have : ¬ (0 < n) := by omega
        simp [s_fwidthL, this])
      have e0 : n.toNat = 0 := by omega
      rw [e0, wdS]
      simp [s_fwidth, e])
theorem c_ywideL (n : Nat) : ∀ (w : Nat), n < 9223372036854775808 → w + n < 9223372036854775808 → ltbl E0 117 0 2 [.int .i64 (n : Int), .int .i64 (w : Int)] [] = some (1, [.int .i64 ((w + wdS n : Nat) : Int)], []) := by
  induction n using wdS.induct with
  | case1 =>
    intro w hn hw
    exact t_ywideL _ _ (by rw [wdS]; simp [s_ywideL])
  | case2 n h ih =>
    intro w hn hw
    refine t_ywideL _ _ ?_
    have h0 : (n : Int) > 0 := by omega
    have e : IntKind.i64.wrap ((n : Int).tdiv 256) = ((n / 256 : Nat) : Int) := by
      have e1 : (n : Int).tdiv 256 = ((n / 256 : Nat) : Int) := by rw [Int.tdiv_eq_ediv_of_nonneg (by omega)]; omega
      rw [e1, wrap_i64 _ (by omega) (by omega)]
    have e2 : IntKind.i64.wrap ((w : Int) + 1) = ((w + 1 : Nat) : Int) := by rw [wrap_i64 _ (by omega) (by omega)]; omega
    have e3 : wdS n = wdS (n / 256) + 1 := by rw [wdS]; simp [h]
    have := ih (w + 1) (by omega) (by omega)
    rw [e3, show w + (wdS (n / 256) + 1) = w + 1 + wdS (n / 256) by omega, ← this]
    simp only [s_ywideL, h0, decide_true, cond_true, OA_chk, e, e2]
theorem c_ywide (n : Int) (h : n < 9223372036854775808) : tbl E0 117 [.int .i64 n] [] = some ([.int .i64 (wdS n.toNat : Nat)], []) :=
  t_ywide n (by
    by_cases h0 : 0 ≤ n
    · have := c_ywideL n.toNat 0 (by omega) (by omega)
      rw [show (n.toNat : Int) = n by omega] at this
      simp only [Int.natCast_zero] at this
      simp [s_ywide, this]
    · have e : ltbl E0 117 0 2 [.int .i64 n, .int .i64 0] [] = some (1, [.int .i64 0], []) := t_ywideL _ _ (by
        have : ¬ (0 < n) := by omega
        simp [s_ywideL, this])
      have e0 : n.toNat = 0 := by omega
      rw [e0, wdS]
      simp [s_ywide, e])
theorem rgt_rng {f : Fld} (h : rgtS f = true) : 0 ≤ f.id ∧ f.id ≤ 255 ∧ (f.kind = 1 ∨ f.kind = 2 ∨ f.kind = 3 ∨ f.kind = 4) ∧ 0 ≤ hiS f - loS f ∧ hiS f - loS f ≤ 2199023255552 ∧ (f.kind ≠ 1 → f.lo = 0 ∧ f.hi = 0) ∧ (f.kind = 1 → -1099511627776 ≤ f.lo ∧ f.lo ≤ f.hi ∧ f.hi ≤ 1099511627776 ∧ f.most = 0) ∧ 0 ≤ f.most ∧ f.most ≤ 1000 ∧ (f.kind = 4 → f.most ≤ 32) ∧ (f.kind = 3 → 1 ≤ f.most) ∧ (f.kind = 2 → f.most = 0) := by
  by_cases k1 : f.kind = 1
  · rw [rgtS_1 k1] at h; simp [k1, loS, hiS] at h ⊢; omega
  · by_cases k2 : f.kind = 2
    · rw [rgtS_2 k2] at h; simp [k2, loS, hiS] at h ⊢; omega
    · by_cases k3 : f.kind = 3
      · rw [rgtS_3 k3] at h; simp [k3, loS, hiS] at h ⊢; omega
      · by_cases k4 : f.kind = 4
        · rw [rgtS_4 k4] at h; simp [k4, loS, hiS] at h ⊢; omega
        · rw [rgtS_0 k1 k2 k3 k4] at h; cases h
theorem c_fwide (f : Fld) (h : rgtS f = true) : tbl E0 118 [fldV f] [] = some ([.int .i64 (wdS (hiS f - loS f).toNat : Nat)], []) :=
  t_fwide f (by
    have r := rgt_rng h
    have e := c_fbounds f (fun _ => h)
    have e2 := c_fwidth (hiS f - loS f) (by omega)
    simp only [s_fwide, OA_chk, cond_true, OA_callx, e, Option.bind_some, u_asC, u_asI, u_asN, wrap_i64 (hiS f - loS f) (by omega) (by omega), e2])
theorem c_fSize (f : Fld) : tbl E0 115 [fldV f] [] = some ([.int .i64 (sizeS f)], []) :=
  t_fSize f (by
    have e := c_fRight f
    simp only [s_fSize, OA_chk, cond_true, OA_callx, e, Option.bind_some, u_asC, u_asB, u_asI, u_asN]
    cases h : rgtS f with
    | false => simp [sizeS, h]
    | true =>
      have r := rgt_rng h
      have e2 := c_fwide f h
      by_cases k4 : f.kind = 4
      · rw [wrap_i64 (f.most + 1) (by omega) (by omega)]
        simp [sizeS, h, k4]
      · by_cases k2 : f.kind = 2
        · simp [sizeS, h, k2, hiS, loS, wdS]
        · simp only [sizeS, h, k4, k2, beq_f k4, beq_f k2, if_true, if_false, Bool.not_true, cond_false, e2, Option.bind_some, u_asC, u_asI, u_asN])
theorem c_ySpan (f : Fld) : ∃ lo hi most, tbl E0 112 [fldV f] [] = some ([.int .i64 lo, .int .i64 hi, .int .i64 most, .bool (rgtS f)], []) ∧ (rgtS f = true → lo = loS f ∧ hi = hiS f ∧ most = if f.kind = 4 then f.most else 0) := by
  by_cases k1 : f.kind = 1
  · refine ⟨f.lo, f.hi, 0, t_ySpan f ?_, fun _ => by simp [k1, loS, hiS]⟩
    rw [rgtS_1 k1]
    simp only [s_ySpan]
    by_cases a : 0 ≤ f.id <;> by_cases b : f.id ≤ 255 <;> by_cases c : -1099511627776 ≤ f.lo <;> by_cases d : f.lo ≤ f.hi <;> by_cases e : f.hi ≤ 1099511627776 <;> by_cases e2 : f.most = 0 <;> simp [*]
  · by_cases k2 : f.kind = 2
    · refine ⟨0, 1, 0, t_ySpan f ?_, fun _ => by simp [k2, loS, hiS]⟩
      rw [rgtS_2 k2]
      simp only [s_ySpan]
      by_cases a : 0 ≤ f.id <;> by_cases b : f.id ≤ 255 <;> by_cases c : f.lo = 0 <;> by_cases d : f.hi = 0 <;> by_cases e2 : f.most = 0 <;> simp [*]
    · by_cases k3 : f.kind = 3
      · refine ⟨0, IntKind.i64.wrap (f.most - 1), 0, t_ySpan f ?_, fun h => ?_⟩
        · rw [rgtS_3 k3]
          simp only [s_ySpan]
          by_cases a : 0 ≤ f.id <;> by_cases b : f.id ≤ 255 <;> by_cases c : f.lo = 0 <;> by_cases d : f.hi = 0 <;> by_cases e : 1 ≤ f.most <;> simp [*]
        · have r := rgt_rng h
          rw [wrap_i64 _ (by omega) (by omega)]
          simp [k3, loS, hiS]
      · by_cases k4 : f.kind = 4
        · refine ⟨0, 0, f.most, t_ySpan f ?_, fun _ => by simp [k4, loS, hiS]⟩
          rw [rgtS_4 k4]
          simp only [s_ySpan]
          by_cases a : 0 ≤ f.id <;> by_cases b : f.id ≤ 255 <;> by_cases c : f.lo = 0 <;> by_cases d : f.hi = 0 <;> by_cases e : 0 ≤ f.most <;> simp [*]
        · refine ⟨0, 0, 0, t_ySpan f ?_, fun h => by rw [rgtS_0 k1 k2 k3 k4] at h; cases h⟩
          rw [rgtS_0 k1 k2 k3 k4]
          simp only [s_ySpan]
          by_cases a : 0 ≤ f.id <;> simp [*]
theorem c_yRight (f : Fld) : tbl E0 89 [fldV f] [] = some ([.bool (rgtS f)], []) := by
  obtain ⟨lo, hi, most, e, _⟩ := c_ySpan f
  exact t_yRight f (by simp only [s_yRight, OA_chk, cond_true, OA_callx, e, Option.bind_some, u_asC, u_asI, u_asB, u_asN])
theorem c_ySize (f : Fld) : tbl E0 113 [fldV f] [] = some ([.int .i64 (sizeS f)], []) := by
  obtain ⟨lo, hi, most, e, h⟩ := c_ySpan f
  refine t_ySize f ?_
  simp only [s_ySize, OA_chk, cond_true, OA_callx, e, Option.bind_some, u_asC, u_asI, u_asB, u_asN]
  cases hr : rgtS f with
  | false => simp [sizeS, hr]
  | true =>
    obtain ⟨rfl, rfl, rfl⟩ := h hr
    have r := rgt_rng hr
    by_cases k4 : f.kind = 4
    · rw [if_pos k4, wrap_i64 (1 + f.most) (by omega) (by omega)]
      simp [sizeS, hr, k4, Int.add_comm]
    · have e2 := c_ywide (hiS f - loS f) (by omega)
      simp only [sizeS, hr, k4, beq_f k4, if_true, if_false, Bool.not_true, cond_false, wrap_i64 (hiS f - loS f) (by omega) (by omega), e2, Option.bind_some, u_asC, u_asI, u_asN]
end Go.Proofs.YtmpfeofeokmooaaGreat.V
namespace Go.Proofs.YtmpfeofeokmooaaGreat.V
open Go
theorem drop_c {α : Type} {l r : List α} {i : Nat} {a : α} (h : l.drop i = a :: r) : i < l.length ∧ l[i]? = some a ∧ l.drop (i + 1) = r := by
  have hlt : i < l.length := by
    rcases Nat.lt_or_ge i l.length with h' | h'
    · exact h'
    · rw [List.drop_eq_nil_of_le h'] at h; cases h
  rw [List.drop_eq_getElem_cons hlt] at h
  injection h with h1 h2
  exact ⟨hlt, by rw [List.getElem?_eq_getElem hlt, h1], h2⟩
theorem i64_succ {i : Nat} (h : i < 9223372036854775807) : IntKind.i64.wrap ((i : Int) + 1) = ((i + 1 : Nat) : Int) := by rw [wrap_i64 _ (by omega) (by omega)]; omega
theorem wdS_le (k : Nat) : ∀ n, n < 256 ^ k → wdS n ≤ k := by
  induction k with
  | zero => intro n h; simp at h; subst h; rw [wdS]; simp
  | succ k ih =>
    intro n h
    rw [wdS]
    split
    · omega
    · have := ih (n / 256) (by rw [Nat.div_lt_iff_lt_mul (by omega)]; rw [Nat.pow_succ] at h; exact h)
      omega
theorem sizeS_rng (f : Fld) : 0 ≤ sizeS f ∧ sizeS f ≤ 33 := by
  unfold sizeS
  split
  · rename_i h
    have r := rgt_rng h
    split
    · rename_i k; have := r.2.2.2.2.2.2.2.2.2.1 k; omega
    · have := wdS_le 6 (hiS f - loS f).toNat (by have : (256 : Nat) ^ 6 = 281474976710656 := by decide
                                                 omega)
      omega
  · omega
theorem longS_cons (f : Fld) (l : List Fld) : longS (f :: l) = sizeS f + longS l := by simp [longS]
theorem c_sLongL (l : List Fld) (hl : l.length ≤ 140737488355328) : ∀ (r : List Fld) (i : Nat) (n : Int), l.drop i = r → 0 ≤ n → n ≤ 33 * i →
    ltbl E0 105 0 3 [.int .i64 n, fldsV l, .int .i64 l.length, .int .i64 i] [] = some (1, [.int .i64 (n + longS r)], []) := by
  intro r
  induction r with
  | nil =>
    intro i n hr h0 h1
    have h : l.length ≤ i := by simpa using hr
    refine t_sLongL _ _ _ _ ?_
    have : ¬ ((i : Int) < l.length) := by omega
    simp [s_sLongL, this, longS]
  | cons f r ih =>
    intro i n hr h0 h1
    obtain ⟨hlt, hget, hr2⟩ := drop_c hr
    have hs := sizeS_rng f
    have h2 : (i : Int) < l.length := by omega
    have e1 := i64_succ (i := i) (by omega)
    have e2 : IntKind.i64.wrap (n + sizeS f) = n + sizeS f := wrap_i64 _ (by omega) (by omega)
    have h := ih (i + 1) (n + sizeS f) hr2 (by omega) (by omega)
    have c := c_fSize f
    refine t_sLongL _ _ _ _ ?_
    rw [longS_cons, ← Int.add_assoc, ← h]
    simp only [s_sLongL, h2, decide_true, cond_true, OA_chk, Int.natCast_nonneg, nthE, Int.toNat_natCast, List.getElem?_map, hget, Option.map_some, u_asA, u_asC, u_asI, u_asN, OA_callx, c, Option.bind_some, e1, e2]
theorem c_sLong (f : Frm) (h : f.fields.length ≤ 140737488355328) : tbl E0 105 [frmV f] [] = some ([.int .i64 (longS f.fields)], []) :=
  t_sLong f (by
    have e := c_sLongL f.fields h f.fields 0 0 rfl (by omega) (by omega)
    simp only [Int.natCast_zero, Int.zero_add] at e
    simp [s_sLong, e])
theorem c_yLongL (f : Frm) (hl : f.fields.length ≤ 140737488355328) : ∀ (r : List Fld) (i : Nat) (n : Int), f.fields.drop i = r → 0 ≤ n → n ≤ 33 * i →
    ltbl E0 91 0 3 [.int .i64 n, .int .i64 i] [[.int .i64 f.id, fldsV f.fields]] = some (1, [.int .i64 (n + longS r)], []) := by
  intro r
  induction r with
  | nil =>
    intro i n hr h0 h1
    have h : f.fields.length ≤ i := by simpa using hr
    refine t_yLongL _ _ _ ?_
    have : ¬ ((i : Int) < f.fields.length) := by omega
    simp [s_yLongL, this, longS]
  | cons x r ih =>
    intro i n hr h0 h1
    obtain ⟨hlt, hget, hr2⟩ := drop_c hr
    have hs := sizeS_rng x
    have h2 : (i : Int) < f.fields.length := by omega
    have e1 := i64_succ (i := i) (by omega)
    have e2 : IntKind.i64.wrap (n + sizeS x) = n + sizeS x := wrap_i64 _ (by omega) (by omega)
    have h := ih (i + 1) (n + sizeS x) hr2 (by omega) (by omega)
    have c := c_ySize x
    refine t_yLongL _ _ _ ?_
    rw [longS_cons, ← Int.add_assoc, ← h]
    simp only [s_yLongL, OA_asm, List.length_map, h2, decide_true, cond_true, OA_chk, Int.natCast_nonneg, nthE, Int.toNat_natCast, List.getElem?_map, hget, Option.map_some, u_asA, u_asC, u_asI, u_asN, OA_callx, c, Option.bind_some, e1, e2]
theorem c_yLong (f : Frm) (h : f.fields.length ≤ 140737488355328) : tbl E0 91 [frmV f] [] = some ([.int .i64 (longS f.fields)], []) :=
  t_yLong f (by
    have e := c_yLongL f h f.fields 0 0 rfl (by omega) (by omega)
    simp only [Int.natCast_zero, Int.zero_add] at e
    simp [s_yLong, e])
def atS (l : List Fld) (id : Int) : Int := firstS (fun f : Fld => f.id == id) l
def fromS {α : Type} (p : α → Bool) (i : Nat) (l : List α) : LR := match l.findIdx? p with | some j => (0, [.int .i64 ((i + j : Nat) : Int)], []) | none => (1, [], [])
theorem fromS_nil {α : Type} (p : α → Bool) (i : Nat) : fromS p i [] = (1, [], []) := rfl
theorem fromS_cons {α : Type} (p : α → Bool) (i : Nat) (a : α) (l : List α) : fromS p i (a :: l) = if p a then (0, [.int .i64 (i : Int)], []) else fromS p (i + 1) l := by
  unfold fromS
  rw [List.findIdx?_cons]
  cases p a with
  | true => simp
  | false =>
    simp only [Bool.false_eq_true, if_false]
    cases l.findIdx? p with
    | none => rfl
    | some j => simp [Nat.add_assoc, Nat.add_comm 1 j]
theorem c_yAtL (f : Frm) (id : Int) (hl : f.fields.length ≤ 140737488355328) : ∀ (r : List Fld) (i : Nat), f.fields.drop i = r →
    ltbl E0 90 0 2 [.int .i64 id, .int .i64 i] [[.int .i64 f.id, fldsV f.fields]] = some (fromS (fun f : Fld => f.id == id) i r) := by
  intro r
  induction r with
  | nil =>
    intro i hr
    have h : f.fields.length ≤ i := by simpa using hr
    refine t_yAtL _ _ _ ?_
    have : ¬ ((i : Int) < f.fields.length) := by omega
    simp [s_yAtL, this, fromS_nil]
  | cons x r ih =>
    intro i hr
    obtain ⟨hlt, hget, hr2⟩ := drop_c hr
    have h2 : (i : Int) < f.fields.length := by omega
    have e1 := i64_succ (i := i) (by omega)
    have h := ih (i + 1) hr2
    refine t_yAtL _ _ _ ?_
    rw [fromS_cons]
    simp only [s_yAtL, OA_asm, List.length_map, h2, decide_true, cond_true, OA_chk, Int.natCast_nonneg, nthE, Int.toNat_natCast, List.getElem?_map, hget, Option.map_some, u_asA, u_asC, u_asI, u_asB, u_asN, e1, h]
    cases x.id == id <;> rfl
theorem c_yAt (f : Frm) (id : Int) (h : f.fields.length ≤ 140737488355328) : tbl E0 90 [frmV f, .int .i64 id] [] = some ([.int .i64 (atS f.fields id)], []) :=
  t_yAt f id (by
    have e := c_yAtL f id h f.fields 0 rfl
    simp only [Int.natCast_zero] at e
    simp only [s_yAt, OA_chk, cond_true, OA_loop, e, Option.bind_some, fromS, atS, firstS]
    cases f.fields.findIdx? (fun f : Fld => f.id == id) <;> simp)
theorem setAt_bool (s : List Bool) (k : Nat) (b : Bool) : setAt (s.map AV.bool) k [AV.bool b] = (s.set k b).map AV.bool := by
  simp [setAt, List.map_set]
theorem all_flat_bool (s : List Bool) : (s.map AV.bool).all AV.flat1 = true := by
  simp [List.all_map, Function.comp_def, AV.flat1]
def freshS : List Bool → List Fld → Bool
  | _, [] => true
  | s, f :: l => rgtS f && !((s[f.id.toNat]?).getD false) && freshS (s.set f.id.toNat true) l
theorem c_sFineL (l : List Fld) (hl : l.length ≤ 140737488355328) : ∀ (r : List Fld) (i : Nat) (s : List Bool), l.drop i = r → s.length = 256 →
    ltbl E0 83 0 5 [fldsV l, .int .i64 l.length, .int .i64 i] [s.map AV.bool] = some (if freshS s r then (1, [], []) else (0, [.bool false], [])) := by
  intro r
  induction r with
  | nil =>
    intro i s hr hs
    have h : l.length ≤ i := by simpa using hr
    refine t_sFineL _ _ _ _ ?_
    have : ¬ ((i : Int) < l.length) := by omega
    simp [s_sFineL, this, freshS]
  | cons f r ih =>
    intro i s hr hs
    obtain ⟨hlt, hget, hr2⟩ := drop_c hr
    have h2 : (i : Int) < l.length := by omega
    have e1 := i64_succ (i := i) (by omega)
    have h := ih (i + 1) (s.set f.id.toNat true) hr2 (by simpa using hs)
    have c := c_fRight f
    refine t_sFineL _ _ _ _ ?_
    simp only [s_sFineL, h2, decide_true, cond_true, OA_chk, Int.natCast_nonneg, nthE, Int.toNat_natCast, List.getElem?_map, hget, Option.map_some, u_asA, u_asC, u_asI, u_asB, u_asN, OA_callx, OA_join, c, Option.bind_some, e1, freshS]
    by_cases hg : rgtS f = true
    · have rr := rgt_rng hg
      have hk : f.id.toNat < s.length := by omega
      have g : s[f.id.toNat]? = some s[f.id.toNat] := List.getElem?_eq_getElem hk
      have a1 : 0 ≤ f.id := rr.1
      have a2 : f.id < ((256 : Nat) : Int) := by omega
      have a3 : 0 + f.id.toNat * 1 = f.id.toNat := by omega
      have a4 : (f.id.toNat + 1).ble (List.map AV.bool s).length = true := by rw [Nat.ble_eq, List.length_map]; omega
      simp only [hg, a1, a2, a3, a4, decide_true, Bool.and_self, cond_true, g, Option.map_some, u_asB, Bool.not_true, cond_false, Option.bind_some, Tok.untok_tok, setAt_bool, all_flat_bool, h, Option.getD_some, Bool.true_and]
      by_cases hb : s[f.id.toNat] = true
      · simp [hb]
      · have hb : s[f.id.toNat] = false := by simpa using hb
        simp [hb]
    · have hg : rgtS f = false := by simpa using hg
      simp [hg]
theorem freshS_iff : ∀ (l : List Fld) (s : List Bool), s.length = 256 → (freshS s l = true ↔ (∀ f ∈ l, rgtS f = true ∧ s[f.id.toNat]? = some false) ∧ nodupI (l.map Fld.id) = true)
  | [], s, _ => by simp [freshS, nodupI]
  | f :: l, s, hs => by
    have ih := freshS_iff l (s.set f.id.toNat true) (by simpa using hs)
    simp only [freshS, Bool.and_eq_true, ih, List.map_cons, nodupI, Bool.not_eq_true', List.mem_cons, forall_eq_or_imp]
    have key : rgtS f = true → ((s[f.id.toNat]?).getD false = false ↔ s[f.id.toNat]? = some false) := by
      intro hg
      have rr := rgt_rng hg
      have hk : f.id.toNat < s.length := by omega
      rw [List.getElem?_eq_getElem hk]
      simp
    have key2 : rgtS f = true → ∀ g, rgtS g = true → ((s.set f.id.toNat true)[g.id.toNat]? = some false ↔ (s[g.id.toNat]? = some false ∧ g.id ≠ f.id)) := by
      intro hg g hgg
      have r1 := rgt_rng hg
      have r2 := rgt_rng hgg
      rw [List.getElem?_set]
      by_cases e : f.id.toNat = g.id.toNat
      · have e' : g.id = f.id := by omega
        rw [if_pos e, if_pos (by omega)]
        simp [e']
      · have e' : g.id ≠ f.id := by omega
        rw [if_neg e]
        simp [e']
    constructor
    · rintro ⟨⟨h1, h2⟩, h3, h4⟩
      refine ⟨⟨⟨h1, (key h1).1 h2⟩, fun g hg => ⟨(h3 g hg).1, ((key2 h1 g (h3 g hg).1).1 (h3 g hg).2).1⟩⟩, ?_, h4⟩
      simp only [List.any_map, List.any_eq_false, Function.comp_apply, beq_iff_eq]
      intro g hg
      exact ((key2 h1 g (h3 g hg).1).1 (h3 g hg).2).2
    · rintro ⟨⟨⟨h1, h2⟩, h3⟩, h4, h5⟩
      refine ⟨⟨h1, (key h1).2 h2⟩, fun g hg => ⟨(h3 g hg).1, (key2 h1 g (h3 g hg).1).2 ⟨(h3 g hg).2, ?_⟩⟩, h5⟩
      simp only [List.any_map, List.any_eq_false, Function.comp_apply, beq_iff_eq] at h4
      exact h4 g hg
theorem freshS_0 (l : List Fld) : freshS (List.replicate 256 false) l = (l.all rgtS && nodupI (l.map Fld.id)) := by
  rw [Bool.eq_iff_iff, freshS_iff _ _ List.length_replicate]
  simp only [Bool.and_eq_true, List.all_eq_true]
  constructor
  · rintro ⟨h1, h2⟩; exact ⟨fun f hf => (h1 f hf).1, h2⟩
  · rintro ⟨h1, h2⟩
    refine ⟨fun f hf => ⟨h1 f hf, ?_⟩, h2⟩
    have r := rgt_rng (h1 f hf)
    rw [List.getElem?_replicate, if_pos (by omega)]
set_option maxRecDepth 20000 in
theorem bools256 : (List.replicate 256 false).map AV.bool = [.bool false, .bool false, .bool false, .bool false, .bool false, .bool false, .bool false, .bool false, .bool false, .bool false, .bool false, .bool false, .bool false, .bool false, .bool false, .bool false, .bool false, .bool false, .bool false, .bool false, .bool false, .bool false, .bool false, .bool false, .bool false, .bool false, .bool false, .bool false, .bool false, .bool false, .bool false, .bool false, .bool false, .bool false, .bool false, .bool false, .bool false, .bool false, .bool false, .bool false, .bool false, .bool false, .bool false, .bool false, .bool false, .bool false, .bool false, .bool false, .bool false, .bool false, .bool false, .bool false, .bool false, .bool false, .bool false, .bool false, .bool false, .bool false, .bool false, .bool false, .bool false, .bool false, .bool false, .bool false, .bool false, .bool false, .bool false, .bool false, .bool false, .bool false, .bool false, .bool false, .bool false, .bool false, .bool false, .bool false, .bool false, .bool false, .bool false, .bool false, .bool false, .bool false, .bool false, .bool false, .bool false, .bool false, .bool false, .bool false, .bool false, .bool false, .bool false, .bool false, .bool false, .bool false, .bool false, .bool false, .bool false, .bool false, .bool false, .bool false, .bool false, .bool false, .bool false, .bool false, .bool false, .bool false, .bool false, .bool false, .bool false, .bool false, .bool false, .bool false, .bool false, .bool false, .bool false, .bool false, .bool false, .bool false, .bool false, .bool false, .bool false, .bool false, .bool false, .bool false, .bool false, .bool false, .bool false, .bool false, .bool false, .bool false, .bool false, .bool false, .bool false, .bool false, .bool false, .bool false, .bool false, .bool false, .bool false, .bool false, .bool false, .bool false, .bool false, .bool false, .bool false, .bool false, .bool false, .bool false, .bool false, .bool false, .bool false, .bool false, .bool false, .bool false, .bool false, .bool false, .bool false, .bool false, .bool false, .bool false, .bool false, .bool false, .bool false, .bool false, .bool false, .bool false, .bool false, .bool false, .bool false, .bool false, .bool false, .bool false, .bool false, .bool false, .bool false, .bool false, .bool false, .bool false, .bool false, .bool false, .bool false, .bool false, .bool false, .bool false, .bool false, .bool false, .bool false, .bool false, .bool false, .bool false, .bool false, .bool false, .bool false, .bool false, .bool false, .bool false, .bool false, .bool false, .bool false, .bool false, .bool false, .bool false, .bool false, .bool false, .bool false, .bool false, .bool false, .bool false, .bool false, .bool false, .bool false, .bool false, .bool false, .bool false, .bool false, .bool false, .bool false, .bool false, .bool false, .bool false, .bool false, .bool false, .bool false, .bool false, .bool false, .bool false, .bool false, .bool false, .bool false, .bool false, .bool false, .bool false, .bool false, .bool false, .bool false, .bool false, .bool false, .bool false, .bool false, .bool false, .bool false, .bool false, .bool false, .bool false, .bool false, .bool false, .bool false, .bool false, .bool false, .bool false, .bool false, .bool false, .bool false, .bool false, .bool false, .bool false] := rfl
set_option maxRecDepth 20000 in
theorem c_sFine (f : Frm) (h : f.fields.length ≤ 140737488355328) : tbl E0 83 [frmV f] [] = some ([.bool (fineS f)], []) :=
  t_sFine f (by
    have e := c_sFineL f.fields h f.fields 0 (List.replicate 256 false) rfl List.length_replicate
    simp only [Int.natCast_zero, freshS_0] at e
    rw [bools256] at e
    have c := c_sLong f h
    simp only [s_sFine, OA_chk, cond_true, OA_join, OA_asm, List.length_map, OA_callx, c, Option.bind_some, u_asC, u_asI, u_asB, u_asN, OA_loop, e]
    unfold fineS
    by_cases a1 : f.id < 0
    · have : ¬ (0 ≤ f.id) := by omega
      simp [a1, this]
    · by_cases a2 : f.id > 200
      · have : ¬ (f.id ≤ 200) := by omega
        simp [a1, a2, this]
      · by_cases a3 : (f.fields.length : Int) < 1
        · have : ¬ (1 ≤ f.fields.length) := by omega
          simp [a1, a2, a3, this]
        · by_cases a4 : (f.fields.length : Int) > 8
          · have : ¬ (f.fields.length ≤ 8) := by omega
            simp [a1, a2, a3, a4, this]
          · by_cases a5 : longS f.fields > 64
            · have : ¬ (longS f.fields ≤ 64) := by omega
              simp [a1, a2, a3, a4, a5, this]
            · have b1 : 0 ≤ f.id ∧ f.id ≤ 200 := by omega
              have b2 : 1 ≤ f.fields.length ∧ f.fields.length ≤ 8 := by omega
              have b3 : longS f.fields ≤ 64 := by omega
              simp only [a1, a2, a3, a4, a5, b1, b2, b3, decide_true, decide_false, cond_false, Option.bind_some, Tok.untok_tok, Bool.true_and, and_self]
              cases (f.fields.all rgtS && nodupI (f.fields.map Fld.id)) <;> simp)
def idxS (l : List Fld) : Nat → List Fld → Bool
  | _, [] => true
  | i, x :: r => rgtS x && decide (atS l x.id = i) && idxS l (i + 1) r
theorem atS_app (p r : List Fld) (x : Fld) : atS (p ++ x :: r) x.id = p.length ↔ ∀ f ∈ p, f.id ≠ x.id := by
  unfold atS firstS
  constructor
  · intro h f hf e
    have h1 : (p ++ x :: r).findIdx? (fun f : Fld => f.id == x.id) = (p.findIdx? (fun f : Fld => f.id == x.id)).or _ := List.findIdx?_append
    cases h2 : p.findIdx? (fun f : Fld => f.id == x.id) with
    | none =>
      rw [List.findIdx?_eq_none_iff] at h2
      have := h2 f hf
      simp [e] at this
    | some j =>
      rw [h1, h2] at h
      obtain ⟨hj, _⟩ := List.findIdx?_eq_some_iff_getElem.1 h2
      simp only [Option.some_or] at h
      omega
  · intro h
    have h2 : p.findIdx? (fun f : Fld => f.id == x.id) = none := by
      rw [List.findIdx?_eq_none_iff]
      intro f hf
      simpa using h f hf
    rw [List.findIdx?_append, h2, List.findIdx?_cons]
    simp
theorem idxS_iff : ∀ (r p : List Fld), idxS (p ++ r) p.length r = true ↔ (∀ x ∈ r, rgtS x = true ∧ ∀ f ∈ p, f.id ≠ x.id) ∧ nodupI (r.map Fld.id) = true
  | [], p => by simp [idxS, nodupI]
  | x :: r, p => by
    have ih := idxS_iff r (p ++ [x])
    simp only [List.append_assoc, List.singleton_append, List.length_append, List.length_singleton] at ih
    simp only [idxS, Bool.and_eq_true, ih, decide_eq_true_eq, atS_app, List.map_cons, nodupI, List.mem_cons, forall_eq_or_imp, Bool.not_eq_true', List.any_map, List.any_eq_false, Function.comp_apply, beq_iff_eq, List.mem_append, List.not_mem_nil, or_false]
    constructor
    · rintro ⟨⟨h1, h2⟩, h3, h4⟩
      refine ⟨⟨⟨h1, h2⟩, fun y hy => ⟨(h3 y hy).1, fun f hf => (h3 y hy).2 f (Or.inl hf)⟩⟩, fun y hy e => (h3 y hy).2 x (Or.inr rfl) e.symm, h4⟩
    · rintro ⟨⟨⟨h1, h2⟩, h3⟩, h4, h5⟩
      refine ⟨⟨h1, h2⟩, fun y hy => ⟨(h3 y hy).1, ?_⟩, h5⟩
      rintro f (hf | rfl)
      · exact (h3 y hy).2 f hf
      · exact fun e => h4 y hy e.symm
theorem idxS_0 (l : List Fld) : idxS l 0 l = (l.all rgtS && nodupI (l.map Fld.id)) := by
  rw [Bool.eq_iff_iff]
  have := idxS_iff l []
  simp only [List.nil_append, List.length_nil] at this
  rw [this]
  simp
theorem c_yFineL (f : Frm) (hl : f.fields.length ≤ 140737488355328) : ∀ (r : List Fld) (i : Nat), f.fields.drop i = r →
    ltbl E0 64 0 4 [.int .i64 i] [[.int .i64 f.id, fldsV f.fields]] = some (if idxS f.fields i r then (1, [], [[.int .i64 f.id, fldsV f.fields]]) else (0, [.bool false], [])) := by
  intro r
  induction r with
  | nil =>
    intro i hr
    have h : f.fields.length ≤ i := by simpa using hr
    refine t_yFineL _ _ ?_
    have : ¬ ((i : Int) < f.fields.length) := by omega
    simp [s_yFineL, this, idxS]
  | cons x r ih =>
    intro i hr
    obtain ⟨hlt, hget, hr2⟩ := drop_c hr
    have h2 : (i : Int) < f.fields.length := by omega
    have e1 := i64_succ (i := i) (by omega)
    have h := ih (i + 1) hr2
    have c := c_yRight x
    have c2 := c_yAt f x.id hl
    refine t_yFineL _ _ ?_
    simp only [s_yFineL, OA_asm, List.length_map, h2, decide_true, cond_true, OA_chk, Int.natCast_nonneg, nthE, Int.toNat_natCast, List.getElem?_map, hget, Option.map_some, u_asA, u_asC, u_asI, u_asB, u_asN, OA_callx, c, c2, Option.bind_some, e1, h, idxS]
    by_cases hg : rgtS x = true
    · by_cases ha : atS f.fields x.id = i
      · simp [hg, ha]
      · simp [hg, ha]
    · have hg : rgtS x = false := by simpa using hg
      simp [hg]
theorem c_yFine (f : Frm) (h : f.fields.length ≤ 140737488355328) : tbl E0 64 [frmV f] [] = some ([.bool (fineS f)], []) :=
  t_yFine f (by
    have e := c_yFineL f h f.fields 0 rfl
    simp only [Int.natCast_zero, idxS_0] at e
    have c := c_yLong f h
    simp only [s_yFine, OA_chk, cond_true, OA_join, OA_asm, List.length_map, OA_callx, c, Option.bind_some, u_asC, u_asI, u_asB, u_asL, u_asN, OA_loop, e]
    unfold fineS
    by_cases a1 : f.id < 0
    · have : ¬ (0 ≤ f.id) := by omega
      simp [a1, this]
    · by_cases a2 : f.id > 200
      · have : ¬ (f.id ≤ 200) := by omega
        simp [a1, a2, this]
      · by_cases a3 : (f.fields.length : Int) < 1
        · have : ¬ (1 ≤ f.fields.length) := by omega
          simp [a1, a2, a3, this]
        · by_cases a4 : (f.fields.length : Int) > 8
          · have : ¬ (f.fields.length ≤ 8) := by omega
            simp [a1, a2, a3, a4, this]
          · have b1 : 0 ≤ f.id ∧ f.id ≤ 200 := by omega
            have b2 : 1 ≤ f.fields.length ∧ f.fields.length ≤ 8 := by omega
            simp only [a1, a2, a3, a4, b1, b2, decide_true, decide_false, cond_false, Option.bind_some, Tok.untok_tok, Bool.true_and, and_self]
            cases f.fields.all rgtS <;> cases nodupI (f.fields.map Fld.id) <;> simp [c])
end Go.Proofs.YtmpfeofeokmooaaGreat.V
namespace Go.Proofs.YtmpfeofeokmooaaGreat.V
open Go
theorem bor (b : Bool) : b = true ∨ b = false := by cases b <;> simp
def Sml (s : Sch) : Prop := s.forms.length ≤ 140737488355328 ∧ ∀ f ∈ s.forms, f.fields.length ≤ 140737488355328
theorem mem_drop {α : Type} {l r : List α} {i : Nat} {a : α} (h : l.drop i = a :: r) : a ∈ l := List.mem_of_mem_drop (h ▸ List.mem_cons_self : a ∈ l.drop i)
theorem c_sRightL (l : List Frm) (hl : l.length ≤ 140737488355328) (hf : ∀ f ∈ l, f.fields.length ≤ 140737488355328) : ∀ (r : List Frm) (i : Nat) (last : Int), l.drop i = r →
    ltbl E0 56 0 5 [.int .i64 last, frmsV l, .int .i64 l.length, .int .i64 i] [] = some (if risingS last r then (1, [], []) else (0, [.bool false], [])) := by
  intro r
  induction r with
  | nil =>
    intro i last hr
    have h : l.length ≤ i := by simpa using hr
    refine t_sRightL _ _ _ _ ?_
    have : ¬ ((i : Int) < l.length) := by omega
    simp [s_sRightL, this, risingS]
  | cons f r ih =>
    intro i last hr
    obtain ⟨hlt, hget, hr2⟩ := drop_c hr
    have h2 : (i : Int) < l.length := by omega
    have e1 := i64_succ (i := i) (by omega)
    have h := ih (i + 1) f.id hr2
    have c := c_sFine f (hf f (mem_drop hr))
    refine t_sRightL _ _ _ _ ?_
    simp only [s_sRightL, h2, decide_true, cond_true, OA_chk, Int.natCast_nonneg, nthE, Int.toNat_natCast, List.getElem?_map, hget, Option.map_some, u_asA, u_asC, u_asI, u_asB, u_asL, u_asN, OA_callx, OA_join, c, Option.bind_some, e1, h, risingS]
    by_cases a : f.id ≤ last
    · have : ¬ (last < f.id) := by omega
      rcases bor (fineS f) with hb | hb <;> simp [hb, a, this]
    · have b : last < f.id := by omega
      rcases bor (fineS f) with hb | hb <;> simp [hb, a, b]
theorem c_sRight (s : Sch) (h : Sml s) : tbl E0 56 [schV s] [] = some ([.bool (schS s)], []) :=
  t_sRight s (by
    have e := c_sRightL s.forms h.1 h.2 s.forms 0 (-1) rfl
    simp only [Int.natCast_zero] at e
    simp only [s_sRight, OA_chk, cond_true, OA_join, OA_asm, List.length_map, Option.bind_some, u_asC, u_asI, u_asB, u_asN, OA_loop, e]
    unfold schS
    by_cases a1 : s.ver < 1
    · have : ¬ (1 ≤ s.ver) := by omega
      simp [a1, this]
    · by_cases a2 : s.ver > 65535
      · have : ¬ (s.ver ≤ 65535) := by omega
        simp [a1, a2, this]
      · by_cases a4 : (s.forms.length : Int) > 8
        · have : ¬ (s.forms.length ≤ 8) := by omega
          simp [a1, a2, a4, this]
        · have b1 : 1 ≤ s.ver ∧ s.ver ≤ 65535 := by omega
          have b2 : s.forms.length ≤ 8 := by omega
          simp only [a1, a2, a4, b1, b2, decide_true, decide_false, cond_false, Option.bind_some, Tok.untok_tok, Bool.true_and, and_self]
          rcases bor (risingS (-1) s.forms) with hb | hb <;> simp [hb])
def riseS (l : List Frm) : Nat → List Frm → Bool
  | _, [] => true
  | i, f :: r => fineS f && (i == 0 || (match l[i - 1]? with | some g => decide (g.id < f.id) | none => false)) && riseS l (i + 1) r
theorem riseS_eq : ∀ (r : List Frm) (p : List Frm) (g : Frm), riseS (p ++ g :: r) (p.length + 1) r = risingS g.id r
  | [], p, g => rfl
  | f :: r, p, g => by
    have ih := riseS_eq r (p ++ [g]) f
    simp only [List.append_assoc, List.singleton_append, List.length_append, List.length_singleton] at ih
    simp [riseS, risingS, ih]
theorem riseS_0 (l : List Frm) : riseS l 0 l = risingS (-1) l := by
  cases l with
  | nil => rfl
  | cons f r =>
    have h := riseS_eq r [] f
    simp only [List.nil_append, List.length_nil, Nat.zero_add] at h
    simp only [riseS, h, risingS, beq_self_eq_true, Bool.true_or, Bool.and_true, Nat.zero_add]
    by_cases hf : fineS f = true
    · have : -1 < f.id := by
        unfold fineS at hf
        simp only [Bool.and_eq_true, decide_eq_true_eq] at hf
        omega
      simp [this]
    · have hf : fineS f = false := by simpa using hf
      simp [hf]
theorem c_ysRightL (s : Sch) (hs : Sml s) : ∀ (r : List Frm) (i : Nat), s.forms.drop i = r →
    ltbl E0 29 0 4 [.int .i64 i] [[.int .i64 s.ver, frmsV s.forms]] = some (if riseS s.forms i r then (1, [], []) else (0, [.bool false], [])) := by
  have hl := hs.1
  intro r
  induction r with
  | nil =>
    intro i hr
    have h : s.forms.length ≤ i := by simpa using hr
    refine t_ysRightL _ _ ?_
    have : ¬ ((i : Int) < s.forms.length) := by omega
    simp [s_ysRightL, this, riseS]
  | cons f r ih =>
    intro i hr
    obtain ⟨hlt, hget, hr2⟩ := drop_c hr
    have h2 : (i : Int) < s.forms.length := by omega
    have e1 := i64_succ (i := i) (by omega)
    have h := ih (i + 1) hr2
    have c := c_yFine f (hs.2 f (mem_drop hr))
    refine t_ysRightL _ _ ?_
    by_cases i0 : i = 0
    · subst i0
      simp only [Int.natCast_zero] at h2
      simp only [s_ysRightL, OA_asm, List.length_map, Int.natCast_zero, h2, decide_true, cond_true, OA_chk, Int.natCast_nonneg, nthE, Int.toNat_natCast, Int.toNat_zero, Int.le_refl, List.getElem?_map, hget, Option.map_some, u_asA, u_asC, u_asI, u_asB, u_asL, u_asN, OA_callx, c, Option.bind_some, riseS]
      simp only [Int.natCast_zero] at e1
      rcases bor (fineS f) with hb | hb
      · simp only [Int.zero_add, Nat.zero_add] at e1 h
        simp [hb]
        rw [e1]
        exact h
      · simp [hb]
    · have g0 : (i : Int) > 0 := by omega
      have g1 : IntKind.i64.wrap ((i : Int) - 1) = ((i - 1 : Nat) : Int) := by rw [wrap_i64 _ (by omega) (by omega)]; omega
      have g2 : s.forms[i - 1]? = some (s.forms[i - 1]'(by omega)) := List.getElem?_eq_getElem _
      simp only [s_ysRightL, OA_asm, List.length_map, h2, decide_true, cond_true, OA_chk, Int.natCast_nonneg, nthE, Int.toNat_natCast, List.getElem?_map, hget, Option.map_some, u_asA, u_asC, u_asI, u_asB, u_asL, u_asN, OA_callx, c, Option.bind_some, riseS, g0, g1, g2, e1, h, beq_f i0, Bool.false_or]
      rcases bor (fineS f) with hb | hb
      rotate_left
      · simp [hb]
      · by_cases a : (s.forms[i - 1]'(by omega)).id ≥ f.id
        · have b : ¬ ((s.forms[i - 1]'(by omega)).id < f.id) := by omega
          simp [hb, a, b]
        · have b : (s.forms[i - 1]'(by omega)).id < f.id := by omega
          simp [hb, a, b]
theorem c_ysRight (s : Sch) (h : Sml s) : tbl E0 29 [schV s] [] = some ([.bool (schS s)], []) :=
  t_ysRight s (by
    have e := c_ysRightL s h s.forms 0 rfl
    simp only [Int.natCast_zero, riseS_0] at e
    simp only [s_ysRight, OA_chk, cond_true, OA_join, OA_asm, List.length_map, Option.bind_some, u_asC, u_asI, u_asB, u_asN, OA_loop, e]
    unfold schS
    by_cases a1 : s.ver < 1
    · have : ¬ (1 ≤ s.ver) := by omega
      simp [a1, this]
    · by_cases a2 : s.ver > 65535
      · have : ¬ (s.ver ≤ 65535) := by omega
        simp [a1, a2, this]
      · by_cases a4 : (s.forms.length : Int) > 8
        · have : ¬ (s.forms.length ≤ 8) := by omega
          simp [a1, a2, a4, this]
        · have b1 : 1 ≤ s.ver ∧ s.ver ≤ 65535 := by omega
          have b2 : s.forms.length ≤ 8 := by omega
          simp only [a1, a2, a4, b1, b2, decide_true, decide_false, cond_false, Option.bind_some, Tok.untok_tok, Bool.true_and, and_self]
          rcases bor (risingS (-1) s.forms) with hb | hb <;> simp [hb])
end Go.Proofs.YtmpfeofeokmooaaGreat.V
namespace Go.Proofs.YtmpfeofeokmooaaGreat.V
open Go
def big (f : Frm) : Bool := decide (40 < f.fields.length)
def greatS (s : Sch) : Bool := (s.forms.take 41).any big || decide (40 < s.forms.length)
theorem sml_of {s : Sch} (h : greatS s = false) : Sml s := by
  unfold greatS at h
  simp only [Bool.or_eq_false_iff, decide_eq_false_iff_not, List.any_eq_false, big, decide_eq_true_eq] at h
  refine ⟨by omega, fun f hf => ?_⟩
  have := h.1 f (by rw [List.take_of_length_le (by omega)]; exact hf)
  omega
theorem fld_eq (a b : Fld) : (a.id == b.id && (a.kind == b.kind && (a.lo == b.lo && (a.hi == b.hi && (a.most == b.most && true))))) = decide (a = b) := by
  rw [Bool.eq_iff_iff]
  cases a; cases b
  simp
theorem frm_eq (a b : Frm) : decide (a = b) = (decide (a.id = b.id) && decide (a.fields = b.fields)) := by
  rw [Bool.eq_iff_iff]
  cases a; cases b
  simp
theorem sch_eq (a b : Sch) : decide (a = b) = (decide (a.ver = b.ver) && decide (a.forms = b.forms)) := by
  rw [Bool.eq_iff_iff]
  cases a; cases b
  simp
theorem c_ySameFormL (a b : Frm) (hl : a.fields.length ≤ 140737488355328) (hab : a.fields.length = b.fields.length) : ∀ (r r' : List Fld) (i : Nat), a.fields.drop i = r → b.fields.drop i = r' →
    ltbl E0 81 0 4 [.int .i64 i] [[.int .i64 a.id, fldsV a.fields], [.int .i64 b.id, fldsV b.fields]] = some (if r = r' then (1, [], []) else (0, [.bool false], [])) := by
  intro r
  induction r with
  | nil =>
    intro r' i hr hr'
    have h : a.fields.length ≤ i := by simpa using hr
    have : r' = [] := by rw [← hr']; simp; omega
    subst this
    refine t_ySameFormL _ _ _ ?_
    have : ¬ ((i : Int) < a.fields.length) := by omega
    simp [s_ySameFormL, this]
  | cons x r ih =>
    intro r' i hr hr'
    obtain ⟨hlt, hget, hr2⟩ := drop_c hr
    cases r' with
    | nil => simp at hr'; omega
    | cons y r' =>
      obtain ⟨_, hget', hr2'⟩ := drop_c hr'
      have h2 : (i : Int) < a.fields.length := by omega
      have e1 := i64_succ (i := i) (by omega)
      have h := ih r' (i + 1) hr2 hr2'
      refine t_ySameFormL _ _ _ ?_
      simp only [s_ySameFormL, OA_asm, List.length_map, h2, decide_true, cond_true, OA_chk, Int.natCast_nonneg, nthE, Int.toNat_natCast, List.getElem?_map, hget, hget', Option.map_some, u_asA, u_asC, u_asI, u_asB, u_asL, u_asN, e1, h, fld_eq]
      by_cases e : x = y
      · simp [e]
      · simp [e]
theorem c_ySameForm (a b : Frm) (h : a.fields.length ≤ 140737488355328) : tbl E0 81 [frmV a, frmV b] [] = some ([.bool (decide (a = b))], []) :=
  t_ySameForm a b (by
    rw [frm_eq]
    simp only [s_ySameForm, OA_chk, cond_true, OA_join, OA_asm, List.length_map, OA_loop]
    by_cases i0 : a.id = b.id
    · rw [show (a.id != b.id) = false by simp [i0], cond_false]
      by_cases hab : a.fields.length = b.fields.length
      · have e := c_ySameFormL a b h hab a.fields b.fields 0 rfl rfl
        simp only [Int.natCast_zero] at e
        rw [show ((a.fields.length : Int) != (b.fields.length : Int)) = false by rw [hab]; simp]
        simp only [Option.bind_some, Tok.untok_tok, cond_false, e]
        by_cases e2 : a.fields = b.fields <;> simp [i0, e2]
      · have : ¬ (a.fields = b.fields) := fun e => hab (by rw [e])
        rw [show ((a.fields.length : Int) != (b.fields.length : Int)) = true from bne_t (by omega)]
        simp [i0, this]
    · simp [i0])
theorem c_EqualFL (a b : List Fld) (hl : a.length ≤ 140737488355328) (hab : a.length = b.length) : ∀ (r r' : List Fld) (i : Nat), a.drop i = r → b.drop i = r' →
    ltbl E0 111 0 4 [fldsV a, fldsV b, .int .i64 a.length, .int .i64 i] [] = some (if r = r' then (1, [], []) else (0, [.bool false], [])) := by
  intro r
  induction r with
  | nil =>
    intro r' i hr hr'
    have h : a.length ≤ i := by simpa using hr
    have : r' = [] := by rw [← hr']; simp; omega
    subst this
    refine t_EqualFL _ _ _ _ ?_
    have : ¬ ((i : Int) < a.length) := by omega
    simp [s_EqualFL, this]
  | cons x r ih =>
    intro r' i hr hr'
    obtain ⟨hlt, hget, hr2⟩ := drop_c hr
    cases r' with
    | nil => simp at hr'; omega
    | cons y r' =>
      obtain ⟨_, hget', hr2'⟩ := drop_c hr'
      have h2 : (i : Int) < a.length := by omega
      have e1 := i64_succ (i := i) (by omega)
      have h := ih r' (i + 1) hr2 hr2'
      refine t_EqualFL _ _ _ _ ?_
      simp only [s_EqualFL, OA_asm, List.length_map, h2, decide_true, cond_true, OA_chk, Int.natCast_nonneg, nthE, Int.toNat_natCast, List.getElem?_map, hget, hget', Option.map_some, u_asA, u_asC, u_asI, u_asB, u_asL, u_asN, e1, h, fld_eq]
      by_cases e : x = y
      · simp [e]
      · simp [e]
theorem c_EqualF (a b : List Fld) (h : a.length ≤ 140737488355328) : tbl E0 111 [fldsV a, fldsV b] [] = some ([.bool (decide (a = b))], []) :=
  t_EqualF a b (by
    simp only [s_EqualF, OA_asm, List.length_map, OA_loop]
    by_cases hab : a.length = b.length
    · have e := c_EqualFL a b h hab a b 0 rfl rfl
      simp only [Int.natCast_zero] at e
      have h' : ((a.length : Int) != (b.length : Int)) = false := by rw [hab]; simp
      rw [h', cond_false, e]
      by_cases e2 : a = b <;> simp [e2]
    · have : ¬ (a = b) := fun e => hab (by rw [e])
      have h' : ((a.length : Int) != (b.length : Int)) = true := bne_t (by omega)
      rw [h']
      simp [this])
theorem c_ySameL (a b : Sch) (hs : Sml a) (hab : a.forms.length = b.forms.length) : ∀ (r r' : List Frm) (i : Nat), a.forms.drop i = r → b.forms.drop i = r' →
    ltbl E0 46 0 4 [.int .i64 i] [[.int .i64 a.ver, frmsV a.forms], [.int .i64 b.ver, frmsV b.forms]] = some (if r = r' then (1, [], []) else (0, [.bool false], [])) := by
  have hl := hs.1
  intro r
  induction r with
  | nil =>
    intro r' i hr hr'
    have h : a.forms.length ≤ i := by simpa using hr
    have : r' = [] := by rw [← hr']; simp; omega
    subst this
    refine t_ySameL _ _ _ ?_
    have : ¬ ((i : Int) < a.forms.length) := by omega
    simp [s_ySameL, this]
  | cons x r ih =>
    intro r' i hr hr'
    obtain ⟨hlt, hget, hr2⟩ := drop_c hr
    cases r' with
    | nil => simp at hr'; omega
    | cons y r' =>
      obtain ⟨_, hget', hr2'⟩ := drop_c hr'
      have h2 : (i : Int) < a.forms.length := by omega
      have e1 := i64_succ (i := i) (by omega)
      have h := ih r' (i + 1) hr2 hr2'
      have c := c_ySameForm x y (hs.2 x (mem_drop hr))
      refine t_ySameL _ _ _ ?_
      simp only [s_ySameL, OA_asm, List.length_map, h2, decide_true, cond_true, OA_chk, Int.natCast_nonneg, nthE, Int.toNat_natCast, List.getElem?_map, hget, hget', Option.map_some, u_asA, u_asC, u_asI, u_asB, u_asL, u_asN, OA_callx, c, Option.bind_some, e1, h]
      by_cases e : x = y
      · simp [e]
      · simp [e]
theorem c_ySame (a b : Sch) (h : Sml a) : tbl E0 46 [schV a, schV b] [] = some ([.bool (decide (a = b))], []) :=
  t_ySame a b (by
    rw [sch_eq]
    simp only [s_ySame, OA_chk, cond_true, OA_join, OA_asm, List.length_map, OA_loop]
    by_cases i0 : a.ver = b.ver
    · rw [show (a.ver != b.ver) = false by simp [i0], cond_false]
      by_cases hab : a.forms.length = b.forms.length
      · have e := c_ySameL a b h hab a.forms b.forms 0 rfl rfl
        simp only [Int.natCast_zero] at e
        rw [show ((a.forms.length : Int) != (b.forms.length : Int)) = false by rw [hab]; simp]
        simp only [Option.bind_some, Tok.untok_tok, cond_false, e]
        by_cases e2 : a.forms = b.forms <;> simp [i0, e2]
      · have : ¬ (a.forms = b.forms) := fun e => hab (by rw [e])
        rw [show ((a.forms.length : Int) != (b.forms.length : Int)) = true from bne_t (by omega)]
        simp [i0, this]
    · simp [i0])
end Go.Proofs.YtmpfeofeokmooaaGreat.V
namespace Go.Proofs.YtmpfeofeokmooaaGreat.V
open Go
end Go.Proofs.YtmpfeofeokmooaaGreat.V
namespace Go.Proofs.YtmpfeofeokmooaaGreat.V
open Go
def fldB (f : Fld) : List UInt8 := cnt f.id.toNat ++ cnt f.kind.toNat ++ (if f.kind = 1 then cnt (zz f.lo) ++ cnt (zz f.hi) else if f.kind = 3 ∨ f.kind = 4 then cnt f.most.toNat else [])
def fldsB (l : List Fld) : List UInt8 := (l.map fldB).flatten
def frmB (f : Frm) : List UInt8 := cnt f.id.toNat ++ cnt f.fields.length ++ fldsB f.fields
def frmsB (l : List Frm) : List UInt8 := (l.map frmB).flatten
def schB (s : Sch) : List UInt8 := cnt s.ver.toNat ++ cnt s.forms.length ++ frmsB s.forms
abbrev St := List UInt8 × Int
def tkFld (q : St) : Fld × St :=
  if (countS (countS q.1 q.2 255).2.1 (countS q.1 q.2 255).2.2 4).1 = 1 then
    (⟨(countS q.1 q.2 255).1, (countS (countS q.1 q.2 255).2.1 (countS q.1 q.2 255).2.2 4).1,
      (numS (countS (countS q.1 q.2 255).2.1 (countS q.1 q.2 255).2.2 4).2.1 (countS (countS q.1 q.2 255).2.1 (countS q.1 q.2 255).2.2 4).2.2).1,
      (numS (numS (countS (countS q.1 q.2 255).2.1 (countS q.1 q.2 255).2.2 4).2.1 (countS (countS q.1 q.2 255).2.1 (countS q.1 q.2 255).2.2 4).2.2).2.1 (numS (countS (countS q.1 q.2 255).2.1 (countS q.1 q.2 255).2.2 4).2.1 (countS (countS q.1 q.2 255).2.1 (countS q.1 q.2 255).2.2 4).2.2).2.2).1, 0⟩,
     (numS (numS (countS (countS q.1 q.2 255).2.1 (countS q.1 q.2 255).2.2 4).2.1 (countS (countS q.1 q.2 255).2.1 (countS q.1 q.2 255).2.2 4).2.2).2.1 (numS (countS (countS q.1 q.2 255).2.1 (countS q.1 q.2 255).2.2 4).2.1 (countS (countS q.1 q.2 255).2.1 (countS q.1 q.2 255).2.2 4).2.2).2.2).2)
  else if (countS (countS q.1 q.2 255).2.1 (countS q.1 q.2 255).2.2 4).1 = 3 ∨ (countS (countS q.1 q.2 255).2.1 (countS q.1 q.2 255).2.2 4).1 = 4 then
    (⟨(countS q.1 q.2 255).1, (countS (countS q.1 q.2 255).2.1 (countS q.1 q.2 255).2.2 4).1, 0, 0,
      (countS (countS (countS q.1 q.2 255).2.1 (countS q.1 q.2 255).2.2 4).2.1 (countS (countS q.1 q.2 255).2.1 (countS q.1 q.2 255).2.2 4).2.2 1000).1⟩,
     (countS (countS (countS q.1 q.2 255).2.1 (countS q.1 q.2 255).2.2 4).2.1 (countS (countS q.1 q.2 255).2.1 (countS q.1 q.2 255).2.2 4).2.2 1000).2)
  else (⟨(countS q.1 q.2 255).1, (countS (countS q.1 q.2 255).2.1 (countS q.1 q.2 255).2.2 4).1, 0, 0, 0⟩, (countS (countS q.1 q.2 255).2.1 (countS q.1 q.2 255).2.2 4).2)
def tkFlds : Nat → St → List Fld × St
  | 0, q => ([], q)
  | n + 1, q => ((tkFld q).1 :: (tkFlds n (tkFld q).2).1, (tkFlds n (tkFld q).2).2)
def tkFrm (q : St) : Frm × St :=
  (⟨(countS q.1 q.2 200).1, (tkFlds (countS (countS q.1 q.2 200).2.1 (countS q.1 q.2 200).2.2 8).1.toNat (countS (countS q.1 q.2 200).2.1 (countS q.1 q.2 200).2.2 8).2).1⟩,
   (tkFlds (countS (countS q.1 q.2 200).2.1 (countS q.1 q.2 200).2.2 8).1.toNat (countS (countS q.1 q.2 200).2.1 (countS q.1 q.2 200).2.2 8).2).2)
def tkFrms : Nat → St → List Frm × St
  | 0, q => ([], q)
  | n + 1, q => ((tkFrm q).1 :: (tkFrms n (tkFrm q).2).1, (tkFrms n (tkFrm q).2).2)
def tkSch (b : List UInt8) : Sch × St :=
  (⟨(countS b 0 65535).1, (tkFrms (countS (countS b 0 65535).2.1 (countS b 0 65535).2.2 8).1.toNat (countS (countS b 0 65535).2.1 (countS b 0 65535).2.2 8).2).1⟩,
   (tkFrms (countS (countS b 0 65535).2.1 (countS b 0 65535).2.2 8).1.toNat (countS (countS b 0 65535).2.1 (countS b 0 65535).2.2 8).2).2)
def parS (b : List UInt8) : Sch × Int :=
  if endS (tkSch b).2.1 (tkSch b).2.2 ≠ 0 then (⟨0, []⟩, endS (tkSch b).2.1 (tkSch b).2.2)
  else if schS (tkSch b).1 then ((tkSch b).1, 0) else (⟨0, []⟩, 2)
theorem tkFld_len (q : St) : (tkFld q).2.1.length ≤ q.1.length := by
  unfold tkFld
  have h1 := countS_len q.1 q.2 255
  have h2 := countS_len (countS q.1 q.2 255).2.1 (countS q.1 q.2 255).2.2 4
  split
  · exact Nat.le_trans (grpS_len _ _) (Nat.le_trans (grpS_len _ _) (Nat.le_trans h2 h1))
  · split
    · exact Nat.le_trans (countS_len _ _ _) (Nat.le_trans h2 h1)
    · exact Nat.le_trans h2 h1
theorem tkFlds_len : ∀ (n : Nat) (q : St), (tkFlds n q).2.1.length ≤ q.1.length
  | 0, q => Nat.le_refl _
  | n + 1, q => Nat.le_trans (tkFlds_len n _) (tkFld_len q)
theorem tkFrm_len (q : St) : (tkFrm q).2.1.length ≤ q.1.length :=
  Nat.le_trans (tkFlds_len _ _) (Nat.le_trans (countS_len _ _ _) (countS_len _ _ _))
theorem tkFlds_n : ∀ (n : Nat) (q : St), (tkFlds n q).1.length = n
  | 0, q => rfl
  | n + 1, q => by simp [tkFlds, tkFlds_n n]
theorem tkFrms_n : ∀ (n : Nat) (q : St), (tkFrms n q).1.length = n
  | 0, q => rfl
  | n + 1, q => by simp [tkFrms, tkFrms_n n]
theorem fineS_iff (f : Frm) : fineS f = true ↔ (0 ≤ f.id ∧ f.id ≤ 200) ∧ (1 ≤ f.fields.length ∧ f.fields.length ≤ 8) ∧ longS f.fields ≤ 64 ∧ (∀ x ∈ f.fields, rgtS x = true) ∧ nodupI (f.fields.map Fld.id) = true := by
  unfold fineS
  simp only [Bool.and_eq_true, decide_eq_true_eq, List.all_eq_true, and_assoc]
theorem risingS_all : ∀ (l : List Frm) (n : Int), risingS n l = true → ∀ f ∈ l, fineS f = true
  | [], n, _, f, hf => by cases hf
  | g :: l, n, h, f, hf => by
    simp only [risingS, Bool.and_eq_true] at h
    rcases List.mem_cons.1 hf with rfl | hf
    · exact h.1.1
    · exact risingS_all l _ h.2 f hf
theorem schS_iff (s : Sch) : schS s = true ↔ (1 ≤ s.ver ∧ s.ver ≤ 65535) ∧ s.forms.length ≤ 8 ∧ risingS (-1) s.forms = true := by
  unfold schS
  simp only [Bool.and_eq_true, decide_eq_true_eq, and_assoc]
def FldsOK (l : List Fld) : Prop := ∀ f ∈ l, f.ok ∧ rgtS f = true
end Go.Proofs.YtmpfeofeokmooaaGreat.V
namespace Go.Proofs.YtmpfeofeokmooaaGreat.V
open Go
end Go.Proofs.YtmpfeofeokmooaaGreat.V
namespace Go.Proofs.YtmpfeofeokmooaaGreat.V
open Go
def Stp.ok (x : Stp) : Prop := i64 x.op ∧ i64 x.form ∧ i64 x.field ∧ i64 x.place ∧ i64 x.to ∧ i64 x.a ∧ i64 x.b ∧ x.f.ok ∧ i64 x.n ∧ (∀ n ∈ x.t, i64 n) ∧ ∀ f ∈ x.fields, f.ok
def Stp.sml (x : Stp) : Prop := x.t.length ≤ 140737488355328 ∧ x.fields.length ≤ 140737488355328
def opsL : List Int := [1, 2, 3, 4, 5, 6, 7, 8, 9, 10, 21, 22, 23, 24, 25, 26, 27, 28, 29, 30]
def usesS (op : Int) : List Int :=
  if op = 1 then [0, 2, 6, 7] else if op = 22 then [0, 2, 6, 7] else if op = 2 then [0, 1, 7] else if op = 3 then [0, 1, 6] else if op = 23 then [0, 1, 6]
  else if op = 4 then [0, 1, 5] else if op = 24 then [0, 1, 5, 6] else if op = 5 then [0, 1, 4, 8] else if op = 25 then [0, 1, 8] else if op = 6 then [0, 1, 4, 3]
  else if op = 26 then [0, 1, 4, 3, 6] else if op = 7 then [0, 1, 2] else if op = 27 then [0, 1, 2] else if op = 8 then [0, 1, 3] else if op = 28 then [0, 1, 3]
  else if op = 9 then [0, 9] else if op = 30 then [0, 9] else if op = 10 then [0] else if op = 29 then [0] else if op = 21 then [0, 1] else []
def hasS (op p : Int) : Bool := (usesS op).contains p
def inS (n lo hi : Int) : Bool := decide (lo ≤ n) && decide (n ≤ hi)
def longestS (f : Fld) : Int := if f.kind = 4 then f.most else 0
def hasV (f : Fld) (n : Int) (s : List UInt8) : Bool := rgtS f && (inS n (loS f) (hiS f) && decide ((s.length : Int) ≤ longestS f))
def apartS (l : List Int) (below : Int) : Bool := (l.all fun n => inS n 0 (below - 1)) && nodupI l && decide (1 ≤ l.length ∧ l.length ≤ 64)
def fitsS (x : Stp) (p : Int) : Bool :=
  if p = 0 then inS x.form 0 200 else if p = 1 then inS x.field 0 255 else if p = 2 then inS x.place 0 8 else if p = 3 then inS x.to 0 255 && x.to != x.field
  else if p = 4 then (if x.op = 5 then inS x.a 1 1000 else inS x.a 2 1048576)
  else if p = 5 then inS x.a (-1048576) 1048576 && (x.a != 0 && inS x.b (-1099511627776) 1099511627776)
  else if p = 6 then rgtS x.f && (x.op == 1 || (x.op == 22 || x.f.id == x.field))
  else if p = 7 then (if x.op = 2 then inS x.n (-1099511627776) 1099511627776 && decide ((x.s.length : Int) ≤ 32) else hasV x.f x.n x.s)
  else if p = 8 then apartS x.t (if x.op = 5 then x.a else 1000)
  else fineS ⟨x.form, x.fields⟩
def fld0 : Fld := ⟨0, 0, 0, 0, 0⟩
def onlyS (x : Stp) : Stp :=
  ⟨x.op, if hasS x.op 0 then x.form else 0, if hasS x.op 1 then x.field else 0, if hasS x.op 2 then x.place else 0, if hasS x.op 3 then x.to else 0,
    if hasS x.op 4 || hasS x.op 5 then x.a else 0, if hasS x.op 5 then x.b else 0, if hasS x.op 6 then x.f else fld0, if hasS x.op 7 then x.n else 0, if hasS x.op 7 then x.s else [],
    if hasS x.op 8 then x.t else [], if hasS x.op 9 then x.fields else []⟩
def tRightS (x : Stp) : Bool := (usesS x.op).all (fitsS x) && (!(usesS x.op).isEmpty && decide (x = onlyS x))
def zeroS (x : Stp) : Bool :=
  (hasS x.op 1 || x.field == 0) && ((hasS x.op 2 || x.place == 0) && ((hasS x.op 3 || x.to == 0) && ((hasS x.op 4 || (hasS x.op 5 || x.a == 0)) && ((hasS x.op 5 || x.b == 0) &&
    ((hasS x.op 6 || decide (x.f = fld0)) && ((hasS x.op 7 || (x.n == 0 && x.s == [])) && ((hasS x.op 8 || x.t.isEmpty) && (hasS x.op 9 || x.fields.isEmpty))))))))
def numbersS (x : Stp) : Bool :=
  if x.op = 4 ∨ x.op = 24 then inS x.a (-1048576) 1048576 && (x.a != 0 && inS x.b (-1099511627776) 1099511627776)
  else if x.op = 6 ∨ x.op = 26 then inS x.a 2 1048576
  else if x.op = 5 then inS x.a 1 1000 && apartS x.t x.a
  else if x.op = 25 then apartS x.t 1000 else true
def ytRightS (x : Stp) : Bool :=
  !(usesS x.op).isEmpty && (zeroS x && (inS x.form 0 200 && (inS x.field 0 255 && (inS x.place 0 8 && (inS x.to 0 255 && (numbersS x &&
    (!(hasS x.op 3 && x.to == x.field) && (!(hasS x.op 6 && !rgtS x.f) && (!(hasS x.op 6 && (hasS x.op 1 && x.f.id != x.field)) &&
      (!(x.op == 2 && !(inS x.n (-1099511627776) 1099511627776 && decide ((x.s.length : Int) ≤ 32))) && (!(hasS x.op 2 && (hasS x.op 7 && !hasV x.f x.n x.s)) && (!hasS x.op 9 || fineS ⟨x.form, x.fields⟩))))))))))))
theorem op_in (op : Int) : op ∈ opsL ∨ (op ∉ opsL ∧ usesS op = []) := by
  by_cases h : op ∈ opsL
  · exact .inl h
  · refine .inr ⟨h, ?_⟩
    simp only [opsL, List.mem_cons, List.not_mem_nil, or_false, not_or] at h
    obtain ⟨h1, h2, h3, h4, h5, h6, h7, h8, h9, h10, h11, h12, h13, h14, h15, h16, h17, h18, h19, h20⟩ := h
    simp only [usesS, h1, h2, h3, h4, h5, h6, h7, h8, h9, h10, h11, h12, h13, h14, h15, h16, h17, h18, h19, h20, if_false]
theorem op_all {p : Int → Prop} (op : Int) (h : ∀ o ∈ opsL, p o) (h0 : op ∉ opsL → usesS op = [] → p op) : p op := by
  rcases op_in op with h1 | ⟨h1, h2⟩
  · exact h op h1
  · exact h0 h1 h2
theorem tRight_eq (x : Stp) : tRightS x = ytRightS x := by
  obtain ⟨op, form, field, place, to, a, b, f, n, s, t, fields⟩ := x
  refine op_all (p := fun op => tRightS ⟨op, form, field, place, to, a, b, f, n, s, t, fields⟩ = ytRightS ⟨op, form, field, place, to, a, b, f, n, s, t, fields⟩) op ?_ ?_
  · intro o ho
    simp only [opsL, List.mem_cons, List.not_mem_nil, or_false] at ho
    rcases ho with rfl | rfl | rfl | rfl | rfl | rfl | rfl | rfl | rfl | rfl | rfl | rfl | rfl | rfl | rfl | rfl | rfl | rfl | rfl | rfl <;>
    · simp [tRightS, ytRightS, usesS, fitsS, onlyS, zeroS, numbersS, hasS, inS, List.isEmpty_iff]
      rw [Bool.eq_iff_iff]
      simp only [Bool.and_eq_true, Bool.or_eq_true, decide_eq_true_eq, Bool.not_eq_true', beq_iff_eq, bne_iff_ne, ne_eq]
      constructor <;> (intro h; simp_all) <;> (try omega) <;> grind
  · intro _ h
    simp [tRightS, ytRightS, h]
theorem uses_bound (x : Stp) : ∀ (i : Nat) (p : Int), (usesS x.op)[i]? = some p → p = 8 → ((usesS x.op).take i).all (fitsS x) = true → 1 ≤ (if x.op = 5 then x.a else 1000) ∧ (if x.op = 5 then x.a else 1000) ≤ 1000 := by
  intro i p h1 h2 h3
  by_cases ho : x.op = 5
  · subst h2
    have hu : usesS x.op = [0, 1, 4, 8] := by rw [ho]; rfl
    rw [hu] at h1 h3
    match i, h1, h3 with
    | 3, _, h3 =>
      simp [fitsS, ho, inS] at h3
      simp only [ho, if_true]
      omega
    | 0, h1, _ => simp at h1
    | 1, h1, _ => simp at h1
    | 2, h1, _ => simp at h1
    | n + 4, h1, _ => simp at h1
  · simp [ho]
theorem uses_len (op : Int) : (usesS op).length ≤ 5 := by
  refine op_all (p := fun op => (usesS op).length ≤ 5) op ?_ ?_
  · decide
  · intro _ h; simp [h]
end Go.Proofs.YtmpfeofeokmooaaGreat.V
namespace Go.Proofs.YtmpfeofeokmooaaGreat.V
open Go
def fldW (f : Fld) : List UInt8 := cnt f.id.toNat ++ (cnt f.kind.toNat ++ (cnt (zz f.lo) ++ (cnt (zz f.hi) ++ cnt f.most.toNat)))
def fldsW (l : List Fld) : List UInt8 := (l.map fldW).flatten
def intsB (l : List Int) : List UInt8 := (l.map fun n => cnt n.toNat).flatten
def prtB (x : Stp) (p : Int) : List UInt8 :=
  if p = 0 then cnt x.form.toNat else if p = 1 then cnt x.field.toNat else if p = 2 then cnt x.place.toNat else if p = 3 then cnt x.to.toNat
  else if p = 4 then cnt x.a.toNat else if p = 5 then cnt (zz x.a) ++ cnt (zz x.b) else if p = 6 then fldW x.f
  else if p = 7 then cnt (zz x.n) ++ (cnt x.s.length ++ x.s) else if p = 8 then cnt x.t.length ++ intsB x.t
  else cnt x.fields.length ++ fldsW x.fields
def prtsB (x : Stp) (l : List Int) : List UInt8 := (l.map (prtB x)).flatten
def stpB (x : Stp) : List UInt8 := cnt x.op.toNat ++ prtsB x (usesS x.op)
def stpsB (l : List Stp) : List UInt8 := (l.map stpB).flatten
def lstB (l : List Stp) : List UInt8 := cnt l.length ++ stpsB l
def cS (q : St) (m : Int) : Int × St := countS q.1 q.2 m
def nS (q : St) : Int × St := numS q.1 q.2
def xS (q : St) (m : Int) : List UInt8 × St := textS q.1 q.2 m
def tkFldW (q : St) : Fld × St :=
  (⟨(cS q 255).1, (cS (cS q 255).2 4).1, (nS (cS (cS q 255).2 4).2).1, (nS (nS (cS (cS q 255).2 4).2).2).1, (cS (nS (nS (cS (cS q 255).2 4).2).2).2 1000).1⟩, (cS (nS (nS (cS (cS q 255).2 4).2).2).2 1000).2)
def tkFldsW : Nat → St → List Fld × St
  | 0, q => ([], q)
  | n + 1, q => ((tkFldW q).1 :: (tkFldsW n (tkFldW q).2).1, (tkFldsW n (tkFldW q).2).2)
def tkInts : Nat → St → List Int × St
  | 0, q => ([], q)
  | n + 1, q => ((cS q 1000).1 :: (tkInts n (cS q 1000).2).1, (tkInts n (cS q 1000).2).2)
def setP (x : Stp) (p : Int) (q : St) : Stp × St :=
  if p = 0 then ({ x with form := (cS q 200).1 }, (cS q 200).2) else if p = 1 then ({ x with field := (cS q 255).1 }, (cS q 255).2)
  else if p = 2 then ({ x with place := (cS q 8).1 }, (cS q 8).2) else if p = 3 then ({ x with to := (cS q 255).1 }, (cS q 255).2)
  else if p = 4 then ({ x with a := (cS q 1048576).1 }, (cS q 1048576).2) else if p = 5 then ({ x with a := (nS q).1, b := (nS (nS q).2).1 }, (nS (nS q).2).2)
  else if p = 6 then ({ x with f := (tkFldW q).1 }, (tkFldW q).2) else if p = 7 then ({ x with n := (nS q).1, s := (xS (nS q).2 32).1 }, (xS (nS q).2 32).2)
  else if p = 8 then ({ x with t := x.t ++ (tkInts (cS q 64).1.toNat (cS q 64).2).1 }, (tkInts (cS q 64).1.toNat (cS q 64).2).2)
  else ({ x with fields := x.fields ++ (tkFldsW (cS q 8).1.toNat (cS q 8).2).1 }, (tkFldsW (cS q 8).1.toNat (cS q 8).2).2)
def rdPs : List Int → Stp → St → Stp × St
  | [], x, q => (x, q)
  | p :: l, x, q => rdPs l (setP x p q).1 (setP x p q).2
def stp0 (op : Int) : Stp := ⟨op, 0, 0, 0, 0, 0, 0, fld0, 0, [], [], []⟩
def tkStp (q : St) : Stp × St := rdPs (usesS (cS q 30).1) (stp0 (cS q 30).1) (cS q 30).2
def tkStps : Nat → St → List Stp × St
  | 0, q => ([], q)
  | n + 1, q => ((tkStp q).1 :: (tkStps n (tkStp q).2).1, (tkStps n (tkStp q).2).2)
def tkLst (b : List UInt8) : List Stp × St := tkStps (cS (b, 0) 40).1.toNat (cS (b, 0) 40).2
def parT (b : List UInt8) : List Stp × Int :=
  if endS (tkLst b).2.1 (tkLst b).2.2 ≠ 0 then ([], endS (tkLst b).2.1 (tkLst b).2.2)
  else if (tkLst b).1.all tRightS then ((tkLst b).1, 0) else ([], 2)
theorem cS_len (q : St) (m : Int) : (cS q m).2.1.length ≤ q.1.length := countS_len _ _ _
theorem nS_len (q : St) : (nS q).2.1.length ≤ q.1.length := grpS_len _ _
theorem xS_len (q : St) (m : Int) : (xS q m).2.1.length ≤ q.1.length := textS_len _ _ _
theorem tkFldW_len (q : St) : (tkFldW q).2.1.length ≤ q.1.length :=
  Nat.le_trans (cS_len _ _) (Nat.le_trans (nS_len _) (Nat.le_trans (nS_len _) (Nat.le_trans (cS_len _ _) (cS_len _ _))))
theorem tkFldsW_len : ∀ (n : Nat) (q : St), (tkFldsW n q).2.1.length ≤ q.1.length
  | 0, q => Nat.le_refl _
  | n + 1, q => Nat.le_trans (tkFldsW_len n _) (tkFldW_len q)
theorem tkInts_len : ∀ (n : Nat) (q : St), (tkInts n q).2.1.length ≤ q.1.length
  | 0, q => Nat.le_refl _
  | n + 1, q => Nat.le_trans (tkInts_len n _) (cS_len q _)
theorem setP_len (x : Stp) (p : Int) (q : St) : (setP x p q).2.1.length ≤ q.1.length := by
  unfold setP
  repeat' split
  all_goals first | exact cS_len _ _ | exact Nat.le_trans (nS_len _) (nS_len _) | exact tkFldW_len _ | exact Nat.le_trans (xS_len _ _) (nS_len _) | exact Nat.le_trans (tkInts_len _ _) (cS_len _ _) | exact Nat.le_trans (tkFldsW_len _ _) (cS_len _ _)
theorem rdPs_len : ∀ (l : List Int) (x : Stp) (q : St), (rdPs l x q).2.1.length ≤ q.1.length
  | [], x, q => Nat.le_refl _
  | p :: l, x, q => Nat.le_trans (rdPs_len l _ _) (setP_len x p q)
theorem tkStp_len (q : St) : (tkStp q).2.1.length ≤ q.1.length := Nat.le_trans (rdPs_len _ _ _) (cS_len _ _)
theorem tkInts_n : ∀ (n : Nat) (q : St), (tkInts n q).1.length = n
  | 0, q => rfl
  | n + 1, q => by simp [tkInts, tkInts_n n]
theorem tkFldsW_n : ∀ (n : Nat) (q : St), (tkFldsW n q).1.length = n
  | 0, q => rfl
  | n + 1, q => by simp [tkFldsW, tkFldsW_n n]
theorem tkStps_n : ∀ (n : Nat) (q : St), (tkStps n q).1.length = n
  | 0, q => rfl
  | n + 1, q => by simp [tkStps, tkStps_n n]
theorem pr_cases {p : Int} (hp : 0 ≤ p ∧ p ≤ 9) : p = 0 ∨ p = 1 ∨ p = 2 ∨ p = 3 ∨ p = 4 ∨ p = 5 ∨ p = 6 ∨ p = 7 ∨ p = 8 ∨ p = 9 := by omega
theorem fineS_fld {x : Stp} (h : fineS ⟨x.form, x.fields⟩ = true) : x.fields.length ≤ 8 ∧ ∀ f ∈ x.fields, rgtS f = true := by
  obtain ⟨_, h2, _, h4, _⟩ := (fineS_iff _).1 h
  exact ⟨h2.2, h4⟩
theorem hasV_s {f : Fld} {n : Int} {s : List UInt8} (h : hasV f n s = true) : s.length ≤ 32 := by
  simp only [hasV, Bool.and_eq_true, decide_eq_true_eq] at h
  obtain ⟨g1, _, g2⟩ := h
  unfold longestS at g2
  by_cases k : f.kind = 4
  · rw [if_pos k] at g2
    rw [rgtS_4 k] at g1
    simp only [Bool.and_eq_true, decide_eq_true_eq] at g1
    omega
  · rw [if_neg k] at g2
    omega
def Fits (x : Stp) (p : Int) : Prop := (0 ≤ p ∧ p ≤ 9) ∧ fitsS x p = true ∧ (p = 8 → (if x.op = 5 then x.a else 1000) ≤ 1000)
theorem fits_s {x : Stp} (h : fitsS x 7 = true) : x.s.length ≤ 32 := by
  simp [fitsS, inS] at h
  split at h
  · omega
  · exact hasV_s h
theorem fits_t {x : Stp} (h : Fits x 8) : (∀ n ∈ x.t, 0 ≤ n ∧ n ≤ 1000) ∧ x.t.length ≤ 64 := by
  obtain ⟨_, h2, h3⟩ := h
  simp [fitsS, apartS, inS] at h2
  have := h3 rfl
  exact ⟨fun n hn => by have := h2.1.1 n hn; omega, h2.2.2⟩
theorem fits_l {x : Stp} (h : fitsS x 9 = true) : x.fields.length ≤ 8 ∧ ∀ f ∈ x.fields, rgtS f = true := by
  simp [fitsS] at h
  exact fineS_fld h
theorem uses_rng (op : Int) : ∀ p ∈ usesS op, 0 ≤ p ∧ p ≤ 9 := by
  refine op_all (p := fun op => ∀ p ∈ usesS op, 0 ≤ p ∧ p ≤ 9) op ?_ ?_
  · decide
  · intro _ h; simp [h]
theorem right_fits {x : Stp} (h : tRightS x = true) : (∀ p ∈ usesS x.op, Fits x p) ∧ x.op ∈ opsL ∧ x = onlyS x := by
  simp only [tRightS, Bool.and_eq_true, List.all_eq_true, decide_eq_true_eq, Bool.not_eq_true', List.isEmpty_eq_false_iff] at h
  obtain ⟨h1, h2, h3⟩ := h
  refine ⟨fun p hp => ⟨uses_rng _ p hp, h1 p hp, fun h8 => ?_⟩, ?_, h3⟩
  · obtain ⟨i, hi, e⟩ := List.mem_iff_getElem.1 hp
    exact (uses_bound x i p (by rw [← e]; exact List.getElem?_eq_getElem hi) h8 (List.all_eq_true.2 fun q hq => h1 q (List.mem_of_mem_take hq))).2
  · rcases op_in x.op with h | ⟨_, h⟩
    · exact h
    · exact absurd h h2
theorem ops_rng {op : Int} (h : op ∈ opsL) : 1 ≤ op ∧ op ≤ 30 := by
  revert op; decide
theorem cS_rng (q : St) {m : Int} (hm : 0 ≤ m) : 0 ≤ (cS q m).1 ∧ (cS q m).1 ≤ m := by
  unfold cS countS
  repeat' split
  all_goals (try simp) <;> omega
end Go.Proofs.YtmpfeofeokmooaaGreat.V
