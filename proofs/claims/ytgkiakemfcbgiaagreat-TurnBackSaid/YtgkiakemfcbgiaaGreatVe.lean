/- Part 5 of the proof that: What goes on is of its form in what comes of the schema, and goes back, with what was lost, as it was; what is gone is regained. -/
import Derived.Test.YtgkiakemfcbgiaaGreatVd
set_option linter.unusedVariables false
set_option linter.unusedSimpArgs false
namespace Go.Proofs.YtgkiakemfcbgiaaGreat
open Go
namespace V
open AV (int lst agg str bool ref clo)
open List (map)
-- folds: dbl
-- folds: cse
abbrev caseC (s : Sch) (x : Stp) (r : Rec) : List AV := [iV s.ver, frmsV s.forms] ++ stpC x ++ recC r
noncomputable def zq0 {α : Type} (A : Alg α) (f : Fld) (v : Val) (kc : List AV → List (Nat × List AV) → α) : α :=
  A.callx 92 [agg [iV f.id, iV f.kind, iV f.lo, iV f.hi, iV f.most]] fun l0 => aB A l0 fun b3 l2 => asN A l2 (bif (!b3) then (kc [lst .ro 1 [], iV 2] []) else (A.callx 72 [agg [iV f.id, iV f.kind, iV f.lo, iV f.hi, iV f.most], agg [iV v.n, str v.s]] fun l4 => aB A l4 fun b7 l6 => asN A l6 (bif (!b7) then (kc [lst .ro 1 [], iV 16] []) else (bif (f.kind == (4 : Int)) then (A.chk (decide ([int .u8 (IntKind.u8.wrap (↑v.s.length : Int))].length + v.s.length ≤ 211106232532992)) (kc [lst .ro 1 ((int .u8 (IntKind.u8.wrap (↑v.s.length : Int))) :: (encB v.s)), iV 0] [])) else (A.callx 94 [agg [iV f.id, iV f.kind, iV f.lo, iV f.hi, iV f.most]] fun l8 => aI A l8 fun n11 l10 => aI A l10 fun n14 l13 => asN A l13 (A.callx 95 [agg [iV f.id, iV f.kind, iV f.lo, iV f.hi, iV f.most]] fun l15 => aI A l15 fun n18 l17 => asN A l17 (A.chk (decide ((0 : Int) ≤ n18) && decide (n18 ≤ n18) && decide (n18 * (↑(1 : Nat) : Int) ≤ (140737488355328 : Int))) (bif ((List.replicate n18.toNat (demS ((tabAt T0 (E0.an (53 : Nat) (0 : Nat))).ty (5 : Nat)).sh (zeroOf ((tabAt T0 (E0.an (53 : Nat) (0 : Nat))).ty (5 : Nat))))).all AV.flat) then (A.loop 10 [lst .uq 1 (List.replicate n18.toNat (demS ((tabAt T0 (E0.an (53 : Nat) (0 : Nat))).ty (5 : Nat)).sh (zeroOf ((tabAt T0 (E0.an (53 : Nat) (0 : Nat))).ty (5 : Nat))))), iV (IntKind.i64.wrap ((↑(List.replicate n18.toNat (demS ((tabAt T0 (E0.an (53 : Nat) (0 : Nat))).ty (5 : Nat)).sh (zeroOf ((tabAt T0 (E0.an (53 : Nat) (0 : Nat))).ty (5 : Nat))))).length : Int) - (1 : Int))), iV (IntKind.i64.wrap (v.n - n11))] [] fun j19 l20 l21 => bif (j19.beq 2) then (aU A 1 l20 fun l24 l23 => asN A l23 (asN A l21 (bif (l24.all AV.flat) then (kc [lst .ro 1 l24, iV 0] []) else A.fail))) else A.fail) else A.fail))))))))
noncomputable def zfk {α : Type} (A : Alg α) (b : List UInt8) (i : Int) (n : Int) (next : List AV → List (List AV) → α) (kc : Nat → List AV → List (List AV) → α) : α :=
  bif (decide (i ≥ (0 : Int))) then (A.chk (decide ((0 : Int) ≤ i) && decide (i < (↑(encB b).length : Int))) (nthE A (encB b) i.toNat fun v0 => A.chk (((0 : Nat) + [int .u8 (IntKind.u8.wrap (bits Go.BinOp.and IntKind.i64 n (255 : Int)))].length).ble v0.cells.length) (putC A v0 (setAt v0.cells (0 : Nat) [int .u8 (IntKind.u8.wrap (bits Go.BinOp.and IntKind.i64 n (255 : Int)))]) fun v1 => A.chk v1.flat (bif (((encB b).set i.toNat v1).all AV.flat) then (next [lst .uq 1 ((encB b).set i.toNat v1), iV (IntKind.i64.wrap (i - (1 : Int))), iV (n.fdiv ((2 : Int) ^ (8 : Nat)))] []) else A.fail)))) else (bif ((encB b).all AV.flat) then (kc 2 [lst .uq 1 (encB b)] []) else A.fail)
noncomputable def zq1 {α : Type} (A : Alg α) (f : Fld) (b : List UInt8) (kc : List AV → List (Nat × List AV) → α) : α :=
  A.callx 92 [agg [iV f.id, iV f.kind, iV f.lo, iV f.hi, iV f.most]] fun l0 => aB A l0 fun b3 l2 => asN A l2 (bif (!b3) then (kc [agg [iV 0, str []], iV 0, iV 2] []) else (A.callx 95 [agg [iV f.id, iV f.kind, iV f.lo, iV f.hi, iV f.most]] fun l4 => aI A l4 fun n7 l6 => asN A l6 (bif (f.kind == (4 : Int)) then (A.loop 1000006 [lst .ro 1 (encB b), iV 1, bool (f.kind == (4 : Int))] [[iV f.id, iV f.kind, iV f.lo, iV f.hi, iV f.most], [iV 0, str []]] fun j8 l9 l10 => bif (j8.beq 0) then (aI A l9 fun n13 l12 => aI A l12 fun n16 l15 => asN A l15 (asC A l10 fun l17 l18 => aI A l17 fun n21 l20 => aS A l20 fun l24 l23 => asN A l23 (asN A l18 (kc [agg [iV n21, str l24], iV n13, iV n16] [])))) else A.fail) else (A.loop 1000006 [lst .ro 1 (encB b), iV n7, bool (f.kind == (4 : Int))] [[iV f.id, iV f.kind, iV f.lo, iV f.hi, iV f.most], [iV 0, str []]] fun j25 l26 l27 => bif (j25.beq 0) then (aI A l26 fun n30 l29 => aI A l29 fun n33 l32 => asN A l32 (asC A l27 fun l34 l35 => aI A l34 fun n38 l37 => aS A l37 fun l41 l40 => asN A l40 (asN A l35 (kc [agg [iV n38, str l41], iV n30, iV n33] [])))) else A.fail))))
noncomputable def zfl {α : Type} (A : Alg α) (f : Fld) (b : List UInt8) (n : Int) (t : Bool) (next : List AV → List (List AV) → α) (kc : Nat → List AV → List (List AV) → α) : α :=
  bif (decide ((↑(encB b).length : Int) < n)) then (kc 0 [iV 0, iV 5] [[iV 0, str []]]) else (A.chk (decide ((0 : Int) ≤ (0 : Int)) && decide ((0 : Int) ≤ n) && decide (n ≤ (↑(encB b).length : Int)) && decide ((↑(encB b).length : Int) ≤ (↑(encB b).length : Int))) (A.loop 10 [lst .ro 1 (encB b), iV n, bool t, iV 0, lst .ro 1 (List.drop (0 : Nat) (List.take n.toNat (encB b))), iV (↑(List.drop (0 : Nat) (List.take n.toNat (encB b))).length : Int), iV 0] [[iV f.id, iV f.kind, iV f.lo, iV f.hi, iV f.most], [iV 0, str []]] fun j0 l1 l2 => bif (j0.beq 1) then (aL A 1 l1 fun l5 l4 => aI A l4 fun n8 l7 => aB A l7 fun b11 l10 => aI A l10 fun n14 l13 => asN A l13 (asC A l2 fun l15 l16 => aI A l15 fun n19 l18 => aI A l18 fun n22 l21 => aI A l21 fun n25 l24 => aI A l24 fun n28 l27 => aI A l27 fun n31 l30 => asN A l30 (asC A l16 fun l32 l33 => aI A l32 fun n36 l35 => aS A l35 fun l39 l38 => asN A l38 (asN A l33 (A.callx 94 [agg [iV n19, iV n22, iV n25, iV n28, iV n31]] fun l40 => aI A l40 fun n43 l42 => aI A l42 fun n46 l45 => asN A l45 (A.join (fun x47 => bif b11 then (bif (decide (n14 > n31)) then (x47 true) else (bif (!b11) then (x47 (decide (n14 > IntKind.i64.wrap (n46 - n43)))) else (x47 false))) else (bif (!b11) then (x47 (decide (n14 > IntKind.i64.wrap (n46 - n43)))) else (x47 false))) fun b48 => bif b48 then (kc 0 [iV 0, iV 16] [[iV 0, str []]]) else (bif (!b11) then (kc 0 [iV n8, iV 0] [[iV (IntKind.i64.wrap (n43 + n14)), str []]]) else (bif (decide (IntKind.i64.wrap ((↑l5.length : Int) - n8) < n14)) then (kc 0 [iV 0, iV 5] [[iV 0, str []]]) else (A.chk (decide ((0 : Int) ≤ n8) && decide (n8 ≤ IntKind.i64.wrap (n8 + n14)) && decide (IntKind.i64.wrap (n8 + n14) ≤ (↑l5.length : Int)) && decide ((↑l5.length : Int) ≤ (↑l5.length : Int))) (orFail A (bytesOf (List.drop n8.toNat (List.take (IntKind.i64.wrap (n8 + n14)).toNat l5))) fun l49 => kc 0 [iV (IntKind.i64.wrap (n8 + n14)), iV 0] [[iV 0, str l49]])))))))))) else A.fail))
noncomputable def zfm {α : Type} (A : Alg α) (f : Fld) (b : List UInt8) (c : List UInt8) (n : Int) (t : Bool) (u : Int) (m : Int) (i : Int) (next : List AV → List (List AV) → α) (kc : Nat → List AV → List (List AV) → α) : α :=
  bif (decide (i < m)) then (A.chk (decide ((0 : Int) ≤ i)) (nthE A (encB c) i.toNat fun v0 => asI A .u8 v0 fun n1 => next [lst .ro 1 (encB b), iV n, bool t, iV (bits Go.BinOp.or IntKind.i64 (IntKind.i64.wrap (u * (2 : Int) ^ (8 : Nat))) (IntKind.i64.wrap n1)), lst .ro 1 (encB c), iV m, iV (IntKind.i64.wrap (i + (1 : Int)))] [[iV f.id, iV f.kind, iV f.lo, iV f.hi, iV f.most], [iV 0, str []]])) else (kc 1 [lst .ro 1 (encB b), iV n, bool t, iV u] [[iV f.id, iV f.kind, iV f.lo, iV f.hi, iV f.most], [iV 0, str []]])
noncomputable def zq2 {α : Type} (A : Alg α) (f : Frm) (x : Rec) (kc : List AV → List (Nat × List AV) → α) : α :=
  A.join (fun x0 => A.callx 51 [agg [iV f.id, lst .ro 5 (map fldV f.fields)]] fun l1 => aB A l1 fun b4 l3 => asN A l3 (bif b4 then (bif (x.form == f.id) then (A.callx 88 [lst .ro 2 (map valV x.vals), lst .ro 5 (map fldV f.fields), clo 89 []] fun l5 => aB A l5 fun b8 l7 => asN A l7 (x0 b8)) else (x0 false)) else (x0 false))) fun b9 => kc [bool b9] []
noncomputable def zml {α : Type} (A : Alg α) (v : Val) (f : Fld) (kc : List AV → List (Nat × List AV) → α) : α :=
  A.callx 72 [agg [iV f.id, iV f.kind, iV f.lo, iV f.hi, iV f.most], agg [iV v.n, str v.s]] fun l0 => aB A l0 fun b3 l2 => asN A l2 (kc [bool b3] [])
noncomputable def zad {α : Type} (A : Alg α) (l : List Val) (m : List Fld) (kc : List AV → List (Nat × List AV) → α) : α :=
  bif ((↑(map valV l).length : Int) != (↑(map fldV m).length : Int)) then (kc [bool false] []) else (A.loop 4 [lst .ro 5 (map fldV m), clo 89 [], lst .ro 2 (map valV l), iV (↑(map valV l).length : Int), iV 0] [] fun j0 l1 l2 => bif (j0.beq 0) then (aB A l1 fun b5 l4 => asN A l4 (asN A l2 (kc [bool b5] []))) else (bif (j0.beq 1) then (asN A l1 (asN A l2 (kc [bool true] []))) else A.fail))
noncomputable def z8n {α : Type} (A : Alg α) (l : List Val) (m : List Fld) (n : Int) (i : Int) (next : List AV → List (List AV) → α) (kc : Nat → List AV → List (List AV) → α) : α :=
  bif (decide (i < n)) then (A.chk (decide ((0 : Int) ≤ i)) (nthE A (map valV l) i.toNat fun v0 => asA A v0 fun l1 => aI A l1 fun n4 l3 => aS A l3 fun l7 l6 => asN A l6 (A.chk (decide ((0 : Int) ≤ i)) (nthE A (map fldV m) i.toNat fun v8 => asA A v8 fun l9 => aI A l9 fun n12 l11 => aI A l11 fun n15 l14 => aI A l14 fun n18 l17 => aI A l17 fun n21 l20 => aI A l20 fun n24 l23 => asN A l23 (A.callx 89 [agg [iV n4, str l7], agg [iV n12, iV n15, iV n18, iV n21, iV n24]] fun l25 => aB A l25 fun b28 l27 => asN A l27 (bif (!b28) then (kc 0 [bool false] []) else (next [lst .ro 5 (map fldV m), clo 89 [], lst .ro 2 (map valV l), iV n, iV (IntKind.i64.wrap (i + (1 : Int)))] []))))))) else (kc 1 [] [])
noncomputable def zq3 {α : Type} (A : Alg α) (f : Frm) (x : Rec) (kc : List AV → List (Nat × List AV) → α) : α :=
  A.callx 51 [agg [iV f.id, lst .ro 5 (map fldV f.fields)]] fun l0 => aB A l0 fun b3 l2 => asN A l2 (bif (!b3) then (kc [lst .ro 1 [], iV 2] []) else (A.callx 48 [agg [iV f.id, lst .ro 5 (map fldV f.fields)], agg [iV x.form, lst .ro 2 (map valV x.vals)]] fun l4 => aB A l4 fun b7 l6 => asN A l6 (bif (!b7) then (kc [lst .ro 1 [], iV 16] []) else (A.callx 52 [agg [iV f.id, lst .ro 5 (map fldV f.fields)]] fun l8 => aI A l8 fun n11 l10 => asN A l10 (A.chk (decide ((0 : Int) ≤ (0 : Int)) && decide ((0 : Int) ≤ n11) && decide (n11 * (↑(1 : Nat) : Int) ≤ (140737488355328 : Int))) (A.loop 7 [lst .uq 1 [], lst .ro 2 (map valV x.vals), iV (↑(map valV x.vals).length : Int), iV 0] [[iV f.id, lst .ro 5 (map fldV f.fields)]] fun j12 l13 l14 => bif (j12.beq 0) then (aL A 1 l13 fun l17 l16 => aI A l16 fun n20 l19 => asN A l19 (asN A l14 (kc [lst .ro 1 l17, iV n20] []))) else (bif (j12.beq 2) then (aU A 1 l13 fun l23 l22 => asN A l22 (asN A l14 (bif (l23.all AV.flat) then (kc [lst .ro 1 l23, iV 0] []) else A.fail))) else A.fail)))))))
noncomputable def zfn {α : Type} (A : Alg α) (f : Frm) (b : List UInt8) (l : List Val) (n : Int) (i : Int) (next : List AV → List (List AV) → α) (kc : Nat → List AV → List (List AV) → α) : α :=
  bif (decide (i < n)) then (A.chk (decide ((0 : Int) ≤ i)) (nthE A (map valV l) i.toNat fun v0 => asA A v0 fun l1 => aI A l1 fun n4 l3 => aS A l3 fun l7 l6 => asN A l6 (A.chk (decide ((0 : Int) ≤ i)) (nthE A (map fldV f.fields) i.toNat fun v8 => asA A v8 fun l9 => aI A l9 fun n12 l11 => aI A l11 fun n15 l14 => aI A l14 fun n18 l17 => aI A l17 fun n21 l20 => aI A l20 fun n24 l23 => asN A l23 (A.callx 53 [agg [iV n12, iV n15, iV n18, iV n21, iV n24], agg [iV n4, str l7]] fun l25 => aL A 1 l25 fun l28 l27 => aI A l27 fun n31 l30 => asN A l30 (bif (n31 != (0 : Int)) then (kc 0 [lst .ro 1 [], iV n31] []) else (A.chk (decide (((encB b).length + l28.length) * 1 ≤ 211106232532992)) (bif ((encB b ++ l28).all AV.flat) then (next [lst .uq 1 (encB b ++ l28), lst .ro 2 (map valV l), iV n, iV (IntKind.i64.wrap (i + (1 : Int)))] [[iV f.id, lst .ro 5 (map fldV f.fields)]]) else A.fail)))))))) else (bif ((encB b).all AV.flat) then (kc 2 [lst .uq 1 (encB b)] []) else A.fail)
noncomputable def zmm {α : Type} (A : Alg α) (f : Frm) (b : List UInt8) (kc : List AV → List (Nat × List AV) → α) : α :=
  A.callx 51 [agg [iV f.id, lst .ro 5 (map fldV f.fields)]] fun l0 => aB A l0 fun b3 l2 => asN A l2 (bif (!b3) then (kc [agg [iV 0, lst .ro 2 []], iV 2] []) else (A.loop 5 [lst .ro 1 (encB b), lst .ro 5 (map fldV f.fields), iV (↑(map fldV f.fields).length : Int), iV 0] [[iV 0, lst .ro 2 []], [iV f.id, lst (.own (.O 1006 1)) 2 []]] fun j4 l5 l6 => bif (j4.beq 0) then (aI A l5 fun n9 l8 => asN A l8 (asC A l6 fun l10 l11 => aI A l10 fun n14 l13 => aL A 2 l13 fun l17 l16 => asN A l16 (asN A l11 (kc [agg [iV n14, lst .ro 2 l17], iV n9] [])))) else (bif (j4.beq 1) then (aL A 1 l5 fun l20 l19 => asN A l19 (asC A l6 fun l21 l22 => aI A l21 fun n25 l24 => aL A 2 l24 fun l28 l27 => asN A l27 (asC A l22 fun l29 l30 => aI A l29 fun n33 l32 => asC A l32 fun v34 l35 => asOwn A 2 v34 fun x36 l37 => bif (x36.beq (.O (1006 : Nat) (1 : Nat))) then (asN A l35 (asN A l30 (bif (decide ((↑l20.length : Int) > (0 : Int))) then (kc [agg [iV 0, lst .ro 2 []], iV 6] []) else (kc [agg [iV n33, lst .ro 2 l37], iV 0] [])))) else A.fail))) else A.fail)))
noncomputable def zcp {α : Type} (A : Alg α) (m : List Fld) (b : List UInt8) (id : Int) (n : Int) (i : Int) (l : List Val) (next : List AV → List (List AV) → α) (kc : Nat → List AV → List (List AV) → α) : α :=
  bif (decide (i < n)) then (A.chk (decide ((0 : Int) ≤ i)) (nthE A (map fldV m) i.toNat fun v0 => asA A v0 fun l1 => aI A l1 fun n4 l3 => aI A l3 fun n7 l6 => aI A l6 fun n10 l9 => aI A l9 fun n13 l12 => aI A l12 fun n16 l15 => asN A l15 (A.callx 59 [agg [iV n4, iV n7, iV n10, iV n13, iV n16], lst .ro 1 (encB b)] fun l17 => aA A l17 fun l20 l19 => aI A l20 fun n23 l22 => aS A l22 fun l26 l25 => asN A l25 (aI A l19 fun n29 l28 => aI A l28 fun n32 l31 => asN A l31 (bif (n32 != (0 : Int)) then (kc 0 [iV n32] [[iV 0, lst .ro 2 []]]) else (A.chk (decide (((map valV l).length + [agg [iV n23, str l26]].length) * 24 ≤ 211106232532992)) (A.chk (decide ((0 : Int) ≤ n29) && decide (n29 ≤ (↑(encB b).length : Int)) && decide ((↑(encB b).length : Int) ≤ (↑(encB b).length : Int)) && decide ((↑(encB b).length : Int) ≤ (↑(encB b).length : Int))) (next [lst .ro 1 (List.drop n29.toNat (List.take (↑(encB b).length : Int).toNat (encB b))), lst .ro 5 (map fldV m), iV n, iV (IntKind.i64.wrap (i + (1 : Int)))] [[iV 0, lst .ro 2 []], [iV id, lst (.own (.O 1006 1)) 2 (map valV l ++ [agg [iV n23, str l26]])]])))))))) else (kc 1 [lst .ro 1 (encB b)] [[iV 0, lst .ro 2 []], [iV id, lst (.own (.O 1006 1)) 2 (map valV l)]])
noncomputable def zcq {α : Type} (A : Alg α) (l : List Val) (kc : List AV → List (Nat × List AV) → α) : α :=
  nilEq A Md.ro (map valV l) fun b0 => bif b0 then (kc [lst .uq 2 []] []) else (A.chk (decide (((0 : Nat) + (map valV l).length) * 24 ≤ 211106232532992)) (bif (([] ++ map valV l).all AV.flat) then (kc [lst .uq 2 (map valV l)] []) else A.fail))
noncomputable def s_tof {α : Type} (A : Alg α) (s : Sch) (x : Rec) (id : Int) (kc : List AV → List (Nat × List AV) → α) : α :=
  A.callx 27 [agg [iV s.ver, lst .ro 2 (map frmV s.forms)], iV x.form] fun l0 => aA A l0 fun l3 l2 => aI A l3 fun n6 l5 => aL A 5 l5 fun l9 l8 => asN A l8 (aB A l2 fun b12 l11 => asN A l11 (A.join (fun x13 => bif (!b12) then (x13 true) else (A.callx 48 [agg [iV n6, lst .ro 5 l9], agg [iV x.form, lst .ro 2 (map valV x.vals)]] fun l14 => aB A l14 fun b17 l16 => asN A l16 (x13 (!b17)))) fun b18 => bif b18 then (kc [agg [iV n6, lst .ro 5 l9], agg [lst .uq 2 [], iV 0], iV 16] []) else (A.call 49 [lst .ro 2 (map valV x.vals)] [] fun l19 l20 => aU A 2 l19 fun l23 l22 => asN A l22 (asN A l20 (A.callx 50 [agg [iV n6, lst .ro 5 l9], iV id] fun l24 => aI A l24 fun n27 l26 => asN A l26 (bif (l23.all AV.flat) then (kc [agg [iV n6, lst .ro 5 l9], agg [lst .uq 2 l23, iV (if n27 < (0 : Int) then (0 : Int) else n27)], iV 0] []) else A.fail))))))
noncomputable def s_vin {α : Type} (A : Alg α) (l : List Val) (p : Int) (q : Int) (v : Val) (kc : List AV → List (Nat × List AV) → α) : α :=
  bif (fitI (atO l p) && [ref (0 : Nat) (0 : Nat), iV q, agg [iV v.n, str v.s]].all fitA && nodupN (map (fun x => x.fst) (oshOf T0 (0 : Nat) [ref (0 : Nat) (0 : Nat), iV q, agg [iV v.n, str v.s]] Go.Proofs.Tryz.f54.params.toList)) && (oshOf T0 (0 : Nat) [ref (0 : Nat) (0 : Nat), iV q, agg [iV v.n, str v.s]] Go.Proofs.Tryz.f54.params.toList).all fun p => p.fst.blt (64 : Nat)) then (dbl A (bif ((map valV l).all AV.flat) then (A.call 96 [lst .uq 2 (map valV l), iV q, lst .uq 2 [agg [iV v.n, str v.s]]] [] fun l0 l1 => aU A 2 l0 fun l4 l3 => asN A l3 (asN A l1 (bif (l4.all AV.flat) then (kc [] [(0, [lst .uq 2 l4, iV p])]) else A.fail))) else A.fail)) else A.fail
noncomputable def zt2 {α : Type} (A : Alg α) (b : Bool) (kc : List AV → List (Nat × List AV) → α) : α :=
  bif (!b) then (kc [iV 20] []) else (kc [iV 0] [])
noncomputable def zjn {α : Type} (A : Alg α) (l : List Int) (n : Int) (z : List UInt8) (kc : List AV → List (Nat × List AV) → α) : α :=
  A.loop 2 [lst .ro 1 (map (fun n => iV n) l), clo 74 [AV.rp [AV.rp [iV n, str z] 0] 0], iV (↑(map (fun n => iV n) l).length : Int), iV 0] [] fun j0 l1 l2 => bif (j0.beq 0) then (aI A l1 fun n5 l4 => asN A l4 (asN A l2 (kc [iV n5] []))) else (bif (j0.beq 1) then (asN A l1 (asN A l2 (kc [iV (-1)] []))) else A.fail)
noncomputable def zae {α : Type} (A : Alg α) (l : List Int) (n : Int) (m : Int) (i : Int) (z : List UInt8) (next : List AV → List (List AV) → α) (kc : Nat → List AV → List (List AV) → α) : α :=
  bif (decide (i < m)) then (A.chk (decide ((0 : Int) ≤ i)) (nthE A (map (fun n => iV n) l) i.toNat fun v0 => asI A .i64 v0 fun n1 => A.callx 74 [iV n1, AV.rp [AV.rp [iV n, str z] 0] 0] fun l2 => aB A l2 fun b5 l4 => asN A l4 (bif b5 then (kc 0 [iV i] []) else (next [lst .ro 1 (map (fun n => iV n) l), clo 74 [AV.rp [AV.rp [iV n, str z] 0] 0], iV m, iV (IntKind.i64.wrap (i + (1 : Int)))] [])))) else (kc 1 [] [])
noncomputable def zgv {α : Type} (A : Alg α) (x : Int) (n : Int) (z : List UInt8) (kc : List AV → List (Nat × List AV) → α) : α :=
  kc [bool (x == n)] []
noncomputable def s_tOn {α : Type} (A : Alg α) (s : Sch) (x : Stp) (y : Rec) (kc : List AV → List (Nat × List AV) → α) : α :=
  A.callx 17 [agg [iV s.ver, lst .ro 2 (map frmV s.forms)], agg [iV x.op, iV x.form, iV x.field, iV x.place, iV x.to, iV x.a, iV x.b, iV x.f.id, iV x.f.kind, iV x.f.lo, iV x.f.hi, iV x.f.most, iV x.n, str x.s, lst .ro 1 (map (fun n => iV n) x.t), lst .ro 5 (map fldV x.fields)]] fun l0 => aA A l0 fun l3 l2 => aI A l3 fun n6 l5 => aL A 2 l5 fun l9 l8 => asN A l8 (aI A l2 fun n12 l11 => asN A l11 (bif (n12 != (0 : Int)) then (kc [agg [iV 0, lst .ro 2 [], bool false, bool false, str []], iV n12] []) else (A.call 18 [agg [iV s.ver, lst .ro 2 (map frmV s.forms)], agg [iV y.form, lst .ro 2 (map valV y.vals)], iV x.field] [] fun l13 l14 => aA A l13 fun l17 l16 => aI A l17 fun n20 l19 => aL A 5 l19 fun l23 l22 => asN A l22 (aA A l16 fun l26 l25 => aU A 2 l26 fun l29 l28 => aI A l28 fun n32 l31 => asN A l31 (aI A l25 fun n35 l34 => asN A l34 (asN A l14 (bif (n35 != (0 : Int)) then (kc [agg [iV 0, lst .ro 2 [], bool false, bool false, str []], iV n35] []) else (bif (y.form == x.form) then (bif (x.op == (10 : Int)) then (A.callx 19 [agg [iV n20, lst .ro 5 l23], agg [iV y.form, lst .ro 2 (map valV y.vals)]] fun l36 => aL A 1 l36 fun l39 l38 => aI A l38 fun n42 l41 => asN A l41 (orFail A (bytesOf l39) fun l43 => kc [agg [iV 0, lst .ro 2 [], bool true, bool true, str l43], iV 0] [])) else (bif (l29.all AV.flat) then (A.call 20 [ref 0 0, agg [iV n20, lst .ro 5 l23], agg [iV x.op, iV x.form, iV x.field, iV x.place, iV x.to, iV x.a, iV x.b, iV x.f.id, iV x.f.kind, iV x.f.lo, iV x.f.hi, iV x.f.most, iV x.n, str x.s, lst .ro 1 (map (fun n => iV n) x.t), lst .ro 5 (map fldV x.fields)]] [(0, [lst .uq 2 l29, iV n32])] fun l44 l45 => asC A l45 fun x46 l47 => bif (x46.1.beq 0) then (aU A 2 x46.2 fun l50 l49 => aI A l49 fun n53 l52 => asN A l52 (aS A l44 fun l56 l55 => aB A l55 fun b59 l58 => asN A l58 (asN A l47 (bif (l50.all AV.flat) then (kc [agg [iV y.form, lst .ro 2 l50, bool false, bool b59, str l56], iV 0] []) else A.fail)))) else A.fail) else A.fail)) else (bif (l29.all AV.flat) then (kc [agg [iV y.form, lst .ro 2 l29, bool false, bool false, str []], iV 0] []) else A.fail)))))))))
noncomputable def zmn {α : Type} (A : Alg α) (s : Sch) (x : Stp) (y : Rec) (z : List UInt8) (q : Bool) (kc : List AV → List (Nat × List AV) → α) : α :=
  A.callx 17 [agg [iV s.ver, lst .ro 2 (map frmV s.forms)], agg [iV x.op, iV x.form, iV x.field, iV x.place, iV x.to, iV x.a, iV x.b, iV x.f.id, iV x.f.kind, iV x.f.lo, iV x.f.hi, iV x.f.most, iV x.n, str x.s, lst .ro 1 (map (fun n => iV n) x.t), lst .ro 5 (map fldV x.fields)]] fun l0 => aA A l0 fun l3 l2 => aI A l3 fun n6 l5 => aL A 2 l5 fun l9 l8 => asN A l8 (aI A l2 fun n12 l11 => asN A l11 (bif (n12 != (0 : Int)) then (kc [agg [iV 0, lst .ro 2 []], iV n12] []) else (A.callx 38 [agg [iV s.ver, lst .ro 2 (map frmV s.forms)], agg [iV x.op, iV x.form, iV x.field, iV x.place, iV x.to, iV x.a, iV x.b, iV x.f.id, iV x.f.kind, iV x.f.lo, iV x.f.hi, iV x.f.most, iV x.n, str x.s, lst .ro 1 (map (fun n => iV n) x.t), lst .ro 5 (map fldV x.fields)]] fun l13 => aA A l13 fun l16 l15 => aI A l16 fun n19 l18 => aI A l18 fun n22 l21 => aI A l21 fun n25 l24 => aI A l24 fun n28 l27 => aI A l27 fun n31 l30 => aI A l30 fun n34 l33 => aI A l33 fun n37 l36 => aI A l36 fun n40 l39 => aI A l39 fun n43 l42 => aI A l42 fun n46 l45 => aI A l45 fun n49 l48 => aI A l48 fun n52 l51 => aI A l51 fun n55 l54 => aS A l54 fun l58 l57 => aL A 1 l57 fun l61 l60 => aL A 5 l60 fun l64 l63 => asN A l63 (aI A l15 fun n67 l66 => asN A l66 (bif (n67 != (0 : Int)) then (kc [agg [iV 0, lst .ro 2 []], iV n67] []) else (A.call 18 [agg [iV n6, lst .ro 2 l9], agg [iV y.form, lst .ro 2 (map valV y.vals)], iV n25] [] fun l68 l69 => aA A l68 fun l72 l71 => aI A l72 fun n75 l74 => aL A 5 l74 fun l78 l77 => asN A l77 (aA A l71 fun l81 l80 => aU A 2 l81 fun l84 l83 => aI A l83 fun n87 l86 => asN A l86 (aI A l80 fun n90 l89 => asN A l89 (asN A l69 (bif (n90 != (0 : Int)) then (kc [agg [iV 0, lst .ro 2 []], iV n90] []) else (bif (y.form == x.form) then (bif (l84.all AV.flat) then (A.call 39 [ref 0 0, agg [iV n19, iV n22, iV n25, iV n28, iV n31, iV n34, iV n37, iV n40, iV n43, iV n46, iV n49, iV n52, iV n55, str l58, lst .ro 1 l61, lst .ro 5 l64], str z, bool q] [(0, [lst .uq 2 l84, iV n87])] fun l91 l92 => asC A l92 fun x93 l94 => bif (x93.1.beq 0) then (aU A 2 x93.2 fun l97 l96 => aI A l96 fun n100 l99 => asN A l99 (aI A l91 fun n103 l102 => asN A l102 (asN A l94 (bif (n103 != (0 : Int)) then (kc [agg [iV 0, lst .ro 2 []], iV n103] []) else (bif (l97.all AV.flat) then (kc [agg [iV y.form, lst .ro 2 l97], iV 0] []) else A.fail))))) else A.fail) else A.fail) else (bif (l84.all AV.flat) then (kc [agg [iV y.form, lst .ro 2 l84], iV 0] []) else A.fail))))))))))))
noncomputable def zgw {α : Type} (A : Alg α) (s : Sch) (x : Stp) (z : List UInt8) (kc : List AV → List (Nat × List AV) → α) : α :=
  A.callx 17 [agg [iV s.ver, lst .ro 2 (map frmV s.forms)], agg [iV x.op, iV x.form, iV x.field, iV x.place, iV x.to, iV x.a, iV x.b, iV x.f.id, iV x.f.kind, iV x.f.lo, iV x.f.hi, iV x.f.most, iV x.n, str x.s, lst .ro 1 (map (fun n => iV n) x.t), lst .ro 5 (map fldV x.fields)]] fun l0 => aA A l0 fun l3 l2 => aI A l3 fun n6 l5 => aL A 2 l5 fun l9 l8 => asN A l8 (aI A l2 fun n12 l11 => asN A l11 (bif (n12 != (0 : Int)) then (kc [agg [iV 0, lst .ro 2 []], iV n12] []) else (bif (x.op != (10 : Int)) then (kc [agg [iV 0, lst .ro 2 []], iV 2] []) else (A.callx 27 [agg [iV s.ver, lst .ro 2 (map frmV s.forms)], iV x.form] fun l13 => aA A l13 fun l16 l15 => aI A l16 fun n19 l18 => aL A 5 l18 fun l22 l21 => asN A l21 (aB A l15 fun b25 l24 => asN A l24 (A.callx 28 [agg [iV n19, lst .ro 5 l22], lst .ro 1 (encB z)] fun l26 => aA A l26 fun l29 l28 => aI A l29 fun n32 l31 => aL A 2 l31 fun l35 l34 => asN A l34 (aI A l28 fun n38 l37 => asN A l37 (bif (n38 != (0 : Int)) then (kc [agg [iV 0, lst .ro 2 []], iV 12] []) else (kc [agg [iV n32, lst .ro 2 l35], iV 0] [])))))))))
noncomputable def zgx {α : Type} (A : Alg α) (a : Rec) (b : Rec) (kc : List AV → List (Nat × List AV) → α) : α :=
  A.join (fun x0 => bif (a.form != b.form) then (x0 true) else (x0 ((↑(map valV a.vals).length : Int) != (↑(map valV b.vals).length : Int)))) fun b1 => bif b1 then (kc [bool false] []) else (A.loop 4 [iV 0] [[iV a.form, lst .ro 2 (map valV a.vals)], [iV b.form, lst .ro 2 (map valV b.vals)]] fun j2 l3 l4 => bif (j2.beq 0) then (aB A l3 fun b7 l6 => asN A l6 (asN A l4 (kc [bool b7] []))) else (bif (j2.beq 1) then (asN A l3 (asN A l4 (kc [bool true] []))) else A.fail))
noncomputable def z8o {α : Type} (A : Alg α) (a : Rec) (b : Rec) (i : Int) (next : List AV → List (List AV) → α) (kc : Nat → List AV → List (List AV) → α) : α :=
  bif (decide (i < (↑(map valV a.vals).length : Int))) then (A.chk (decide ((0 : Int) ≤ i)) (nthE A (map valV a.vals) i.toNat fun v0 => asA A v0 fun l1 => aI A l1 fun n4 l3 => aS A l3 fun l7 l6 => asN A l6 (A.chk (decide ((0 : Int) ≤ i)) (nthE A (map valV b.vals) i.toNat fun v8 => asA A v8 fun l9 => aI A l9 fun n12 l11 => aS A l11 fun l15 l14 => asN A l14 (bif (!(n4 == n12 && (l7 == l15 && true))) then (kc 0 [bool false] []) else (next [iV (IntKind.i64.wrap (i + (1 : Int)))] [[iV a.form, lst .ro 2 (map valV a.vals)], [iV b.form, lst .ro 2 (map valV b.vals)]])))))) else (kc 1 [] [])
noncomputable def zjp {α : Type} (A : Alg α) (f : Frm) (x : Rec) (kc : List AV → List (Nat × List AV) → α) : α :=
  A.join (fun x0 => A.callx 36 [agg [iV f.id, lst .ro 5 (map fldV f.fields)]] fun l1 => aB A l1 fun b4 l3 => asN A l3 (bif (!b4) then (x0 true) else (bif (x.form != f.id) then (x0 true) else (x0 ((↑(map valV x.vals).length : Int) != (↑(map fldV f.fields).length : Int)))))) fun b5 => bif b5 then (kc [bool false] []) else (A.loop 4 [iV 0] [[iV f.id, lst .ro 5 (map fldV f.fields)], [iV x.form, lst .ro 2 (map valV x.vals)]] fun j6 l7 l8 => bif (j6.beq 0) then (aB A l7 fun b11 l10 => asN A l10 (asN A l8 (kc [bool b11] []))) else (bif (j6.beq 1) then (asN A l7 (asN A l8 (kc [bool true] []))) else A.fail))
noncomputable def zag {α : Type} (A : Alg α) (f : Frm) (x : Rec) (i : Int) (next : List AV → List (List AV) → α) (kc : Nat → List AV → List (List AV) → α) : α :=
  bif (decide (i < (↑(map valV x.vals).length : Int))) then (A.chk (decide ((0 : Int) ≤ i)) (nthE A (map fldV f.fields) i.toNat fun v0 => asA A v0 fun l1 => aI A l1 fun n4 l3 => aI A l3 fun n7 l6 => aI A l6 fun n10 l9 => aI A l9 fun n13 l12 => aI A l12 fun n16 l15 => asN A l15 (A.chk (decide ((0 : Int) ≤ i)) (nthE A (map valV x.vals) i.toNat fun v17 => asA A v17 fun l18 => aI A l18 fun n21 l20 => aS A l20 fun l24 l23 => asN A l23 (A.callx 37 [agg [iV n4, iV n7, iV n10, iV n13, iV n16], agg [iV n21, str l24]] fun l25 => aB A l25 fun b28 l27 => asN A l27 (bif (!b28) then (kc 0 [bool false] []) else (next [iV (IntKind.i64.wrap (i + (1 : Int)))] [[iV f.id, lst .ro 5 (map fldV f.fields)], [iV x.form, lst .ro 2 (map valV x.vals)]]))))))) else (kc 1 [] [])
noncomputable def ze5 {α : Type} (A : Alg α) (s : Sch) (x : Stp) (y : Rec) (kc : List AV → List (Nat × List AV) → α) : α :=
  A.callx 5 [agg [iV s.ver, lst .ro 2 (map frmV s.forms), iV x.op, iV x.form, iV x.field, iV x.place, iV x.to, iV x.a, iV x.b, iV x.f.id, iV x.f.kind, iV x.f.lo, iV x.f.hi, iV x.f.most, iV x.n, str x.s, lst .ro 1 (map (fun n => iV n) x.t), lst .ro 5 (map fldV x.fields), iV y.form, lst .ro 2 (map valV y.vals)]] fun l0 => aB A l0 fun b3 l2 => asN A l2 (bif b3 then (A.callx 6 [] fun l4 => aB A l4 fun b7 l6 => asN A l6 (kc [bool b7] [])) else (A.callx 7 [agg [iV s.ver, lst .ro 2 (map frmV s.forms)], agg [iV x.op, iV x.form, iV x.field, iV x.place, iV x.to, iV x.a, iV x.b, iV x.f.id, iV x.f.kind, iV x.f.lo, iV x.f.hi, iV x.f.most, iV x.n, str x.s, lst .ro 1 (map (fun n => iV n) x.t), lst .ro 5 (map fldV x.fields)], agg [iV y.form, lst .ro 2 (map valV y.vals)]] fun l8 => aA A l8 fun l11 l10 => aI A l11 fun n14 l13 => aL A 2 l13 fun l17 l16 => aB A l16 fun b20 l19 => aB A l19 fun b23 l22 => aS A l22 fun l26 l25 => asN A l25 (aI A l10 fun n29 l28 => asN A l28 (bif (n29 != (0 : Int)) then (A.join (fun x30 => bif (!b20) then (bif (!b23) then (bif (l26 == []) then (bif ((↑l17.length : Int) == (0 : Int)) then (A.callx 6 [] fun l31 => aB A l31 fun b34 l33 => asN A l33 (x30 b34)) else (x30 false)) else (x30 false)) else (x30 false)) else (x30 false)) fun b35 => kc [bool b35] []) else (bif b20 then (A.callx 10 [agg [iV s.ver, lst .ro 2 (map frmV s.forms)], agg [iV x.op, iV x.form, iV x.field, iV x.place, iV x.to, iV x.a, iV x.b, iV x.f.id, iV x.f.kind, iV x.f.lo, iV x.f.hi, iV x.f.most, iV x.n, str x.s, lst .ro 1 (map (fun n => iV n) x.t), lst .ro 5 (map fldV x.fields)], str l26] fun l36 => aA A l36 fun l39 l38 => aI A l39 fun n42 l41 => aL A 2 l41 fun l45 l44 => asN A l44 (aI A l38 fun n48 l47 => asN A l47 (A.join (fun x49 => A.callx 11 [agg [iV n42, lst .ro 2 l45], agg [iV y.form, lst .ro 2 (map valV y.vals)]] fun l50 => aB A l50 fun b53 l52 => asN A l52 (bif b53 then (bif (n48 == (0 : Int)) then (bif b23 then (bif ((↑l17.length : Int) == (0 : Int)) then (A.callx 6 [] fun l54 => aB A l54 fun b57 l56 => asN A l56 (x49 b57)) else (x49 false)) else (x49 false)) else (x49 false)) else (x49 false))) fun b58 => kc [bool b58] []))) else (A.callx 12 [agg [iV s.ver, lst .ro 2 (map frmV s.forms)], agg [iV x.op, iV x.form, iV x.field, iV x.place, iV x.to, iV x.a, iV x.b, iV x.f.id, iV x.f.kind, iV x.f.lo, iV x.f.hi, iV x.f.most, iV x.n, str x.s, lst .ro 1 (map (fun n => iV n) x.t), lst .ro 5 (map fldV x.fields)]] fun l59 => aA A l59 fun l62 l61 => aI A l62 fun n65 l64 => aL A 2 l64 fun l68 l67 => asN A l67 (aI A l61 fun n71 l70 => asN A l70 (A.callx 13 [agg [iV n65, lst .ro 2 l68], iV n14] fun l72 => aI A l72 fun n75 l74 => asN A l74 (bif (decide (n75 < (0 : Int))) then (kc [bool false] []) else (A.chk (decide ((0 : Int) ≤ n75)) (nthE A l68 n75.toNat fun v76 => asA A v76 fun l77 => aI A l77 fun n80 l79 => aL A 5 l79 fun l83 l82 => asN A l82 (A.callx 14 [agg [iV n80, lst .ro 5 l83], agg [iV n14, lst .ro 2 l17]] fun l84 => aB A l84 fun b87 l86 => asN A l86 (bif (!b87) then (kc [bool false] []) else (A.callx 15 [agg [iV s.ver, lst .ro 2 (map frmV s.forms)], agg [iV x.op, iV x.form, iV x.field, iV x.place, iV x.to, iV x.a, iV x.b, iV x.f.id, iV x.f.kind, iV x.f.lo, iV x.f.hi, iV x.f.most, iV x.n, str x.s, lst .ro 1 (map (fun n => iV n) x.t), lst .ro 5 (map fldV x.fields)], agg [iV n14, lst .ro 2 l17], str l26, bool b23] fun l88 => aA A l88 fun l91 l90 => aI A l91 fun n94 l93 => aL A 2 l93 fun l97 l96 => asN A l96 (aI A l90 fun n100 l99 => asN A l99 (A.join (fun x101 => A.callx 11 [agg [iV n94, lst .ro 2 l97], agg [iV y.form, lst .ro 2 (map valV y.vals)]] fun l102 => aB A l102 fun b105 l104 => asN A l104 (bif b105 then (bif (n100 == (0 : Int)) then (A.callx 6 [] fun l106 => aB A l106 fun b109 l108 => asN A l108 (x101 b109)) else (x101 false)) else (x101 false))) fun b110 => kc [bool b110] []))))))))))))))))
noncomputable def ze6 {α : Type} (A : Alg α) (s : Sch) (x : Stp) (y : Rec) (kc : List AV → List (Nat × List AV) → α) : α :=
  A.loop 2 [iV 0] [[iV s.ver, lst .ro 2 (map frmV s.forms), iV x.op, iV x.form, iV x.field, iV x.place, iV x.to, iV x.a, iV x.b, iV x.f.id, iV x.f.kind, iV x.f.lo, iV x.f.hi, iV x.f.most, iV x.n, str x.s, lst .ro 1 (map (fun n => iV n) x.t), lst .ro 5 (map fldV x.fields), iV y.form, lst .ro 2 (map valV y.vals)]] fun j0 l1 l2 => bif (j0.beq 0) then (aB A l1 fun b5 l4 => asN A l4 (asN A l2 (kc [bool b5] []))) else (bif (j0.beq 1) then (asN A l1 (asC A l2 fun l6 l7 => aI A l6 fun n10 l9 => aL A 2 l9 fun l13 l12 => aI A l12 fun n16 l15 => aI A l15 fun n19 l18 => aI A l18 fun n22 l21 => aI A l21 fun n25 l24 => aI A l24 fun n28 l27 => aI A l27 fun n31 l30 => aI A l30 fun n34 l33 => aI A l33 fun n37 l36 => aI A l36 fun n40 l39 => aI A l39 fun n43 l42 => aI A l42 fun n46 l45 => aI A l45 fun n49 l48 => aI A l48 fun n52 l51 => aS A l51 fun l55 l54 => aL A 1 l54 fun l58 l57 => aL A 5 l57 fun l61 l60 => aI A l60 fun n64 l63 => aL A 2 l63 fun l67 l66 => asN A l66 (asN A l7 (bif (decide ((↑l13.length : Int) > (40 : Int))) then (kc [bool true] []) else (A.callx 16 [lst .ro 16 [agg [iV n16, iV n19, iV n22, iV n25, iV n28, iV n31, iV n34, iV n37, iV n40, iV n43, iV n46, iV n49, iV n52, str l55, lst .ro 1 l58, lst .ro 5 l61]]] fun l68 => aB A l68 fun b71 l70 => asN A l70 (bif b71 then (kc [bool true] []) else (kc [bool (decide ((↑l67.length : Int) > (40 : Int)))] []))))))) else A.fail)
noncomputable def z5h {α : Type} (A : Alg α) (s : Sch) (x : Stp) (y : Rec) (i : Int) (next : List AV → List (List AV) → α) (kc : Nat → List AV → List (List AV) → α) : α :=
  A.join (fun x0 => bif (decide (i < (↑(map frmV s.forms).length : Int))) then (x0 (decide (i < (41 : Int)))) else (x0 false)) fun b1 => bif b1 then (A.chk (decide ((0 : Int) ≤ i)) (nthE A (map frmV s.forms) i.toNat fun v2 => asA A v2 fun l3 => aI A l3 fun n6 l5 => aL A 5 l5 fun l9 l8 => asN A l8 (bif (decide ((↑l9.length : Int) > (40 : Int))) then (kc 0 [bool true] []) else (next [iV (IntKind.i64.wrap (i + (1 : Int)))] [[iV s.ver, lst .ro 2 (map frmV s.forms), iV x.op, iV x.form, iV x.field, iV x.place, iV x.to, iV x.a, iV x.b, iV x.f.id, iV x.f.kind, iV x.f.lo, iV x.f.hi, iV x.f.most, iV x.n, str x.s, lst .ro 1 (map (fun n => iV n) x.t), lst .ro 5 (map fldV x.fields), iV y.form, lst .ro 2 (map valV y.vals)]])))) else (kc 1 [] [[iV s.ver, lst .ro 2 (map frmV s.forms), iV x.op, iV x.form, iV x.field, iV x.place, iV x.to, iV x.a, iV x.b, iV x.f.id, iV x.f.kind, iV x.f.lo, iV x.f.hi, iV x.f.most, iV x.n, str x.s, lst .ro 1 (map (fun n => iV n) x.t), lst .ro 5 (map fldV x.fields), iV y.form, lst .ro 2 (map valV y.vals)]])
theorem zyd (f : Fld) (v : Val) {r : CR} (h : zq0 (OA (tbl E0) (ltbl E0 53 0)) f v (fun r o => some (r, o)) = some r) : tbl E0 53 [fldV f, valV v] [] = some r :=
  tblF Tryz.func53 h
theorem zms (b : List UInt8) (i n : Int) {r : LR} (h : zfk (OA (tbl E0) (ltbl E0 53 0)) b i n (fun vs os => ltbl E0 53 0 10 vs os) (fun j vs os => some (j, vs, os)) = some r) : ltbl E0 53 0 10 [.lst .uq 1 (encB b), iV i, iV n] [] = some r :=
  ltblF Tryz.func53 h
theorem zye (f : Fld) (b : List UInt8) {r : CR} (h : zq1 (OA (tbl E0) (ltbl E0 59 0)) f b (fun r o => some (r, o)) = some r) : tbl E0 59 [fldV f, .lst .ro 1 (encB b)] [] = some r :=
  tblF Tryz.func59 h
theorem zw3 (f : Fld) (b : List UInt8) (n : Int) (t : Bool) {r : LR} (h : zfl (OA (tbl E0) (ltbl E0 59 0)) f b n t (fun vs os => ltbl E0 59 0 1000006 vs os) (fun j vs os => some (j, vs, os)) = some r) : ltbl E0 59 0 1000006 [.lst .ro 1 (encB b), iV n, .bool t] [fldC f, [iV 0, .str []]] = some r :=
  ltblF Tryz.func59 h
theorem zmt (f : Fld) (b c : List UInt8) (n : Int) (t : Bool) (u m i : Int) {r : LR} (h : zfm (OA (tbl E0) (ltbl E0 59 0)) f b c n t u m i (fun vs os => ltbl E0 59 0 10 vs os) (fun j vs os => some (j, vs, os)) = some r) : ltbl E0 59 0 10 [.lst .ro 1 (encB b), iV n, .bool t, iV u, .lst .ro 1 (encB c), iV m, iV i] [fldC f, [iV 0, .str []]] = some r :=
  ltblF Tryz.func59 h
theorem zyf (f : Frm) (x : Rec) {r : CR} (h : zq2 (OA (tbl E0) (ltbl E0 48 0)) f x (fun r o => some (r, o)) = some r) : tbl E0 48 [frmV f, recV x] [] = some r :=
  tblF Tryz.func48 h
theorem zw4 (v : Val) (f : Fld) {r : CR} (h : zml (OA (tbl E0) (ltbl E0 89 0)) v f (fun r o => some (r, o)) = some r) : tbl E0 89 [valV v, fldV f] [] = some r :=
  tblF Tryz.func89 h
theorem zq4 (l : List Val) (m : List Fld) {r : CR} (h : zad (OA (tbl E0) (ltbl E0 88 0)) l m (fun r o => some (r, o)) = some r) : tbl E0 88 [valsV l, fldsV m, .clo 89 []] [] = some r :=
  tblF Tryz.func88 h
theorem ze7 (l : List Val) (m : List Fld) (n i : Int) {r : LR} (h : z8n (OA (tbl E0) (ltbl E0 88 0)) l m n i (fun vs os => ltbl E0 88 0 4 vs os) (fun j vs os => some (j, vs, os)) = some r) : ltbl E0 88 0 4 [fldsV m, .clo 89 [], valsV l, iV n, iV i] [] = some r :=
  ltblF Tryz.func88 h
theorem zyg (f : Frm) (x : Rec) {r : CR} (h : zq3 (OA (tbl E0) (ltbl E0 19 0)) f x (fun r o => some (r, o)) = some r) : tbl E0 19 [frmV f, recV x] [] = some r :=
  tblF Tryz.func19 h
theorem zmu (f : Frm) (b : List UInt8) (l : List Val) (n i : Int) {r : LR} (h : zfn (OA (tbl E0) (ltbl E0 19 0)) f b l n i (fun vs os => ltbl E0 19 0 7 vs os) (fun j vs os => some (j, vs, os)) = some r) : ltbl E0 19 0 7 [.lst .uq 1 (encB b), valsV l, iV n, iV i] [[iV f.id, fldsV f.fields]] = some r :=
  ltblF Tryz.func19 h
theorem zw5 (f : Frm) (b : List UInt8) {r : CR} (h : zmm (OA (tbl E0) (ltbl E0 28 0)) f b (fun r o => some (r, o)) = some r) : tbl E0 28 [frmV f, .lst .ro 1 (encB b)] [] = some r :=
  tblF Tryz.func28 h
theorem zjt (m : List Fld) (b : List UInt8) (id n i : Int) (l : List Val) {r : LR} (h : zcp (OA (tbl E0) (ltbl E0 28 0)) m b id n i l (fun vs os => ltbl E0 28 0 5 vs os) (fun j vs os => some (j, vs, os)) = some r) : ltbl E0 28 0 5 [.lst .ro 1 (encB b), fldsV m, iV n, iV i] [[iV 0, valsV []], [iV id, .lst (.own (.O 1006 1)) 2 (l.map valV)]] = some r :=
  ltblF Tryz.func28 h
theorem zt3 (l : List Val) {r : CR} (h : zcq (OA (tbl E0) (ltbl E0 49 0)) l (fun r o => some (r, o)) = some r) : tbl E0 49 [valsV l] [] = some r :=
  tblF Tryz.func49 h
theorem t_tof (s : Sch) (x : Rec) (id : Int) {r : CR} (h : s_tof (OA (tbl E0) (ltbl E0 18 0)) s x id (fun r o => some (r, o)) = some r) : tbl E0 18 [schV s, recV x, iV id] [] = some r :=
  tblF Tryz.func18 h
theorem t_vin (l : List Val) (p q : Int) (v : Val) {r : CR} (h : s_vin (OA (tbl E0) (ltbl E0 54 0)) l p q v (fun r o => some (r, o)) = some r) : tbl E0 54 [.ref 0 0, iV q, valV v] (atO l p) = some r :=
  tblF Tryz.func54 h
theorem zt4 (b : Bool) {r : CR} (h : zt2 (OA (tbl E0) (ltbl E0 71 0)) b (fun r o => some (r, o)) = some r) : tbl E0 71 [.bool b] [] = some r :=
  tblF Tryz.func71 h
theorem zt5 (l : List Int) (n : Int) (z : List UInt8) {r : CR} (h : zjn (OA (tbl E0) (ltbl E0 73 0)) l n z (fun r o => some (r, o)) = some r) : tbl E0 73 [intsV l, .clo 74 [.rp [.rp [iV n, .str z] 0] 0]] [] = some r :=
  tblF Tryz.func73 h
theorem zgz (l : List Int) (n m i : Int) (z : List UInt8) {r : LR} (h : zae (OA (tbl E0) (ltbl E0 73 0)) l n m i z (fun vs os => ltbl E0 73 0 2 vs os) (fun j vs os => some (j, vs, os)) = some r) : ltbl E0 73 0 2 [intsV l, .clo 74 [.rp [.rp [iV n, .str z] 0] 0], iV m, iV i] [] = some r :=
  ltblF Tryz.func73 h
theorem zq5 (x n : Int) (z : List UInt8) {r : CR} (h : zgv (OA (tbl E0) (ltbl E0 74 0)) x n z (fun r o => some (r, o)) = some r) : tbl E0 74 [iV x, .rp [.rp [iV n, .str z] 0] 0] [] = some r :=
  tblF Tryz.func74 h
theorem t_tOn (s : Sch) (x : Stp) (y : Rec) {r : CR} (h : s_tOn (OA (tbl E0) (ltbl E0 7 0)) s x y (fun r o => some (r, o)) = some r) : tbl E0 7 [schV s, stpV x, recV y] [] = some r :=
  tblF Tryz.func7 h
theorem zw6 (s : Sch) (x : Stp) (y : Rec) (z : List UInt8) (q : Bool) {r : CR} (h : zmn (OA (tbl E0) (ltbl E0 15 0)) s x y z q (fun r o => some (r, o)) = some r) : tbl E0 15 [schV s, stpV x, recV y, .str z, .bool q] [] = some r :=
  tblF Tryz.func15 h
theorem zq6 (s : Sch) (x : Stp) (z : List UInt8) {r : CR} (h : zgw (OA (tbl E0) (ltbl E0 10 0)) s x z (fun r o => some (r, o)) = some r) : tbl E0 10 [schV s, stpV x, .str z] [] = some r :=
  tblF Tryz.func10 h
theorem zq7 (a b : Rec) {r : CR} (h : zgx (OA (tbl E0) (ltbl E0 11 0)) a b (fun r o => some (r, o)) = some r) : tbl E0 11 [recV a, recV b] [] = some r :=
  tblF Tryz.func11 h
theorem ze8 (a b : Rec) (i : Int) {r : LR} (h : z8o (OA (tbl E0) (ltbl E0 11 0)) a b i (fun vs os => ltbl E0 11 0 4 vs os) (fun j vs os => some (j, vs, os)) = some r) : ltbl E0 11 0 4 [iV i] [recC a, recC b] = some r :=
  ltblF Tryz.func11 h
theorem zt7 (f : Frm) (x : Rec) {r : CR} (h : zjp (OA (tbl E0) (ltbl E0 14 0)) f x (fun r o => some (r, o)) = some r) : tbl E0 14 [frmV f, recV x] [] = some r :=
  tblF Tryz.func14 h
theorem zh1 (f : Frm) (x : Rec) (i : Int) {r : LR} (h : zag (OA (tbl E0) (ltbl E0 14 0)) f x i (fun vs os => ltbl E0 14 0 4 vs os) (fun j vs os => some (j, vs, os)) = some r) : ltbl E0 14 0 4 [iV i] [[iV f.id, fldsV f.fields], recC x] = some r :=
  ltblF Tryz.func14 h
theorem zo6 (s : Sch) (x : Stp) (y : Rec) {r : CR} (h : ze5 (OA (tbl E0) (ltbl E0 4 0)) s x y (fun r o => some (r, o)) = some r) : tbl E0 4 [.agg (caseC s x y)] [] = some r :=
  tblF Tryz.func4 h
theorem zo7 (s : Sch) (x : Stp) (y : Rec) {r : CR} (h : ze6 (OA (tbl E0) (ltbl E0 5 0)) s x y (fun r o => some (r, o)) = some r) : tbl E0 5 [.agg (caseC s x y)] [] = some r :=
  tblF Tryz.func5 h
theorem zbr (s : Sch) (x : Stp) (y : Rec) (i : Int) {r : LR} (h : z5h (OA (tbl E0) (ltbl E0 5 0)) s x y i (fun vs os => ltbl E0 5 0 2 vs os) (fun j vs os => some (j, vs, os)) = some r) : ltbl E0 5 0 2 [iV i] [caseC s x y] = some r :=
  ltblF Tryz.func5 h
end V
namespace V
open AV (int lst agg str bool ref clo)
open List (map)
end V
namespace V
open AV (int lst agg str bool ref clo)
open List (map)
end V
namespace V
def cnt (u : Nat) : List UInt8 := if u < 128 then [byt u] else byt (u % 128 + 128) :: cnt (u / 128)
termination_by u
decreasing_by omega
end V
namespace V
theorem zjv {f : Fld} (k : f.kind = 1) : rgtS f = (decide (0 ≤ f.id) && (decide (f.id ≤ 255) && (decide (-1099511627776 ≤ f.lo) && (decide (f.lo ≤ f.hi) && (decide (f.hi ≤ 1099511627776) && decide (f.most = 0)))))) := by
  simp [rgtS, k, Bool.and_assoc, Bool.decide_and]
theorem zjw {f : Fld} (k : f.kind = 2) : rgtS f = (decide (0 ≤ f.id) && (decide (f.id ≤ 255) && (decide (f.lo = 0) && (decide (f.hi = 0) && decide (f.most = 0))))) := by
  simp [rgtS, k, Bool.and_assoc, Bool.decide_and]
theorem ze9 {f : Fld} (k : f.kind = 3) : rgtS f = (decide (0 ≤ f.id) && (decide (f.id ≤ 255) && (decide (f.lo = 0) && (decide (f.hi = 0) && (decide (1 ≤ f.most) && decide (f.most ≤ 1000)))))) := by
  simp [rgtS, k, Bool.and_assoc, Bool.decide_and]
theorem zea {f : Fld} (k : f.kind = 4) : rgtS f = (decide (0 ≤ f.id) && (decide (f.id ≤ 255) && (decide (f.lo = 0) && (decide (f.hi = 0) && (decide (0 ≤ f.most) && decide (f.most ≤ 32)))))) := by
  simp [rgtS, k, Bool.and_assoc, Bool.decide_and]
theorem zeb {f : Fld} (k1 : f.kind ≠ 1) (k2 : f.kind ≠ 2) (k3 : f.kind ≠ 3) (k4 : f.kind ≠ 4) : rgtS f = false := by
  simp [rgtS, k1, k2, k3, k4]
theorem z34 (f : Fld) : tbl E0 92 [fldV f] [] = some ([.bool (rgtS f)], []) :=
  zsm f (by
    unfold zj2
    by_cases i0 : f.id < 0
    · have : rgtS f = false := by have : ¬ (0 ≤ f.id) := by omega
                                  simp [rgtS, this]
      simp [i0, this]
    · by_cases i1 : 255 < f.id
      · have : rgtS f = false := by have : ¬ (f.id ≤ 255) := by omega
                                    simp [rgtS, this]
        simp [i0, i1, this]
      · have j0 : 0 ≤ f.id := by omega
        have j1 : f.id ≤ 255 := by omega
        simp only [z9, cond_true, zh, i0, decide_false, cond_false, show ¬ (f.id > 255) from i1, Option.bind_some, Tok.untok_tok, z30]
        by_cases k1 : f.kind = 1
        · rw [zjv k1]
          by_cases a : -1099511627776 ≤ f.lo <;> by_cases b : f.lo ≤ f.hi <;> by_cases c : f.hi ≤ 1099511627776 <;> by_cases d : f.lo = 0 <;> by_cases e : f.most = 0 <;> simp [*]
        · by_cases k2 : f.kind = 2
          · rw [zjw k2]
            by_cases a : f.lo = 0 <;> by_cases b : f.hi = 0 <;> by_cases e : f.most = 0 <;> simp [*]
          · by_cases k3 : f.kind = 3
            · rw [ze9 k3]
              by_cases a : f.lo = 0 <;> by_cases b : f.hi = 0 <;> by_cases c : 1 ≤ f.most <;> simp [*]
            · by_cases k4 : f.kind = 4
              · rw [zea k4]
                by_cases a : f.lo = 0 <;> by_cases b : f.hi = 0 <;> by_cases c : 0 ≤ f.most <;> simp [*]
              · rw [zeb k1 k2 k3 k4]
                by_cases a : f.lo = 0 <;> simp [*])
theorem z4d (f : Fld) (h : f.kind = 3 → rgtS f = true) : tbl E0 94 [fldV f] [] = some ([iV (loS f), iV (hiS f)], []) :=
  zgm f (by
    unfold za1
    by_cases k1 : f.kind = 1
    · simp [k1, loS, hiS]
    · by_cases k2 : f.kind = 2
      · simp [k2, loS, hiS]
      · by_cases k3 : f.kind = 3
        · have h' := h k3
          rw [ze9 k3] at h'; simp only [Bool.and_eq_true, decide_eq_true_eq] at h'
          rw [wrap_i64 _ (by omega) (by omega)]
          simp [k3, loS, hiS]
        · simp [k1, k2, k3, loS, hiS])
theorem zqa (n : Nat) : ∀ (w : Nat), n < 9223372036854775808 → w + n < 9223372036854775808 → ltbl E0 110 0 2 [iV (n : Int), iV (w : Int)] [] = some (1, [iV ((w + wdS n : Nat) : Int)], []) := by
  induction n using wdS.induct with
  | case1 =>
    intro w hn hw
    exact za4 _ _ (by rw [wdS]; simp [z73])
  | case2 n h ih =>
    intro w hn hw; refine za4 _ _ ?_
    have h0 : (n : Int) > 0 := by omega
    have e : (n : Int).fdiv ((2 : Int) ^ (8 : Nat)) = ((n / 256 : Nat) : Int) := by rw [Int.fdiv_eq_ediv_of_nonneg _ (by decide)]; omega
    have e2 : IntKind.i64.wrap ((w : Int) + 1) = ((w + 1 : Nat) : Int) := by rw [wrap_i64 _ (by omega) (by omega)]; omega
    have e3 : wdS n = wdS (n / 256) + 1 := by rw [wdS]; simp [h]
    have := ih (w + 1) (by omega) (by omega)
    rw [e3, show w + (wdS (n / 256) + 1) = w + 1 + wdS (n / 256) by omega, ← this]
    simp only [z73, h0, decide_true, cond_true, z9, e, e2]
theorem ztc (n : Int) (h : n < 9223372036854775808) : tbl E0 110 [iV n] [] = some ([iV (wdS n.toNat : Nat)], []) :=
  zsn n (by
    by_cases h0 : 0 ≤ n
    · have := zqa n.toNat 0 (by omega) (by omega)
      rw [show (n.toNat : Int) = n by omega] at this
      simp only [Int.natCast_zero] at this; simp [zcg, this]
    · have e : ltbl E0 110 0 2 [iV n, iV 0] [] = some (1, [iV 0], []) := za4 _ _ (by
        have : ¬ (0 < n) := by omega
        simp [z73, this])
      have e0 : n.toNat = 0 := by omega
      rw [e0, wdS]; simp [zcg, e])
theorem ztd (n : Nat) : ∀ (w : Nat), n < 9223372036854775808 → w + n < 9223372036854775808 → ltbl E0 98 0 2 [iV (n : Int), iV (w : Int)] [] = some (1, [iV ((w + wdS n : Nat) : Int)], []) := by
  induction n using wdS.induct with
  | case1 =>
    intro w hn hw
    exact zcn _ _ (by rw [wdS]; simp [z8k])
  | case2 n h ih =>
    intro w hn hw; refine zcn _ _ ?_
    have h0 : (n : Int) > 0 := by omega
    have e : IntKind.i64.wrap ((n : Int).tdiv 256) = ((n / 256 : Nat) : Int) := by
      have e1 : (n : Int).tdiv 256 = ((n / 256 : Nat) : Int) := by rw [Int.tdiv_eq_ediv_of_nonneg (by omega)]; omega
      rw [e1, wrap_i64 _ (by omega) (by omega)]
    have e2 : IntKind.i64.wrap ((w : Int) + 1) = ((w + 1 : Nat) : Int) := by rw [wrap_i64 _ (by omega) (by omega)]; omega
    have e3 : wdS n = wdS (n / 256) + 1 := by rw [wdS]; simp [h]
    have := ih (w + 1) (by omega) (by omega)
    rw [e3, show w + (wdS (n / 256) + 1) = w + 1 + wdS (n / 256) by omega, ← this]
    simp only [z8k, h0, decide_true, cond_true, z9, e, e2]
theorem zwe (n : Int) (h : n < 9223372036854775808) : tbl E0 98 [iV n] [] = some ([iV (wdS n.toNat : Nat)], []) :=
  zvm n (by
    by_cases h0 : 0 ≤ n
    · have := ztd n.toNat 0 (by omega) (by omega)
      rw [show (n.toNat : Int) = n by omega] at this
      simp only [Int.natCast_zero] at this; simp [zfh, this]
    · have e : ltbl E0 98 0 2 [iV n, iV 0] [] = some (1, [iV 0], []) := zcn _ _ (by
        have : ¬ (0 < n) := by omega
        simp [z8k, this])
      have e0 : n.toNat = 0 := by omega
      rw [e0, wdS]; simp [zfh, e])
theorem z2b {f : Fld} (h : rgtS f = true) : 0 ≤ f.id ∧ f.id ≤ 255 ∧ (f.kind = 1 ∨ f.kind = 2 ∨ f.kind = 3 ∨ f.kind = 4) ∧ 0 ≤ hiS f - loS f ∧ hiS f - loS f ≤ 2199023255552 ∧ (f.kind ≠ 1 → f.lo = 0 ∧ f.hi = 0) ∧ (f.kind = 1 → -1099511627776 ≤ f.lo ∧ f.lo ≤ f.hi ∧ f.hi ≤ 1099511627776 ∧ f.most = 0) ∧ 0 ≤ f.most ∧ f.most ≤ 1000 ∧ (f.kind = 4 → f.most ≤ 32) ∧ (f.kind = 3 → 1 ≤ f.most) ∧ (f.kind = 2 → f.most = 0) := by
  by_cases k1 : f.kind = 1
  · rw [zjv k1] at h; simp [k1, loS, hiS] at h ⊢; omega
  · by_cases k2 : f.kind = 2
    · rw [zjw k2] at h; simp [k2, loS, hiS] at h ⊢; omega
    · by_cases k3 : f.kind = 3
      · rw [ze9 k3] at h; simp [k3, loS, hiS] at h ⊢; omega
      · by_cases k4 : f.kind = 4
        · rw [zea k4] at h; simp [k4, loS, hiS] at h ⊢; omega
        · rw [zeb k1 k2 k3 k4] at h; cases h
theorem zfo (f : Fld) (h : rgtS f = true) : tbl E0 95 [fldV f] [] = some ([iV (wdS (hiS f - loS f).toNat : Nat)], []) :=
  zvk f (by
    have r := z2b h; have e := z4d f (fun _ => h)
    have e2 := ztc (hiS f - loS f) (by omega)
    simp only [zm5, z9, cond_true, za, e, Option.bind_some, u_asC, u_asI, u_asN, wrap_i64 (hiS f - loS f) (by omega) (by omega), e2])
theorem zwf (f : Fld) : tbl E0 93 [fldV f] [] = some ([iV (sizeS f)], []) :=
  zvl f (by
    have e := z34 f; simp only [zm6, z9, cond_true, za, e, Option.bind_some, u_asC, u_asB, u_asI, u_asN]
    cases h : rgtS f with
    | false => simp [sizeS, h]
    | true =>
      have r := z2b h; have e2 := zfo f h
      by_cases k4 : f.kind = 4
      · rw [wrap_i64 (f.most + 1) (by omega) (by omega)]
        simp [sizeS, h, k4]
      · by_cases k2 : f.kind = 2
        · simp [sizeS, h, k2, hiS, loS, wdS]
        · simp only [sizeS, h, k4, k2, beq_f k4, beq_f k2, if_true, if_false, Bool.not_true, cond_false, e2, Option.bind_some, u_asC, u_asI, u_asN])
theorem z66 (f : Fld) : ∃ lo hi most, tbl E0 57 [fldV f] [] = some ([iV lo, iV hi, iV most, .bool (rgtS f)], []) ∧ (rgtS f = true → lo = loS f ∧ hi = hiS f ∧ most = if f.kind = 4 then f.most else 0) := by
  by_cases k1 : f.kind = 1
  · refine ⟨f.lo, f.hi, 0, z7y f ?_, fun _ => by simp [k1, loS, hiS]⟩
    rw [zjv k1]; simp only [z65]
    by_cases a : 0 ≤ f.id <;> by_cases b : f.id ≤ 255 <;> by_cases c : -1099511627776 ≤ f.lo <;> by_cases d : f.lo ≤ f.hi <;> by_cases e : f.hi ≤ 1099511627776 <;> by_cases e2 : f.most = 0 <;> simp [*]
  · by_cases k2 : f.kind = 2
    · refine ⟨0, 1, 0, z7y f ?_, fun _ => by simp [k2, loS, hiS]⟩
      rw [zjw k2]; simp only [z65]
      by_cases a : 0 ≤ f.id <;> by_cases b : f.id ≤ 255 <;> by_cases c : f.lo = 0 <;> by_cases d : f.hi = 0 <;> by_cases e2 : f.most = 0 <;> simp [*]
    · by_cases k3 : f.kind = 3
      · refine ⟨0, IntKind.i64.wrap (f.most - 1), 0, z7y f ?_, fun h => ?_⟩
        · rw [ze9 k3]
          simp only [z65]
          by_cases a : 0 ≤ f.id <;> by_cases b : f.id ≤ 255 <;> by_cases c : f.lo = 0 <;> by_cases d : f.hi = 0 <;> by_cases e : 1 ≤ f.most <;> simp [*]
        · have r := z2b h
          rw [wrap_i64 _ (by omega) (by omega)]
          simp [k3, loS, hiS]
      · by_cases k4 : f.kind = 4
        · refine ⟨0, 0, f.most, z7y f ?_, fun _ => by simp [k4, loS, hiS]⟩
          rw [zea k4]; simp only [z65]
          by_cases a : 0 ≤ f.id <;> by_cases b : f.id ≤ 255 <;> by_cases c : f.lo = 0 <;> by_cases d : f.hi = 0 <;> by_cases e : 0 ≤ f.most <;> simp [*]
        · refine ⟨0, 0, 0, z7y f ?_, fun h => by rw [zeb k1 k2 k3 k4] at h; cases h⟩
          rw [zeb k1 k2 k3 k4]; simp only [z65]
          by_cases a : 0 ≤ f.id <;> simp [*]
theorem zct (f : Fld) : tbl E0 65 [fldV f] [] = some ([.bool (rgtS f)], []) := by
  obtain ⟨lo, hi, most, e, _⟩ := z66 f
  exact zso f (by simp only [zj3, z9, cond_true, za, e, Option.bind_some, u_asC, u_asI, u_asB, u_asN])
theorem zfp (f : Fld) : tbl E0 58 [fldV f] [] = some ([iV (sizeS f)], []) := by
  obtain ⟨lo, hi, most, e, h⟩ := z66 f; refine zvn f ?_; simp only [zm7, z9, cond_true, za, e, Option.bind_some, u_asC, u_asI, u_asB, u_asN]
  cases hr : rgtS f with
  | false => simp [sizeS, hr]
  | true =>
    obtain ⟨rfl, rfl, rfl⟩ := h hr; have r := z2b hr
    by_cases k4 : f.kind = 4
    · rw [if_pos k4, wrap_i64 (1 + f.most) (by omega) (by omega)]
      simp [sizeS, hr, k4, Int.add_comm]
    · have e2 := zwe (hiS f - loS f) (by omega)
      simp only [sizeS, hr, k4, beq_f k4, if_true, if_false, Bool.not_true, cond_false, wrap_i64 (hiS f - loS f) (by omega) (by omega), e2, Option.bind_some, u_asC, u_asI, u_asN]
theorem zu {α : Type} {l r : List α} {i : Nat} {a : α} (h : l.drop i = a :: r) : i < l.length ∧ l[i]? = some a ∧ l.drop (i + 1) = r := by
  have hlt : i < l.length := by
    rcases Nat.lt_or_ge i l.length with h' | h'
    · exact h'
    · rw [List.drop_eq_nil_of_le h'] at h; cases h
  rw [List.drop_eq_getElem_cons hlt] at h; injection h with h1 h2
  exact ⟨hlt, by rw [List.getElem?_eq_getElem hlt, h1], h2⟩
theorem zj {i : Nat} (h : i < 9223372036854775807) : IntKind.i64.wrap ((i : Int) + 1) = ((i + 1 : Nat) : Int) := by rw [wrap_i64 _ (by omega) (by omega)]; omega
theorem zqb (k : Nat) : ∀ n, n < 256 ^ k → wdS n ≤ k := by
  induction k with
  | zero => intro n h; simp at h; subst h; rw [wdS]; simp
  | succ k ih =>
    intro n h; rw [wdS]
    split
    · omega
    · have := ih (n / 256) (by rw [Nat.div_lt_iff_lt_mul (by omega)]; rw [Nat.pow_succ] at h; exact h)
      omega
theorem zai (f : Fld) : 0 ≤ sizeS f ∧ sizeS f ≤ 33 := by
  unfold sizeS
  split
  · rename_i h
    have r := z2b h
    split
    · rename_i k; have := r.2.2.2.2.2.2.2.2.2.1 k; omega
    · have := zqb 6 (hiS f - loS f).toNat (by have e6 : (256 : Nat) ^ 6 = 281474976710656 := (by decide); omega)
      omega
  · omega
theorem zec (f : Fld) (l : List Fld) : longS (f :: l) = sizeS f + longS l := by simp [longS]
theorem zte (l : List Fld) (hl : l.length ≤ 211106232532992) : ∀ (r : List Fld) (i : Nat) (n : Int), l.drop i = r → 0 ≤ n → n ≤ 33 * i →
    ltbl E0 52 0 3 [iV n, fldsV l, iV l.length, iV i] [] = some (1, [iV (n + longS r)], []) := by
  intro r
  induction r with
  | nil =>
    intro i n hr h0 h1
    have h : l.length ≤ i := by simpa using hr
    refine zj7 _ _ _ _ ?_
    have : ¬ ((i : Int) < l.length) := by omega
    simp [zch, this, longS]
  | cons f r ih =>
    intro i n hr h0 h1; obtain ⟨hlt, hget, hr2⟩ := zu hr; have hs := zai f
    have h2 : (i : Int) < l.length := by omega
    have e1 := zj (i := i) (by omega)
    have e2 : IntKind.i64.wrap (n + sizeS f) = n + sizeS f := wrap_i64 _ (by omega) (by omega)
    have h := ih (i + 1) (n + sizeS f) hr2 (by omega) (by omega)
    have c := zwf f; refine zj7 _ _ _ _ ?_; rw [zec, ← Int.add_assoc, ← h]; simp only [zch, h2, decide_true, cond_true, z9, Int.natCast_nonneg, nthE, Int.toNat_natCast, List.getElem?_map, hget, Option.map_some, u_asA, u_asC, u_asI, u_asN, za, c, Option.bind_some, e1, e2]
theorem zmv (f : Frm) (h : f.fields.length ≤ 211106232532992) : tbl E0 52 [frmV f] [] = some ([iV (longS f.fields)], []) :=
  zvo f (by
    have e := zte f.fields h f.fields 0 0 rfl (by omega) (by omega)
    simp only [Int.natCast_zero, Int.zero_add] at e; simp [zm8, e])
theorem ztf (f : Frm) (hl : f.fields.length ≤ 211106232532992) : ∀ (r : List Fld) (i : Nat) (n : Int), f.fields.drop i = r → 0 ≤ n → n ≤ 33 * i →
    ltbl E0 68 0 3 [iV n, iV i] [[iV f.id, fldsV f.fields]] = some (1, [iV (n + longS r)], []) := by
  intro r
  induction r with
  | nil =>
    intro i n hr h0 h1
    have h : f.fields.length ≤ i := by simpa using hr
    refine zj8 _ _ _ ?_
    have : ¬ ((i : Int) < f.fields.length) := by omega
    simp [zci, this, longS]
  | cons x r ih =>
    intro i n hr h0 h1; obtain ⟨hlt, hget, hr2⟩ := zu hr; have hs := zai x
    have h2 : (i : Int) < f.fields.length := by omega
    have e1 := zj (i := i) (by omega)
    have e2 : IntKind.i64.wrap (n + sizeS x) = n + sizeS x := wrap_i64 _ (by omega) (by omega)
    have h := ih (i + 1) (n + sizeS x) hr2 (by omega) (by omega)
    have c := zfp x; refine zj8 _ _ _ ?_; rw [zec, ← Int.add_assoc, ← h]; simp only [zci, zo, List.length_map, h2, decide_true, cond_true, z9, Int.natCast_nonneg, nthE, Int.toNat_natCast, List.getElem?_map, hget, Option.map_some, u_asA, u_asC, u_asI, u_asN, za, c, Option.bind_some, e1, e2]
theorem zwg (f : Frm) (h : f.fields.length ≤ 211106232532992) : tbl E0 68 [frmV f] [] = some ([iV (longS f.fields)], []) :=
  zvp f (by
    have e := ztf f h f.fields 0 0 rfl (by omega) (by omega)
    simp only [Int.natCast_zero, Int.zero_add] at e; simp [zm9, e])
def atS (l : List Fld) (id : Int) : Int := firstS (fun f : Fld => f.id == id) l
def fromS {α : Type} (p : α → Bool) (i : Nat) (l : List α) : LR := match l.findIdx? p with | some j => (0, [iV ((i + j : Nat) : Int)], []) | none => (1, [], [])
theorem zaj {α : Type} (p : α → Bool) (i : Nat) : fromS p i [] = (1, [], []) := rfl
theorem z8p {α : Type} (p : α → Bool) (i : Nat) (a : α) (l : List α) : fromS p i (a :: l) = if p a then (0, [iV (i : Int)], []) else fromS p (i + 1) l := by
  unfold fromS; rw [List.findIdx?_cons]
  cases p a with
  | true => simp
  | false =>
    simp only [Bool.false_eq_true, if_false]
    cases l.findIdx? p with
    | none => rfl
    | some j => simp [Nat.add_assoc, Nat.add_comm 1 j]
theorem zyk (f : Fld) (id : Int) : tbl E0 91 [fldV f, .rp [iV id] 0] [] = some ([.bool (f.id == id)], []) := zy9 f id (by simp [zps])
theorem zjx (l : List Fld) (id : Int) (hl : l.length ≤ 211106232532992) : ∀ (r : List Fld) (i : Nat), l.drop i = r →
    ltbl E0 90 0 2 [fldsV l, .clo 91 [.rp [iV id] 0], iV l.length, iV i] [] = some (fromS (fun f : Fld => f.id == id) i r) := by
  intro r
  induction r with
  | nil =>
    intro i hr
    have h : l.length ≤ i := by simpa using hr
    refine za5 _ _ _ _ ?_
    have : ¬ ((i : Int) < l.length) := by omega
    simp [z6j, this, zaj]
  | cons f r ih =>
    intro i hr; obtain ⟨hlt, hget, hr2⟩ := zu hr
    have h2 : (i : Int) < l.length := by omega
    have e1 := zj (i := i) (by omega)
    have h := ih (i + 1) hr2; have c := zyk f id; refine za5 _ _ _ _ ?_; rw [z8p]; simp only [z6j, h2, decide_true, cond_true, z9, Int.natCast_nonneg, nthE, Int.toNat_natCast, List.getElem?_map, hget, Option.map_some, u_asA, u_asC, u_asI, u_asB, u_asN, za, c, Option.bind_some, e1, h]
    cases f.id == id <;> rfl
theorem c_sAt (f : Frm) (id : Int) (h : f.fields.length ≤ 211106232532992) : tbl E0 50 [frmV f, iV id] [] = some ([iV (atS f.fields id)], []) :=
  t_sAt f id (by
    have e : tbl E0 90 [fldsV f.fields, .clo 91 [.rp [iV id] 0]] [] = some ([iV (atS f.fields id)], []) := zle f.fields id (by
      have e := zjx f.fields id h f.fields 0 rfl; simp only [Int.natCast_zero] at e; simp only [zbq, zo, ze, List.length_map, e, Option.bind_some, fromS, atS, firstS]
      cases f.fields.findIdx? (fun f : Fld => f.id == id) <;> simp)
    simp [s_sAt, e])
theorem zyl (f : Frm) (id : Int) (hl : f.fields.length ≤ 211106232532992) : ∀ (r : List Fld) (i : Nat), f.fields.drop i = r →
    ltbl E0 22 0 2 [iV id, iV i] [[iV f.id, fldsV f.fields]] = some (fromS (fun f : Fld => f.id == id) i r) := by
  intro r
  induction r with
  | nil =>
    intro i hr
    have h : f.fields.length ≤ i := by simpa using hr
    refine zpu _ _ _ ?_
    have : ¬ ((i : Int) < f.fields.length) := by omega
    simp [zj6, this, zaj]
  | cons x r ih =>
    intro i hr; obtain ⟨hlt, hget, hr2⟩ := zu hr
    have h2 : (i : Int) < f.fields.length := by omega
    have e1 := zj (i := i) (by omega)
    have h := ih (i + 1) hr2; refine zpu _ _ _ ?_; rw [z8p]; simp only [zj6, zo, List.length_map, h2, decide_true, cond_true, z9, Int.natCast_nonneg, nthE, Int.toNat_natCast, List.getElem?_map, hget, Option.map_some, u_asA, u_asC, u_asI, u_asB, u_asN, e1, h]
    cases x.id == id <;> rfl
theorem c_yAt (f : Frm) (id : Int) (h : f.fields.length ≤ 211106232532992) : tbl E0 22 [frmV f, iV id] [] = some ([iV (atS f.fields id)], []) :=
  t_yAt f id (by
    have e := zyl f id h f.fields 0 rfl; simp only [Int.natCast_zero] at e; simp only [s_yAt, z9, cond_true, ze, e, Option.bind_some, fromS, atS, firstS]
    cases f.fields.findIdx? (fun f : Fld => f.id == id) <;> simp)
theorem zed (s : List Bool) (k : Nat) (b : Bool) : setAt (s.map AV.bool) k [AV.bool b] = (s.set k b).map AV.bool := by
  simp [setAt, List.map_set]
theorem z94 (s : List Bool) : (s.map AV.bool).all AV.flat1 = true := by
  simp [List.all_map, Function.comp_def, AV.flat1]
def freshS : List Bool → List Fld → Bool
  | _, [] => true
  | s, f :: l => rgtS f && !((s[f.id.toNat]?).getD false) && freshS (s.set f.id.toNat true) l
theorem ztg (l : List Fld) (hl : l.length ≤ 211106232532992) : ∀ (r : List Fld) (i : Nat) (s : List Bool), l.drop i = r → s.length = 256 →
    ltbl E0 51 0 5 [fldsV l, iV l.length, iV i] [s.map AV.bool] = some (if freshS s r then (1, [], []) else (0, [.bool false], [])) := by
  intro r
  induction r with
  | nil =>
    intro i s hr hs
    have h : l.length ≤ i := by simpa using hr
    refine zj9 _ _ _ _ ?_
    have : ¬ ((i : Int) < l.length) := by omega
    simp [zcj, this, freshS]
  | cons f r ih =>
    intro i s hr hs; obtain ⟨hlt, hget, hr2⟩ := zu hr
    have h2 : (i : Int) < l.length := by omega
    have e1 := zj (i := i) (by omega)
    have h := ih (i + 1) (s.set f.id.toNat true) hr2 (by simpa using hs)
    have c := z34 f; refine zj9 _ _ _ _ ?_; simp only [zcj, h2, decide_true, cond_true, z9, Int.natCast_nonneg, nthE, Int.toNat_natCast, List.getElem?_map, hget, Option.map_some, u_asA, u_asC, u_asI, u_asB, u_asN, za, zh, c, Option.bind_some, e1, freshS]
    by_cases hg : rgtS f = true
    · have rr := z2b hg
      have hk : f.id.toNat < s.length := by omega
      have g : s[f.id.toNat]? = some s[f.id.toNat] := List.getElem?_eq_getElem hk; have a1 : 0 ≤ f.id := rr.1
      have a2 : f.id < ((256 : Nat) : Int) := by omega
      have a3 : 0 + f.id.toNat * 1 = f.id.toNat := by omega
      have a4 : (f.id.toNat + 1).ble (List.map AV.bool s).length = true := by rw [Nat.ble_eq, List.length_map]; omega
      simp only [hg, a1, a2, a3, a4, decide_true, Bool.and_self, cond_true, g, Option.map_some, u_asB, Bool.not_true, cond_false, Option.bind_some, Tok.untok_tok, zed, z94, h, Option.getD_some, Bool.true_and]
      by_cases hb : s[f.id.toNat] = true
      · simp [hb]
      · have hb : s[f.id.toNat] = false := by simpa using hb
        simp [hb]
    · have hg : rgtS f = false := by simpa using hg
      simp [hg]
theorem zee : ∀ (l : List Fld) (s : List Bool), s.length = 256 → (freshS s l = true ↔ (∀ f ∈ l, rgtS f = true ∧ s[f.id.toNat]? = some false) ∧ nodupI (l.map Fld.id) = true)
  | [], s, _ => by simp [freshS, nodupI]
  | f :: l, s, hs => by
    have ih := zee l (s.set f.id.toNat true) (by simpa using hs)
    simp only [freshS, Bool.and_eq_true, ih, List.map_cons, nodupI, Bool.not_eq_true', List.mem_cons, forall_eq_or_imp]
    have key : rgtS f = true → ((s[f.id.toNat]?).getD false = false ↔ s[f.id.toNat]? = some false) := by
      intro hg; have rr := z2b hg
      have hk : f.id.toNat < s.length := by omega
      rw [List.getElem?_eq_getElem hk]; simp
    have key2 : rgtS f = true → ∀ g, rgtS g = true → ((s.set f.id.toNat true)[g.id.toNat]? = some false ↔ (s[g.id.toNat]? = some false ∧ g.id ≠ f.id)) := by
      intro hg g hgg; have r1 := z2b hg; have r2 := z2b hgg; rw [List.getElem?_set]
      by_cases e : f.id.toNat = g.id.toNat
      · have e' : g.id = f.id := by omega
        rw [if_pos e, if_pos (by omega)]
        simp [e']
      · have e' : g.id ≠ f.id := by omega
        rw [if_neg e]; simp [e']
    constructor
    · rintro ⟨⟨h1, h2⟩, h3, h4⟩
      refine ⟨⟨⟨h1, (key h1).1 h2⟩, fun g hg => ⟨(h3 g hg).1, ((key2 h1 g (h3 g hg).1).1 (h3 g hg).2).1⟩⟩, ?_, h4⟩; simp only [List.any_map, List.any_eq_false, Function.comp_apply, beq_iff_eq]; intro g hg; exact ((key2 h1 g (h3 g hg).1).1 (h3 g hg).2).2
    · rintro ⟨⟨⟨h1, h2⟩, h3⟩, h4, h5⟩
      refine ⟨⟨h1, (key h1).2 h2⟩, fun g hg => ⟨(h3 g hg).1, (key2 h1 g (h3 g hg).1).2 ⟨(h3 g hg).2, ?_⟩⟩, h5⟩; simp only [List.any_map, List.any_eq_false, Function.comp_apply, beq_iff_eq] at h4; exact h4 g hg
theorem zth (l : List Fld) : freshS (List.replicate 256 false) l = (l.all rgtS && nodupI (l.map Fld.id)) := by
  rw [Bool.eq_iff_iff, zee _ _ List.length_replicate]; simp only [Bool.and_eq_true, List.all_eq_true]; constructor
  · rintro ⟨h1, h2⟩; exact ⟨fun f hf => (h1 f hf).1, h2⟩
  · rintro ⟨h1, h2⟩
    refine ⟨fun f hf => ⟨h1 f hf, ?_⟩, h2⟩; have r := z2b (h1 f hf)
    rw [List.getElem?_replicate, if_pos (by omega)]
set_option maxRecDepth 20000 in
theorem bools256 : (List.replicate 256 false).map AV.bool = [.bool false, .bool false, .bool false, .bool false, .bool false, .bool false, .bool false, .bool false, .bool false, .bool false, .bool false, .bool false, .bool false, .bool false, .bool false, .bool false, .bool false, .bool false, .bool false, .bool false, .bool false, .bool false, .bool false, .bool false, .bool false, .bool false, .bool false, .bool false, .bool false, .bool false, .bool false, .bool false, .bool false, .bool false, .bool false, .bool false, .bool false, .bool false, .bool false, .bool false, .bool false, .bool false, .bool false, .bool false, .bool false, .bool false, .bool false, .bool false, .bool false, .bool false, .bool false, .bool false, .bool false, .bool false, .bool false, .bool false, .bool false, .bool false, .bool false, .bool false, .bool false, .bool false, .bool false, .bool false, .bool false, .bool false, .bool false, .bool false, .bool false, .bool false, .bool false, .bool false, .bool false, .bool false, .bool false, .bool false, .bool false, .bool false, .bool false, .bool false, .bool false, .bool false, .bool false, .bool false, .bool false, .bool false, .bool false, .bool false, .bool false, .bool false, .bool false, .bool false, .bool false, .bool false, .bool false, .bool false, .bool false, .bool false, .bool false, .bool false, .bool false, .bool false, .bool false, .bool false, .bool false, .bool false, .bool false, .bool false, .bool false, .bool false, .bool false, .bool false, .bool false, .bool false, .bool false, .bool false, .bool false, .bool false, .bool false, .bool false, .bool false, .bool false, .bool false, .bool false, .bool false, .bool false, .bool false, .bool false, .bool false, .bool false, .bool false, .bool false, .bool false, .bool false, .bool false, .bool false, .bool false, .bool false, .bool false, .bool false, .bool false, .bool false, .bool false, .bool false, .bool false, .bool false, .bool false, .bool false, .bool false, .bool false, .bool false, .bool false, .bool false, .bool false, .bool false, .bool false, .bool false, .bool false, .bool false, .bool false, .bool false, .bool false, .bool false, .bool false, .bool false, .bool false, .bool false, .bool false, .bool false, .bool false, .bool false, .bool false, .bool false, .bool false, .bool false, .bool false, .bool false, .bool false, .bool false, .bool false, .bool false, .bool false, .bool false, .bool false, .bool false, .bool false, .bool false, .bool false, .bool false, .bool false, .bool false, .bool false, .bool false, .bool false, .bool false, .bool false, .bool false, .bool false, .bool false, .bool false, .bool false, .bool false, .bool false, .bool false, .bool false, .bool false, .bool false, .bool false, .bool false, .bool false, .bool false, .bool false, .bool false, .bool false, .bool false, .bool false, .bool false, .bool false, .bool false, .bool false, .bool false, .bool false, .bool false, .bool false, .bool false, .bool false, .bool false, .bool false, .bool false, .bool false, .bool false, .bool false, .bool false, .bool false, .bool false, .bool false, .bool false, .bool false, .bool false, .bool false, .bool false, .bool false, .bool false, .bool false, .bool false, .bool false, .bool false, .bool false, .bool false, .bool false, .bool false, .bool false, .bool false, .bool false, .bool false, .bool false] := rfl
set_option maxRecDepth 20000 in
theorem z7z (f : Frm) (h : f.fields.length ≤ 211106232532992) : tbl E0 51 [frmV f] [] = some ([.bool (fineS f)], []) :=
  zvq f (by
    have e := ztg f.fields h f.fields 0 (List.replicate 256 false) rfl List.length_replicate; simp only [Int.natCast_zero, zth] at e; rw [bools256] at e; have c := zmv f h; simp only [zma, z9, cond_true, zh, zo, List.length_map, za, c, Option.bind_some, u_asC, u_asI, u_asB, u_asN, ze, e]; unfold fineS
    by_cases a1 : f.id < 0
    · have : ¬ (0 ≤ f.id) := by omega
      simp [a1, this]
    · by_cases a2 : f.id > 200
      · have : ¬ (f.id ≤ 200) := by omega
        simp [a1, a2, this]
      · by_cases a3 : (f.fields.length : Int) < 1
        · have : ¬ (1 ≤ f.fields.length) := by omega
          simp [a1, a2, a3, this]
        · by_cases a4 : (f.fields.length : Int) > 8
          · have : ¬ (f.fields.length ≤ 8) := by omega
            simp [a1, a2, a3, a4, this]
          · by_cases a5 : longS f.fields > 64
            · have : ¬ (longS f.fields ≤ 64) := by omega
              simp [a1, a2, a3, a4, a5, this]
            · have b1 : 0 ≤ f.id ∧ f.id ≤ 200 := by omega
              have b2 : 1 ≤ f.fields.length ∧ f.fields.length ≤ 8 := by omega
              have b3 : longS f.fields ≤ 64 := by omega
              simp only [a1, a2, a3, a4, a5, b1, b2, b3, decide_true, decide_false, cond_false, Option.bind_some, Tok.untok_tok, Bool.true_and, and_self]
              cases (f.fields.all rgtS && nodupI (f.fields.map Fld.id)) <;> simp)
def idxS (l : List Fld) : Nat → List Fld → Bool
  | _, [] => true
  | i, x :: r => rgtS x && decide (atS l x.id = i) && idxS l (i + 1) r
theorem zwh (p r : List Fld) (x : Fld) : atS (p ++ x :: r) x.id = p.length ↔ ∀ f ∈ p, f.id ≠ x.id := by
  unfold atS firstS; constructor
  · intro h f hf e
    have h1 : (p ++ x :: r).findIdx? (fun f : Fld => f.id == x.id) = (p.findIdx? (fun f : Fld => f.id == x.id)).or _ := List.findIdx?_append
    cases h2 : p.findIdx? (fun f : Fld => f.id == x.id) with
    | none =>
      rw [List.findIdx?_eq_none_iff] at h2; have := h2 f hf; simp [e] at this
    | some j =>
      rw [h1, h2] at h; obtain ⟨hj, _⟩ := List.findIdx?_eq_some_iff_getElem.1 h2; simp only [Option.some_or] at h; omega
  · intro h
    have h2 : p.findIdx? (fun f : Fld => f.id == x.id) = none := by
      rw [List.findIdx?_eq_none_iff]; intro f hf
      simpa using h f hf
    rw [List.findIdx?_append, h2, List.findIdx?_cons]; simp
theorem zjy : ∀ (r p : List Fld), idxS (p ++ r) p.length r = true ↔ (∀ x ∈ r, rgtS x = true ∧ ∀ f ∈ p, f.id ≠ x.id) ∧ nodupI (r.map Fld.id) = true
  | [], p => by simp [idxS, nodupI]
  | x :: r, p => by
    have ih := zjy r (p ++ [x]); simp only [List.append_assoc, List.singleton_append, List.length_append, List.length_singleton] at ih; simp only [idxS, Bool.and_eq_true, ih, decide_eq_true_eq, zwh, List.map_cons, nodupI, List.mem_cons, forall_eq_or_imp, Bool.not_eq_true', List.any_map, List.any_eq_false, Function.comp_apply, beq_iff_eq, List.mem_append, List.not_mem_nil, or_false]; constructor
    · rintro ⟨⟨h1, h2⟩, h3, h4⟩
      refine ⟨⟨⟨h1, h2⟩, fun y hy => ⟨(h3 y hy).1, fun f hf => (h3 y hy).2 f (Or.inl hf)⟩⟩, fun y hy e => (h3 y hy).2 x (Or.inr rfl) e.symm, h4⟩
    · rintro ⟨⟨⟨h1, h2⟩, h3⟩, h4, h5⟩
      refine ⟨⟨h1, h2⟩, fun y hy => ⟨(h3 y hy).1, ?_⟩, h5⟩
      rintro f (hf | rfl)
      · exact (h3 y hy).2 f hf
      · exact fun e => h4 y hy e.symm
theorem zym (l : List Fld) : idxS l 0 l = (l.all rgtS && nodupI (l.map Fld.id)) := by
  rw [Bool.eq_iff_iff]; have := zjy l []; simp only [List.nil_append, List.length_nil] at this; rw [this]; simp
theorem zti (f : Frm) (hl : f.fields.length ≤ 211106232532992) : ∀ (r : List Fld) (i : Nat), f.fields.drop i = r →
    ltbl E0 36 0 4 [iV i] [[iV f.id, fldsV f.fields]] = some (if idxS f.fields i r then (1, [], [[iV f.id, fldsV f.fields]]) else (0, [.bool false], [])) := by
  intro r
  induction r with
  | nil =>
    intro i hr
    have h : f.fields.length ≤ i := by simpa using hr
    refine zja _ _ ?_
    have : ¬ ((i : Int) < f.fields.length) := by omega
    simp [zck, this, idxS]
  | cons x r ih =>
    intro i hr; obtain ⟨hlt, hget, hr2⟩ := zu hr
    have h2 : (i : Int) < f.fields.length := by omega
    have e1 := zj (i := i) (by omega)
    have h := ih (i + 1) hr2; have c := zct x; have c2 := c_yAt f x.id hl; refine zja _ _ ?_; simp only [zck, zo, List.length_map, h2, decide_true, cond_true, z9, Int.natCast_nonneg, nthE, Int.toNat_natCast, List.getElem?_map, hget, Option.map_some, u_asA, u_asC, u_asI, u_asB, u_asN, za, c, c2, Option.bind_some, e1, h, idxS]
    by_cases hg : rgtS x = true
    · by_cases ha : atS f.fields x.id = i
      · simp [hg, ha]
      · simp [hg, ha]
    · have hg : rgtS x = false := by simpa using hg
      simp [hg]
theorem zfq (f : Frm) (h : f.fields.length ≤ 211106232532992) : tbl E0 36 [frmV f] [] = some ([.bool (fineS f)], []) :=
  zvr f (by
    have e := zti f h f.fields 0 rfl; simp only [Int.natCast_zero, zym] at e; have c := zwg f h; simp only [zmb, z9, cond_true, zh, zo, List.length_map, za, c, Option.bind_some, u_asC, u_asI, u_asB, u_asL, u_asN, ze, e]; unfold fineS
    by_cases a1 : f.id < 0
    · have : ¬ (0 ≤ f.id) := by omega
      simp [a1, this]
    · by_cases a2 : f.id > 200
      · have : ¬ (f.id ≤ 200) := by omega
        simp [a1, a2, this]
      · by_cases a3 : (f.fields.length : Int) < 1
        · have : ¬ (1 ≤ f.fields.length) := by omega
          simp [a1, a2, a3, this]
        · by_cases a4 : (f.fields.length : Int) > 8
          · have : ¬ (f.fields.length ≤ 8) := by omega
            simp [a1, a2, a3, a4, this]
          · have b1 : 0 ≤ f.id ∧ f.id ≤ 200 := by omega
            have b2 : 1 ≤ f.fields.length ∧ f.fields.length ≤ 8 := by omega
            simp only [a1, a2, a3, a4, b1, b2, decide_true, decide_false, cond_false, Option.bind_some, Tok.untok_tok, Bool.true_and, and_self]
            cases f.fields.all rgtS <;> cases nodupI (f.fields.map Fld.id) <;> simp [c])
theorem bor (b : Bool) : b = true ∨ b = false := by cases b <;> simp
def Sml (s : Sch) : Prop := s.forms.length ≤ 211106232532992 ∧ ∀ f ∈ s.forms, f.fields.length ≤ 211106232532992
theorem zcu {α : Type} {l r : List α} {i : Nat} {a : α} (h : l.drop i = a :: r) : a ∈ l := List.mem_of_mem_drop (h ▸ List.mem_cons_self : a ∈ l.drop i)
theorem zqd (l : List Frm) (hl : l.length ≤ 211106232532992) (hf : ∀ f ∈ l, f.fields.length ≤ 211106232532992) : ∀ (r : List Frm) (i : Nat) (last : Int), l.drop i = r →
    ltbl E0 40 0 5 [iV last, frmsV l, iV l.length, iV i] [] = some (if risingS last r then (1, [], []) else (0, [.bool false], [])) := by
  intro r
  induction r with
  | nil =>
    intro i last hr
    have h : l.length ≤ i := by simpa using hr
    refine zgn _ _ _ _ ?_
    have : ¬ ((i : Int) < l.length) := by omega
    simp [za2, this, risingS]
  | cons f r ih =>
    intro i last hr; obtain ⟨hlt, hget, hr2⟩ := zu hr
    have h2 : (i : Int) < l.length := by omega
    have e1 := zj (i := i) (by omega)
    have h := ih (i + 1) f.id hr2; have c := z7z f (hf f (zcu hr)); refine zgn _ _ _ _ ?_; simp only [za2, h2, decide_true, cond_true, z9, Int.natCast_nonneg, nthE, Int.toNat_natCast, List.getElem?_map, hget, Option.map_some, u_asA, u_asC, u_asI, u_asB, u_asL, u_asN, za, zh, c, Option.bind_some, e1, h, risingS]
    by_cases a : f.id ≤ last
    · have : ¬ (last < f.id) := by omega
      rcases bor (fineS f) with hb | hb <;> simp [hb, a, this]
    · have b : last < f.id := by omega
      rcases bor (fineS f) with hb | hb <;> simp [hb, a, b]
theorem zjz (s : Sch) (h : Sml s) : tbl E0 40 [schV s] [] = some ([.bool (schS s)], []) :=
  zsp s (by
    have e := zqd s.forms h.1 h.2 s.forms 0 (-1) rfl; simp only [Int.natCast_zero] at e; simp only [zj4, z9, cond_true, zh, zo, List.length_map, Option.bind_some, u_asC, u_asI, u_asB, u_asN, ze, e]; unfold schS
    by_cases a1 : s.ver < 1
    · have : ¬ (1 ≤ s.ver) := by omega
      simp [a1, this]
    · by_cases a2 : s.ver > 65535
      · have : ¬ (s.ver ≤ 65535) := by omega
        simp [a1, a2, this]
      · by_cases a4 : (s.forms.length : Int) > 8
        · have : ¬ (s.forms.length ≤ 8) := by omega
          simp [a1, a2, a4, this]
        · have b1 : 1 ≤ s.ver ∧ s.ver ≤ 65535 := by omega
          have b2 : s.forms.length ≤ 8 := by omega
          simp only [a1, a2, a4, b1, b2, decide_true, decide_false, cond_false, Option.bind_some, Tok.untok_tok, Bool.true_and, and_self]
          rcases bor (risingS (-1) s.forms) with hb | hb <;> simp [hb])
def riseS (l : List Frm) : Nat → List Frm → Bool
  | _, [] => true
  | i, f :: r => fineS f && (i == 0 || (match l[i - 1]? with | some g => decide (g.id < f.id) | none => false)) && riseS l (i + 1) r
theorem zk0 : ∀ (r : List Frm) (p : List Frm) (g : Frm), riseS (p ++ g :: r) (p.length + 1) r = risingS g.id r
  | [], p, g => rfl
  | f :: r, p, g => by
    have ih := zk0 r (p ++ [g]) f; simp only [List.append_assoc, List.singleton_append, List.length_append, List.length_singleton] at ih; simp [riseS, risingS, ih]
theorem zwi (l : List Frm) : riseS l 0 l = risingS (-1) l := by
  cases l with
  | nil => rfl
  | cons f r =>
    have h := zk0 r [] f; simp only [List.nil_append, List.length_nil, Nat.zero_add] at h; simp only [riseS, h, risingS, beq_self_eq_true, Bool.true_or, Bool.and_true, Nat.zero_add]
    by_cases hf : fineS f = true
    · have : -1 < f.id := by
        unfold fineS at hf; simp only [Bool.and_eq_true, decide_eq_true_eq] at hf; omega
      simp [this]
    · have hf : fineS f = false := by simpa using hf
      simp [hf]
theorem zo9 (s : Sch) (hs : Sml s) : ∀ (r : List Frm) (i : Nat), s.forms.drop i = r →
    ltbl E0 29 0 4 [iV i] [[iV s.ver, frmsV s.forms]] = some (if riseS s.forms i r then (1, [], []) else (0, [.bool false], [])) := by
  have hl := hs.1; intro r
  induction r with
  | nil =>
    intro i hr
    have h : s.forms.length ≤ i := by simpa using hr
    refine ze2 _ _ ?_
    have : ¬ ((i : Int) < s.forms.length) := by omega
    simp [z5x, this, riseS]
  | cons f r ih =>
    intro i hr; obtain ⟨hlt, hget, hr2⟩ := zu hr
    have h2 : (i : Int) < s.forms.length := by omega
    have e1 := zj (i := i) (by omega)
    have h := ih (i + 1) hr2; have c := zfq f (hs.2 f (zcu hr)); refine ze2 _ _ ?_
    by_cases i0 : i = 0
    · subst i0
      simp only [Int.natCast_zero] at h2; simp only [z5x, zo, List.length_map, Int.natCast_zero, h2, decide_true, cond_true, z9, Int.natCast_nonneg, nthE, Int.toNat_natCast, Int.toNat_zero, Int.le_refl, List.getElem?_map, hget, Option.map_some, u_asA, u_asC, u_asI, u_asB, u_asL, u_asN, za, c, Option.bind_some, riseS]; simp only [Int.natCast_zero] at e1
      rcases bor (fineS f) with hb | hb
      · simp only [Int.zero_add, Nat.zero_add] at e1 h
        simp [hb]; rw [e1]; exact h
      · simp [hb]
    · have g0 : (i : Int) > 0 := by omega
      have g1 : IntKind.i64.wrap ((i : Int) - 1) = ((i - 1 : Nat) : Int) := by rw [wrap_i64 _ (by omega) (by omega)]; omega
      have g2 : s.forms[i - 1]? = some (s.forms[i - 1]'(by omega)) := List.getElem?_eq_getElem _
      simp only [z5x, zo, List.length_map, h2, decide_true, cond_true, z9, Int.natCast_nonneg, nthE, Int.toNat_natCast, List.getElem?_map, hget, Option.map_some, u_asA, u_asC, u_asI, u_asB, u_asL, u_asN, za, c, Option.bind_some, riseS, g0, g1, g2, e1, h, beq_f i0, Bool.false_or]
      rcases bor (fineS f) with hb | hb
      rotate_left
      · simp [hb]
      · by_cases a : (s.forms[i - 1]'(by omega)).id ≥ f.id
        · have b : ¬ ((s.forms[i - 1]'(by omega)).id < f.id) := by omega
          simp [hb, a, b]
        · have b : (s.forms[i - 1]'(by omega)).id < f.id := by omega
          simp [hb, a, b]
theorem zh4 (s : Sch) (h : Sml s) : tbl E0 29 [schV s] [] = some ([.bool (schS s)], []) :=
  zpt s (by
    have e := zo9 s h s.forms 0 rfl; simp only [Int.natCast_zero, zwi] at e; simp only [zgl, z9, cond_true, zh, zo, List.length_map, Option.bind_some, u_asC, u_asI, u_asB, u_asN, ze, e]; unfold schS
    by_cases a1 : s.ver < 1
    · have : ¬ (1 ≤ s.ver) := by omega
      simp [a1, this]
    · by_cases a2 : s.ver > 65535
      · have : ¬ (s.ver ≤ 65535) := by omega
        simp [a1, a2, this]
      · by_cases a4 : (s.forms.length : Int) > 8
        · have : ¬ (s.forms.length ≤ 8) := by omega
          simp [a1, a2, a4, this]
        · have b1 : 1 ≤ s.ver ∧ s.ver ≤ 65535 := by omega
          have b2 : s.forms.length ≤ 8 := by omega
          simp only [a1, a2, a4, b1, b2, decide_true, decide_false, cond_false, Option.bind_some, Tok.untok_tok, Bool.true_and, and_self]
          rcases bor (risingS (-1) s.forms) with hb | hb <;> simp [hb])
def big (f : Frm) : Bool := decide (40 < f.fields.length)
theorem ztj (s : Sch) (id : Int) (hs : Sml s) : ∀ (r : List Frm) (i : Nat), s.forms.drop i = r →
    ltbl E0 13 0 2 [iV id, iV i] [[iV s.ver, frmsV s.forms]] = some (fromS (fun f : Frm => f.id == id) i r) := by
  have hl := hs.1; intro r
  induction r with
  | nil =>
    intro i hr
    have h : s.forms.length ≤ i := by simpa using hr
    refine zjc _ _ _ ?_
    have : ¬ ((i : Int) < s.forms.length) := by omega
    simp [zcm, this, zaj]
  | cons x r ih =>
    intro i hr; obtain ⟨hlt, hget, hr2⟩ := zu hr
    have h2 : (i : Int) < s.forms.length := by omega
    have e1 := zj (i := i) (by omega)
    have h := ih (i + 1) hr2; refine zjc _ _ _ ?_; rw [z8p]; simp only [zcm, zo, List.length_map, h2, decide_true, cond_true, z9, Int.natCast_nonneg, nthE, Int.toNat_natCast, List.getElem?_map, hget, Option.map_some, u_asA, u_asC, u_asI, u_asB, u_asL, u_asN, e1, h]
    cases x.id == id <;> rfl
def findS (l : List Frm) (id : Int) : Int := firstS (fun f : Frm => f.id == id) l
theorem zbc (s : Sch) (id : Int) (h : Sml s) : tbl E0 13 [schV s, iV id] [] = some ([iV (findS s.forms id)], []) :=
  zvt s id (by
    have e := ztj s id h s.forms 0 rfl; simp only [Int.natCast_zero] at e; simp only [zmc, z9, cond_true, ze, e, Option.bind_some, fromS, findS, firstS]
    cases s.forms.findIdx? (fun f : Frm => f.id == id) <;> simp)
theorem ztk (l : List Frm) (id : Int) (hl : l.length ≤ 211106232532992) : ∀ (r : List Frm) (i : Nat), l.drop i = r →
    ltbl E0 27 0 2 [iV id, frmsV l, iV l.length, iV i] [[iV 0, fldsV []]] = some (match r.find? (fun f : Frm => f.id == id) with | some f => (0, [.bool true], [[iV f.id, fldsV f.fields]]) | none => (1, [], [[iV 0, fldsV []]])) := by
  intro r
  induction r with
  | nil =>
    intro i hr
    have h : l.length ≤ i := by simpa using hr
    refine zjb l ⟨0, []⟩ id _ _ ?_
    have : ¬ ((i : Int) < l.length) := by omega
    simp [zcl, this]
  | cons x r ih =>
    intro i hr; obtain ⟨hlt, hget, hr2⟩ := zu hr
    have h2 : (i : Int) < l.length := by omega
    have e1 := zj (i := i) (by omega)
    have h := ih (i + 1) hr2; refine zjb l ⟨0, []⟩ id _ _ ?_; rw [List.find?_cons]; simp only [zcl, h2, decide_true, cond_true, z9, Int.natCast_nonneg, nthE, Int.toNat_natCast, List.getElem?_map, hget, Option.map_some, u_asA, u_asC, u_asI, u_asB, u_asL, u_asN, e1, h]
    rcases bor (x.id == id) with hb | hb <;> simp only [hb, cond_true, cond_false]
def formS (l : List Frm) (id : Int) : Option Frm := l.find? (fun f : Frm => f.id == id)
theorem zbd (s : Sch) (id : Int) (h : Sml s) : tbl E0 27 [schV s, iV id] [] = some (match formS s.forms id with | some f => [frmV f, .bool true] | none => [frmV ⟨0, []⟩, .bool false], []) :=
  zvs s id (by
    have e := ztk s.forms id h.1 s.forms 0 rfl; unfold formS
    cases hf : s.forms.find? (fun f : Frm => f.id == id) with
    | none =>
      rw [hf] at e; simp only [fldsV, frmsV, List.map_nil, Int.natCast_zero] at e; simp [zfi, e]
    | some f =>
      rw [hf] at e; simp only [fldsV, frmsV, List.map_nil, Int.natCast_zero] at e; simp [zfi, e])
theorem z25 (l : List Frm) (id : Int) : (∃ j f, formS l id = some f ∧ findS l id = (j : Nat) ∧ l[j]? = some f) ∨ (formS l id = none ∧ findS l id = -1) := by
  unfold formS findS firstS
  cases h : l.findIdx? (fun f : Frm => f.id == id) with
  | none =>
    right; refine ⟨?_, rfl⟩; rw [List.findIdx?_eq_none_iff] at h; rw [List.find?_eq_none]; intro x hx; simp [h x hx]
  | some j =>
    left; obtain ⟨hj, h1, h2⟩ := List.findIdx?_eq_some_iff_getElem.1 h; refine ⟨j, l[j], ?_, rfl, List.getElem?_eq_getElem hj⟩; rw [List.find?_eq_some_iff_getElem]
    exact ⟨h1, j, hj, rfl, fun k hk => by simpa using h2 k hk⟩
theorem zk1 (a b : Fld) : (a.id == b.id && (a.kind == b.kind && (a.lo == b.lo && (a.hi == b.hi && (a.most == b.most && true))))) = decide (a = b) := by
  rw [Bool.eq_iff_iff]
  cases a; cases b
  simp
theorem zqe (a b : List Fld) (hl : a.length ≤ 211106232532992) (hab : a.length = b.length) : ∀ (r r' : List Fld) (i : Nat), a.drop i = r → b.drop i = r' →
    ltbl E0 103 0 4 [fldsV a, fldsV b, iV a.length, iV i] [] = some (if r = r' then (1, [], []) else (0, [.bool false], [])) := by
  intro r
  induction r with
  | nil =>
    intro r' i hr hr'
    have h : a.length ≤ i := by simpa using hr
    have : r' = [] := by rw [← hr']; simp; omega
    subst this; refine zgo _ _ _ _ ?_
    have : ¬ ((i : Int) < a.length) := by omega
    simp [za3, this]
  | cons x r ih =>
    intro r' i hr hr'; obtain ⟨hlt, hget, hr2⟩ := zu hr
    cases r' with
    | nil => simp at hr'; omega
    | cons y r' =>
      obtain ⟨_, hget', hr2'⟩ := zu hr'
      have h2 : (i : Int) < a.length := by omega
      have e1 := zj (i := i) (by omega)
      have h := ih r' (i + 1) hr2 hr2'; refine zgo _ _ _ _ ?_; simp only [za3, zo, List.length_map, h2, decide_true, cond_true, z9, Int.natCast_nonneg, nthE, Int.toNat_natCast, List.getElem?_map, hget, hget', Option.map_some, u_asA, u_asC, u_asI, u_asB, u_asL, u_asN, e1, h, zk1]
      by_cases e : x = y
      · simp [e]
      · simp [e]
theorem ztl (a b : List Fld) (h : a.length ≤ 211106232532992) : tbl E0 103 [fldsV a, fldsV b] [] = some ([.bool (decide (a = b))], []) :=
  zsq a b (by
    simp only [zj5, zo, List.length_map, ze]
    by_cases hab : a.length = b.length
    · have e := zqe a b h hab a b 0 rfl rfl
      simp only [Int.natCast_zero] at e
      have h' : ((a.length : Int) != (b.length : Int)) = false := by rw [hab]; simp
      rw [h', cond_false, e]
      by_cases e2 : a = b <;> simp [e2]
    · have : ¬ (a = b) := fun e => hab (by rw [e])
      have h' : ((a.length : Int) != (b.length : Int)) = true := bne_t (by omega)
      rw [h']; simp [this])
end V
namespace V
theorem z3k (f : Frm) : fineS f = true ↔ (0 ≤ f.id ∧ f.id ≤ 200) ∧ (1 ≤ f.fields.length ∧ f.fields.length ≤ 8) ∧ longS f.fields ≤ 64 ∧ (∀ x ∈ f.fields, rgtS x = true) ∧ nodupI (f.fields.map Fld.id) = true := by
  unfold fineS; simp only [Bool.and_eq_true, decide_eq_true_eq, List.all_eq_true, and_assoc]
theorem z3a : ∀ (l : List Frm) (n : Int), risingS n l = true → ∀ f ∈ l, fineS f = true
  | [], n, _, f, hf => by cases hf
  | g :: l, n, h, f, hf => by
    simp only [risingS, Bool.and_eq_true] at h
    rcases List.mem_cons.1 hf with rfl | hf
    · exact h.1.1
    · exact z3a l _ h.2 f hf
end V
namespace V
def Stp.ok (x : Stp) : Prop := i64 x.op ∧ i64 x.form ∧ i64 x.field ∧ i64 x.place ∧ i64 x.to ∧ i64 x.a ∧ i64 x.b ∧ x.f.ok ∧ i64 x.n ∧ (∀ n ∈ x.t, i64 n) ∧ ∀ f ∈ x.fields, f.ok
def Stp.sml (x : Stp) : Prop := x.t.length ≤ 211106232532992 ∧ x.fields.length ≤ 211106232532992
def opsL : List Int := [1, 2, 3, 4, 5, 6, 7, 8, 9, 10, 21, 22, 23, 24, 25, 26, 27, 28, 29, 30]
def usesS (op : Int) : List Int :=
  if op = 1 then [0, 2, 6, 7] else if op = 22 then [0, 2, 6, 7] else if op = 2 then [0, 1, 7] else if op = 3 then [0, 1, 6] else if op = 23 then [0, 1, 6]
  else if op = 4 then [0, 1, 5] else if op = 24 then [0, 1, 5, 6] else if op = 5 then [0, 1, 4, 8] else if op = 25 then [0, 1, 8] else if op = 6 then [0, 1, 4, 3]
  else if op = 26 then [0, 1, 4, 3, 6] else if op = 7 then [0, 1, 2] else if op = 27 then [0, 1, 2] else if op = 8 then [0, 1, 3] else if op = 28 then [0, 1, 3]
  else if op = 9 then [0, 9] else if op = 30 then [0, 9] else if op = 10 then [0] else if op = 29 then [0] else if op = 21 then [0, 1] else []
def hasS (op p : Int) : Bool := (usesS op).contains p
def inS (n lo hi : Int) : Bool := decide (lo ≤ n) && decide (n ≤ hi)
def longestS (f : Fld) : Int := if f.kind = 4 then f.most else 0
def hasV (f : Fld) (n : Int) (s : List UInt8) : Bool := rgtS f && (inS n (loS f) (hiS f) && decide ((s.length : Int) ≤ longestS f))
def apartS (l : List Int) (below : Int) : Bool := (l.all fun n => inS n 0 (below - 1)) && nodupI l && decide (1 ≤ l.length ∧ l.length ≤ 64)
def fitsS (x : Stp) (p : Int) : Bool :=
  if p = 0 then inS x.form 0 200 else if p = 1 then inS x.field 0 255 else if p = 2 then inS x.place 0 8 else if p = 3 then inS x.to 0 255 && x.to != x.field
  else if p = 4 then (if x.op = 5 then inS x.a 1 1000 else inS x.a 2 1048576)
  else if p = 5 then inS x.a (-1048576) 1048576 && (x.a != 0 && inS x.b (-1099511627776) 1099511627776)
  else if p = 6 then rgtS x.f && (x.op == 1 || (x.op == 22 || x.f.id == x.field))
  else if p = 7 then (if x.op = 2 then inS x.n (-1099511627776) 1099511627776 && decide ((x.s.length : Int) ≤ 32) else hasV x.f x.n x.s)
  else if p = 8 then apartS x.t (if x.op = 5 then x.a else 1000)
  else fineS ⟨x.form, x.fields⟩
def fld0 : Fld := ⟨0, 0, 0, 0, 0⟩
def onlyS (x : Stp) : Stp :=
  ⟨x.op, if hasS x.op 0 then x.form else 0, if hasS x.op 1 then x.field else 0, if hasS x.op 2 then x.place else 0, if hasS x.op 3 then x.to else 0,
    if hasS x.op 4 || hasS x.op 5 then x.a else 0, if hasS x.op 5 then x.b else 0, if hasS x.op 6 then x.f else fld0, if hasS x.op 7 then x.n else 0, if hasS x.op 7 then x.s else [],
    if hasS x.op 8 then x.t else [], if hasS x.op 9 then x.fields else []⟩
def tRightS (x : Stp) : Bool := (usesS x.op).all (fitsS x) && (!(usesS x.op).isEmpty && decide (x = onlyS x))
def zeroS (x : Stp) : Bool :=
  (hasS x.op 1 || x.field == 0) && ((hasS x.op 2 || x.place == 0) && ((hasS x.op 3 || x.to == 0) && ((hasS x.op 4 || (hasS x.op 5 || x.a == 0)) && ((hasS x.op 5 || x.b == 0) &&
    ((hasS x.op 6 || decide (x.f = fld0)) && ((hasS x.op 7 || (x.n == 0 && x.s == [])) && ((hasS x.op 8 || x.t.isEmpty) && (hasS x.op 9 || x.fields.isEmpty))))))))
def numbersS (x : Stp) : Bool :=
  if x.op = 4 ∨ x.op = 24 then inS x.a (-1048576) 1048576 && (x.a != 0 && inS x.b (-1099511627776) 1099511627776)
  else if x.op = 6 ∨ x.op = 26 then inS x.a 2 1048576
  else if x.op = 5 then inS x.a 1 1000 && apartS x.t x.a
  else if x.op = 25 then apartS x.t 1000 else true
def ytRightS (x : Stp) : Bool :=
  !(usesS x.op).isEmpty && (zeroS x && (inS x.form 0 200 && (inS x.field 0 255 && (inS x.place 0 8 && (inS x.to 0 255 && (numbersS x &&
    (!(hasS x.op 3 && x.to == x.field) && (!(hasS x.op 6 && !rgtS x.f) && (!(hasS x.op 6 && (hasS x.op 1 && x.f.id != x.field)) &&
      (!(x.op == 2 && !(inS x.n (-1099511627776) 1099511627776 && decide ((x.s.length : Int) ≤ 32))) && (!(hasS x.op 2 && (hasS x.op 7 && !hasV x.f x.n x.s)) && (!hasS x.op 9 || fineS ⟨x.form, x.fields⟩))))))))))))
theorem op_in (op : Int) : op ∈ opsL ∨ (op ∉ opsL ∧ usesS op = []) := by
  by_cases h : op ∈ opsL
  · exact .inl h
  · refine .inr ⟨h, ?_⟩
    simp only [opsL, List.mem_cons, List.not_mem_nil, or_false, not_or] at h; obtain ⟨h1, h2, h3, h4, h5, h6, h7, h8, h9, h10, h11, h12, h13, h14, h15, h16, h17, h18, h19, h20⟩ := h; simp only [usesS, h1, h2, h3, h4, h5, h6, h7, h8, h9, h10, h11, h12, h13, h14, h15, h16, h17, h18, h19, h20, if_false]
theorem z4u {p : Int → Prop} (op : Int) (h : ∀ o ∈ opsL, p o) (h0 : op ∉ opsL → usesS op = [] → p op) : p op := by
  rcases op_in op with h1 | ⟨h1, h2⟩
  · exact h op h1
  · exact h0 h1 h2
theorem zqi (x : Stp) : tRightS x = ytRightS x := by
  obtain ⟨op, form, field, place, to, a, b, f, n, s, t, fields⟩ := x; refine z4u (p := fun op => tRightS ⟨op, form, field, place, to, a, b, f, n, s, t, fields⟩ = ytRightS ⟨op, form, field, place, to, a, b, f, n, s, t, fields⟩) op ?_ ?_
  · intro o ho
    simp only [opsL, List.mem_cons, List.not_mem_nil, or_false] at ho
    rcases ho with rfl | rfl | rfl | rfl | rfl | rfl | rfl | rfl | rfl | rfl | rfl | rfl | rfl | rfl | rfl | rfl | rfl | rfl | rfl | rfl <;>
    · simp [tRightS, ytRightS, usesS, fitsS, onlyS, zeroS, numbersS, hasS, inS, List.isEmpty_iff]
      rw [Bool.eq_iff_iff]; simp only [Bool.and_eq_true, Bool.or_eq_true, decide_eq_true_eq, Bool.not_eq_true', beq_iff_eq, bne_iff_ne, ne_eq]
      constructor <;> (intro h; simp_all) <;> (try omega) <;> grind
  · intro _ h
    simp [tRightS, ytRightS, h]
theorem zei (x : Stp) : ∀ (i : Nat) (p : Int), (usesS x.op)[i]? = some p → p = 8 → ((usesS x.op).take i).all (fitsS x) = true → 1 ≤ (if x.op = 5 then x.a else 1000) ∧ (if x.op = 5 then x.a else 1000) ≤ 1000 := by
  intro i p h1 h2 h3
  by_cases ho : x.op = 5
  · subst h2
    have hu : usesS x.op = [0, 1, 4, 8] := by rw [ho]; rfl
    rw [hu] at h1 h3
    match i, h1, h3 with
    | 3, _, h3 =>
      simp [fitsS, ho, inS] at h3; simp only [ho, if_true]; omega
    | 0, h1, _ => simp at h1
    | 1, h1, _ => simp at h1
    | 2, h1, _ => simp at h1
    | n + 4, h1, _ => simp at h1
  · simp [ho]
theorem ztp (op : Int) : (usesS op).length ≤ 5 := by
  refine z4u (p := fun op => (usesS op).length ≤ 5) op ?_ ?_
  · decide
  · intro _ h; simp [h]
theorem zap {x : Stp} (h : fineS ⟨x.form, x.fields⟩ = true) : x.fields.length ≤ 8 ∧ ∀ f ∈ x.fields, rgtS f = true := by
  obtain ⟨_, h2, _, h4, _⟩ := (z3k _).1 h; exact ⟨h2.2, h4⟩
def Fits (x : Stp) (p : Int) : Prop := (0 ≤ p ∧ p ≤ 9) ∧ fitsS x p = true ∧ (p = 8 → (if x.op = 5 then x.a else 1000) ≤ 1000)
theorem ztr (op : Int) : ∀ p ∈ usesS op, 0 ≤ p ∧ p ≤ 9 := by
  refine z4u (p := fun op => ∀ p ∈ usesS op, 0 ≤ p ∧ p ≤ 9) op ?_ ?_
  · decide
  · intro _ h; simp [h]
theorem z3t {x : Stp} (h : tRightS x = true) : (∀ p ∈ usesS x.op, Fits x p) ∧ x.op ∈ opsL ∧ x = onlyS x := by
  simp only [tRightS, Bool.and_eq_true, List.all_eq_true, decide_eq_true_eq, Bool.not_eq_true', List.isEmpty_eq_false_iff] at h; obtain ⟨h1, h2, h3⟩ := h; refine ⟨fun p hp => ⟨ztr _ p hp, h1 p hp, fun h8 => ?_⟩, ?_, h3⟩
  · obtain ⟨i, hi, e⟩ := List.mem_iff_getElem.1 hp
    exact (zei x i p (by rw [← e]; exact List.getElem?_eq_getElem hi) h8 (List.all_eq_true.2 fun q hq => h1 q (List.mem_of_mem_take hq))).2
  · rcases op_in x.op with h | ⟨_, h⟩
    · exact h
    · exact absurd h h2
end V
namespace V
set_option maxRecDepth 20000 in
theorem zmx (op : Int) : tbl E0 75 [iV op] [] = some ([intsV (usesS op)], []) := by
  refine z4u (p := fun op => tbl E0 75 [iV op] [] = some ([intsV (usesS op)], [])) op ?_ ?_
  · intro o ho
    simp only [opsL, List.mem_cons, List.not_mem_nil, or_false] at ho
    rcases ho with rfl | rfl | rfl | rfl | rfl | rfl | rfl | rfl | rfl | rfl | rfl | rfl | rfl | rfl | rfl | rfl | rfl | rfl | rfl | rfl <;> exact z4b.2 ⟨12, by kernel_rfl⟩
  · intro h hu
    simp only [opsL, List.mem_cons, List.not_mem_nil, or_false, not_or] at h; obtain ⟨h1, h2, h3, h4, h5, h6, h7, h8, h9, h10, h11, h12, h13, h14, h15, h16, h17, h18, h19, h20⟩ := h
    have cB : ltbl E0 75 0 1000009 [iV op, .bool false] [] = some (50001, [], []) := zss op false (by simp [zje, h1, h2, h3, h4, h5, h6, h7, h8, h9, h10, h11, h12, h13, h14, h15, h16, h17, h18, h19, h20])
    have cA : ltbl E0 75 0 1000004 [iV op, .bool false] [] = some (50001, [], []) := zsr op false (by
      have : (op == 23) = false := beq_f h13; simp [zjd, h1, h2, h3, this, cB])
    have : (op == 22) = false := beq_f h12
    exact zvu op (by simp [zmd, h1, this, cA, hu])
set_option maxRecDepth 20000 in
theorem zmy (op : Int) : ∃ s : List UInt8, tbl E0 60 [iV op] [] = some ([.str s], []) ∧ s = (usesS op).map (fun p => if p = 0 then 102 else if p = 1 then 100 else if p = 2 then 112 else if p = 3 then 116 else if p = 4 then 97 else if p = 5 then 98 else if p = 6 then 70 else if p = 7 then 86 else if p = 8 then 84 else 76) := by
  refine ⟨_, ?_, rfl⟩
  refine z4u (p := fun op => tbl E0 60 [iV op] [] = some ([.str ((usesS op).map (fun p => if p = 0 then 102 else if p = 1 then 100 else if p = 2 then 112 else if p = 3 then 116 else if p = 4 then 97 else if p = 5 then 98 else if p = 6 then 70 else if p = 7 then 86 else if p = 8 then 84 else 76))], [])) op ?_ ?_
  · intro o ho
    simp only [opsL, List.mem_cons, List.not_mem_nil, or_false] at ho
    rcases ho with rfl | rfl | rfl | rfl | rfl | rfl | rfl | rfl | rfl | rfl | rfl | rfl | rfl | rfl | rfl | rfl | rfl | rfl | rfl | rfl <;> exact z4b.2 ⟨12, by kernel_rfl⟩
  · intro h hu
    simp only [opsL, List.mem_cons, List.not_mem_nil, or_false, not_or] at h; obtain ⟨h1, h2, h3, h4, h5, h6, h7, h8, h9, h10, h11, h12, h13, h14, h15, h16, h17, h18, h19, h20⟩ := h
    have cB : ltbl E0 60 0 1000009 [iV op, .bool false] [] = some (50001, [], []) := zsy op false (by simp [zjk, h1, h2, h3, h4, h5, h6, h7, h8, h9, h10, h11, h12, h13, h14, h15, h16, h17, h18, h19, h20])
    have cA : ltbl E0 60 0 1000004 [iV op, .bool false] [] = some (50001, [], []) := zsx op false (by
      have : (op == 23) = false := beq_f h13; simp [zjj, h1, h2, h3, this, cB])
    have : (op == 22) = false := beq_f h12
    exact zvy op (by simp [zmh, h1, this, cA, hu])
theorem c_tin (n lo hi : Int) : tbl E0 100 [iV n, iV lo, iV hi] [] = some ([.bool (inS n lo hi)], []) := t_tin n lo hi (by
  by_cases h : lo ≤ n <;> simp [s_tin, inS, h])
theorem z8r (n lo hi : Int) : tbl E0 62 [iV n, iV lo, iV hi] [] = some ([.bool (inS n lo hi)], []) := zo4 n lo hi (by
  by_cases h : lo ≤ n <;> simp [ze3, inS, h])
theorem zof (f : Fld) : ∃ hi, tbl E0 94 [fldV f] [] = some ([iV (loS f), iV hi], []) ∧ (rgtS f = true → hi = hiS f) := by
  by_cases h : f.kind = 3 → rgtS f = true
  · exact ⟨_, z4d f h, fun _ => rfl⟩
  · rw [Classical.not_imp] at h
    refine ⟨_, zgm f (by simp [za1, h.1, loS]; rfl), fun hr => absurd hr h.2⟩
theorem zas (f : Fld) (n : Int) (s : List UInt8) : tbl E0 72 [fldV f, .agg [iV n, .str s]] [] = some ([.bool (hasV f n s)], []) := by
  obtain ⟨hi, hb, hh⟩ := zof f; have c := z34 f; refine zya f n s ?_; simp only [zpv, z9, cond_true, za, hb, c, Option.bind_some, u_asC, u_asI, u_asB, u_asN, zh, zo, hasV, longestS, inS]
  by_cases hr : rgtS f = true
  · have := hh hr
    subst this
    by_cases k : f.kind = 4 <;> by_cases a : loS f ≤ n <;> by_cases b : n ≤ hiS f <;> simp [hr, k, a, b]
  · have hr : rgtS f = false := by simpa using hr
    by_cases k : f.kind = 4 <;> simp [hr, k]
theorem zk8 (f : Fld) (n : Int) (s : List UInt8) : tbl E0 37 [fldV f, .agg [iV n, .str s]] [] = some ([.bool (hasV f n s)], []) := by
  obtain ⟨lo, hi, most, hb, hh⟩ := z66 f; refine zyb f n s ?_; simp only [zpw, z9, cond_true, za, hb, Option.bind_some, u_asC, u_asI, u_asB, u_asN, zh, zo, hasV, longestS, inS]
  by_cases hr : rgtS f = true
  · obtain ⟨rfl, rfl, rfl⟩ := hh hr
    by_cases k : f.kind = 4 <;> by_cases a : loS f ≤ n <;> by_cases b : n ≤ hiS f <;> simp [hr, k, a, b]
  · have hr : rgtS f = false := by simpa using hr
    simp [hr]
theorem zqm (a b : List Int) (hl : a.length ≤ 211106232532992) (hab : a.length = b.length) : ∀ (r r' : List Int) (i : Nat), a.drop i = r → b.drop i = r' →
    ltbl E0 102 0 4 [intsV a, intsV b, iV a.length, iV i] [] = some (if r = r' then (1, [], []) else (0, [.bool false], [])) := by
  intro r
  induction r with
  | nil =>
    intro r' i hr hr'
    have h : a.length ≤ i := by simpa using hr
    have : r' = [] := by rw [← hr']; simp; omega
    subst this; refine zgs _ _ _ _ ?_
    have : ¬ ((i : Int) < a.length) := by omega
    simp [za8, this]
  | cons x r ih =>
    intro r' i hr hr'; obtain ⟨hlt, hget, hr2⟩ := zu hr
    cases r' with
    | nil => simp at hr'; omega
    | cons y r' =>
      obtain ⟨_, hget', hr2'⟩ := zu hr'
      have h2 : (i : Int) < a.length := by omega
      have e1 := zj (i := i) (by omega)
      have h := ih r' (i + 1) hr2 hr2'; refine zgs _ _ _ _ ?_; simp only [za8, zo, List.length_map, h2, decide_true, cond_true, z9, Int.natCast_nonneg, nthE, Int.toNat_natCast, List.getElem?_map, hget, hget', Option.map_some, u_asA, u_asC, u_asI, u_asB, u_asL, u_asN, e1, h]
      by_cases e : x = y
      · simp [e]
      · simp [e]
theorem ztv (a b : List Int) (h : a.length ≤ 211106232532992) : tbl E0 102 [intsV a, intsV b] [] = some ([.bool (decide (a = b))], []) :=
  zsw a b (by
    simp only [zji, zo, List.length_map, ze]
    by_cases hab : a.length = b.length
    · have e := zqm a b h hab a b 0 rfl rfl
      simp only [Int.natCast_zero] at e
      have h' : ((a.length : Int) != (b.length : Int)) = false := by rw [hab]; simp
      rw [h', cond_false, e]
      by_cases e2 : a = b <;> simp [e2]
    · have : ¬ (a = b) := fun e => hab (by rw [e])
      have h' : ((a.length : Int) != (b.length : Int)) = true := bne_t (by omega)
      rw [h']; simp [this])
def freshI (below : Int) : List Bool → List Int → Bool
  | _, [] => true
  | s, n :: l => inS n 0 (below - 1) && !((s[n.toNat]?).getD false) && freshI below (s.set n.toNat true) l
theorem zqn (l : List Int) (below : Int) (hb : 1 ≤ below ∧ below ≤ 1000) (hl : l.length ≤ 211106232532992) : ∀ (r : List Int) (i : Nat) (s : List Bool), l.drop i = r → s.length = 1000 →
    ltbl E0 101 0 3 [intsV l, iV below, intsV l, iV l.length, iV i] [s.map AV.bool] = some (if freshI below s r then (1, [intsV l], []) else (0, [.bool false], [])) := by
  intro r
  induction r with
  | nil =>
    intro i s hr hs
    have h : l.length ≤ i := by simpa using hr
    refine zgq _ _ _ _ _ ?_
    have : ¬ ((i : Int) < l.length) := by omega
    simp [za6, this, freshI]
  | cons f r ih =>
    intro i s hr hs; obtain ⟨hlt, hget, hr2⟩ := zu hr
    have h2 : (i : Int) < l.length := by omega
    have e1 := zj (i := i) (by omega)
    have h := ih (i + 1) (s.set f.toNat true) hr2 (by simpa using hs)
    have w : IntKind.i64.wrap (below - 1) = below - 1 := wrap_i64 _ (by omega) (by omega)
    have c := c_tin f 0 (below - 1); refine zgq _ _ _ _ _ ?_; simp only [za6, h2, decide_true, cond_true, z9, Int.natCast_nonneg, nthE, Int.toNat_natCast, List.getElem?_map, hget, Option.map_some, u_asA, u_asC, u_asI, u_asB, u_asN, za, zh, w, c, Option.bind_some, e1, freshI]
    by_cases hg : inS f 0 (below - 1) = true
    · have rr : 0 ≤ f ∧ f ≤ below - 1 := by simpa [inS] using hg
      have hk : f.toNat < s.length := by omega
      have g : s[f.toNat]? = some s[f.toNat] := List.getElem?_eq_getElem hk; have a1 : 0 ≤ f := rr.1
      have a2 : f < ((1000 : Nat) : Int) := by omega
      have a3 : 0 + f.toNat * 1 = f.toNat := by omega
      have a4 : (f.toNat + 1).ble (List.map AV.bool s).length = true := by rw [Nat.ble_eq, List.length_map]; omega
      simp only [hg, a1, a2, a3, a4, decide_true, Bool.and_self, cond_true, g, Option.map_some, u_asB, Bool.not_true, cond_false, Option.bind_some, Tok.untok_tok, zed, z94, h, Option.getD_some, Bool.true_and]
      by_cases hb : s[f.toNat] = true
      · simp [hb]
      · have hb : s[f.toNat] = false := by simpa using hb
        simp [hb]
    · have hg : inS f 0 (below - 1) = false := by simpa using hg
      simp [hg]
theorem zep (below : Int) (hb : below ≤ 1000) : ∀ (l : List Int) (s : List Bool), s.length = 1000 → (freshI below s l = true ↔ (∀ n ∈ l, inS n 0 (below - 1) = true ∧ s[n.toNat]? = some false) ∧ nodupI l = true)
  | [], s, _ => by simp [freshI, nodupI]
  | f :: l, s, hs => by
    have ih := zep below hb l (s.set f.toNat true) (by simpa using hs)
    simp only [freshI, Bool.and_eq_true, ih, nodupI, Bool.not_eq_true', List.mem_cons, forall_eq_or_imp]
    have rng : ∀ {n : Int}, inS n 0 (below - 1) = true → 0 ≤ n ∧ n < 1000 := fun {n} h => by
      have : 0 ≤ n ∧ n ≤ below - 1 := by simpa [inS] using h
      omega
    have key : inS f 0 (below - 1) = true → ((s[f.toNat]?).getD false = false ↔ s[f.toNat]? = some false) := by
      intro hg; have rr := rng hg
      have hk : f.toNat < s.length := by omega
      rw [List.getElem?_eq_getElem hk]; simp
    have key2 : inS f 0 (below - 1) = true → ∀ g, inS g 0 (below - 1) = true → ((s.set f.toNat true)[g.toNat]? = some false ↔ (s[g.toNat]? = some false ∧ g ≠ f)) := by
      intro hg g hgg; have r1 := rng hg; have r2 := rng hgg; rw [List.getElem?_set]
      by_cases e : f.toNat = g.toNat
      · have e' : g = f := by omega
        rw [if_pos e, if_pos (by omega)]
        simp [e']
      · have e' : g ≠ f := by omega
        rw [if_neg e]; simp [e']
    constructor
    · rintro ⟨⟨h1, h2⟩, h3, h4⟩
      refine ⟨⟨⟨h1, (key h1).1 h2⟩, fun g hg => ⟨(h3 g hg).1, ((key2 h1 g (h3 g hg).1).1 (h3 g hg).2).1⟩⟩, ?_, h4⟩; simp only [List.any_eq_false, beq_iff_eq]; intro g hg; exact ((key2 h1 g (h3 g hg).1).1 (h3 g hg).2).2
    · rintro ⟨⟨⟨h1, h2⟩, h3⟩, h4, h5⟩
      refine ⟨⟨h1, (key h1).2 h2⟩, fun g hg => ⟨(h3 g hg).1, (key2 h1 g (h3 g hg).1).2 ⟨(h3 g hg).2, ?_⟩⟩, h5⟩; simp only [List.any_eq_false, beq_iff_eq] at h4; exact h4 g hg
theorem ztw (below : Int) (hb : below ≤ 1000) (l : List Int) : freshI below (List.replicate 1000 false) l = ((l.all fun n => inS n 0 (below - 1)) && nodupI l) := by
  rw [Bool.eq_iff_iff, zep _ hb _ _ List.length_replicate]; simp only [Bool.and_eq_true, List.all_eq_true]; constructor
  · rintro ⟨h1, h2⟩; exact ⟨fun f hf => (h1 f hf).1, h2⟩
  · rintro ⟨h1, h2⟩
    refine ⟨fun f hf => ⟨h1 f hf, ?_⟩, h2⟩
    have r : 0 ≤ f ∧ f ≤ below - 1 := by simpa [inS] using h1 f hf
    rw [List.getElem?_replicate, if_pos (by omega)]
theorem zk9 (l : List Int) (below : Int) (hb : 1 ≤ below ∧ below ≤ 1000) (hl : l.length ≤ 211106232532992) : tbl E0 101 [intsV l, iV below] [] = some ([.bool (apartS l below)], []) :=
  zsu l below (by
    have e := zqn l below hb hl l 0 (List.replicate 1000 false) rfl List.length_replicate; simp only [Int.natCast_zero, ztw _ hb.2] at e; have c := c_tin (l.length : Int) 1 64
    have e2 : inS (l.length : Int) 1 64 = decide (1 ≤ l.length ∧ l.length ≤ 64) := by
      simp only [inS, Bool.decide_and]
      congr 1 <;> exact decide_eq_decide.2 (by omega)
    simp only [List.map_replicate] at e; simp only [zjg, zo, z9, cond_true, ze, List.length_map, e]
    · unfold apartS
      cases hx : ((l.all fun n => inS n 0 (below - 1)) && nodupI l) with
      | true => simp [c, e2]
      | false => simp)
set_option maxRecDepth 20000 in
theorem zwm (x : Stp) : tbl E0 78 [stpV x] [] = some ([stpV (onlyS x)], []) := by
  obtain ⟨op, form, field, place, to, a, b, f, n, s, t, fields⟩ := x; refine z4u (p := fun op => tbl E0 78 [stpV ⟨op, form, field, place, to, a, b, f, n, s, t, fields⟩] [] = some ([stpV (onlyS ⟨op, form, field, place, to, a, b, f, n, s, t, fields⟩)], [])) op ?_ ?_
  · intro o ho
    simp only [opsL, List.mem_cons, List.not_mem_nil, or_false] at ho
    rcases ho with rfl | rfl | rfl | rfl | rfl | rfl | rfl | rfl | rfl | rfl | rfl | rfl | rfl | rfl | rfl | rfl | rfl | rfl | rfl | rfl <;> exact z4b.2 ⟨20, by kernel_rfl⟩
  · intro h hu
    have c := zmx op; rw [hu] at c
    have e2 : ltbl E0 78 0 3 [intsV [], iV 0, iV 0] [stpC ⟨op, form, field, place, to, a, b, f, n, s, t, fields⟩, stpC ⟨0, 0, 0, 0, 0, 0, 0, fld0, 0, [], [], []⟩, stpC ⟨op, 0, 0, 0, 0, 0, 0, fld0, 0, [], [], []⟩] = some (1, [], [stpC ⟨0, 0, 0, 0, 0, 0, 0, fld0, 0, [], [], []⟩, stpC ⟨op, 0, 0, 0, 0, 0, 0, fld0, 0, [], [], []⟩]) := zst _ _ _ [] 0 0 (by simp [zjf])
    refine zvv _ ?_; simp only [zme, z9, cond_true, za, c, Option.bind_some, u_asC, u_asL, u_asN, zo, ze, List.map_nil, List.length_nil, Int.natCast_zero, stpC, fld0, intsV, fldsV] at e2 ⊢; rw [e2]; simp [onlyS, hasS, hu, fld0]
theorem wrap0 {a b : Int} (ha : i64 a) (hb : i64 b) : (IntKind.i64.wrap (a - b) == 0) = (a == b) := by
  have : IntKind.i64.wrap (a - b) = (a - b + 9223372036854775808) % 18446744073709551616 - 9223372036854775808 := by rw [IntKind.wrap_i64]
  rw [this, Bool.eq_iff_iff, beq_iff_eq, beq_iff_eq]; unfold i64 at ha hb; omega
theorem zyw (x y : Stp) : decide (x = y) = ((decide (x.t = y.t) && decide (x.fields = y.fields)) && ((x.op == y.op && (x.form == y.form && (x.field == y.field && (x.place == y.place && (x.to == y.to && (x.a == y.a && x.b == y.b)))))) && (decide (x.f = y.f) && (x.n == y.n && x.s == y.s)))) := by
  obtain ⟨op, form, field, place, to, a, b, f, n, s, t, fields⟩ := x; obtain ⟨op', form', field', place', to', a', b', f', n', s', t', fields'⟩ := y; rw [Bool.eq_iff_iff]; simp only [decide_eq_true_eq, Bool.and_eq_true, beq_iff_eq, Stp.mk.injEq]; constructor
  · rintro ⟨rfl, rfl, rfl, rfl, rfl, rfl, rfl, rfl, rfl, rfl, rfl, rfl⟩; simp
  · rintro ⟨⟨rfl, rfl⟩, ⟨rfl, rfl, rfl, rfl, rfl, rfl, rfl⟩, rfl, rfl, rfl⟩; simp
theorem zwn (x y : Stp) (hx : x.ok) (hy : y.ok) (hs : x.sml) : tbl E0 77 [stpV x, stpV y] [] = some ([.bool (decide (x = y))], []) :=
  zvx x y (by
    obtain ⟨h1, h2, h3, h4, h5, h6, h7, _⟩ := hx; obtain ⟨g1, g2, g3, g4, g5, g6, g7, _⟩ := hy; have c1 := ztv x.t y.t hs.1; have c2 := ztl x.fields y.fields hs.2; simp only [zmg, z9, cond_true, za, c1, c2, Option.bind_some, u_asC, u_asB, u_asN, zh, wrap0 h1 g1, wrap0 h2 g2, wrap0 h3 g3, wrap0 h4 g4, wrap0 h5 g5, wrap0 h6 g6, wrap0 h7 g7, zk1]; simp only [Bool.and_true, zyw]; generalize (x.op == y.op && (x.form == y.form && (x.field == y.field && (x.place == y.place && (x.to == y.to && (x.a == y.a && x.b == y.b)))))) = p
    generalize (x.n == y.n && x.s == y.s) = q
    cases decide (x.t = y.t) <;> cases decide (x.fields = y.fields) <;> cases p <;> cases decide (x.f = y.f) <;> simp)
theorem zwo (x : Stp) (p : Int) (hp : p = 8 → 1 ≤ (if x.op = 5 then x.a else 1000) ∧ (if x.op = 5 then x.a else 1000) ≤ 1000) (hs : x.sml) : tbl E0 76 [stpV x, iV p] [] = some ([.bool (fitsS x p)], []) := by
  have i1 := c_tin; have i2 := z34 x.f; have i3 := zas x.f x.n x.s; have i4 := z7z ⟨x.form, x.fields⟩ hs.2; refine zvw x p ?_; unfold zmf fitsS; simp only [z9, cond_true, zsj, za, zh, zo]
  by_cases h0 : p = 0
  · simp only [h0, if_true, i1, Option.bind_some, u_asC, u_asB, u_asN]
  by_cases h1 : p = 1
  · simp [h1, i1]
  by_cases h2 : p = 2
  · simp [h2, i1]
  by_cases h3 : p = 3
  · simp only [h3, i1]
    cases inS x.to 0 255 <;> by_cases e : x.to = x.field <;> simp [e]
  by_cases h4 : p = 4
  · by_cases ho : x.op = 5
    · cases hi : inS x.a 1 1000 <;> simp [h4, i1, ho, hi]
    · simp [h4, i1, ho]
  by_cases h5 : p = 5
  · cases hi : inS x.a (-1048576) 1048576
    · simp [h5, i1, hi]
    · by_cases ha : x.a = 0
      · rw [ha] at hi; simp [h5, i1, hi, ha]
      · simp [h5, i1, hi, ha]
  by_cases h6 : p = 6
  · by_cases o1 : x.op = 1
    · cases hr : rgtS x.f <;> simp [h6, o1, i2, hr]
    · by_cases o2 : x.op = 22
      · cases hr : rgtS x.f <;> simp [h6, o2, i2, hr]
      · cases hr : rgtS x.f <;> simp [h6, o1, o2, beq_f o2, i2, hr]
  by_cases h7 : p = 7
  · by_cases ho : x.op = 2
    · cases hi : inS x.n (-1099511627776) 1099511627776 <;> simp [h7, ho, i1, hi]
    · simp [h7, ho, i3]
  by_cases h8 : p = 8
  · have hb := hp h8
    simp only [h8]
    by_cases ho : x.op = 5
    · simp only [ho, if_true] at hb ⊢
      have c := zk9 x.t x.a hb hs.1; simp [c]
    · simp only [ho, if_false] at hb ⊢
      have c := zk9 x.t 1000 (by omega) hs.1
      simp [c]
  · simp [h0, h1, h2, h3, h4, h5, h6, h7, h8, i4]
theorem zqo (x : Stp) (hs : x.sml) (l : List Int) (q : List Int) (hl : l.length ≤ 5) (hb : ∀ (i : Nat) (p : Int), l[i]? = some p → p = 8 → (l.take i).all (fitsS x) = true → 1 ≤ (if x.op = 5 then x.a else 1000) ∧ (if x.op = 5 then x.a else 1000) ≤ 1000) : ∀ (r : List Int) (i : Nat), l.drop i = r → (l.take i).all (fitsS x) = true →
    ltbl E0 41 0 3 [intsV q, intsV l, iV l.length, iV i] [stpC x] = some (if r.all (fitsS x) then (1, [intsV q], [stpC x]) else (0, [.bool false], [])) := by
  intro r
  induction r with
  | nil =>
    intro i hr ht
    have h : l.length ≤ i := by simpa using hr
    refine zgr _ _ _ _ _ ?_
    have : ¬ ((i : Int) < l.length) := by omega
    simp [za7, this]
  | cons p r ih =>
    intro i hr ht; obtain ⟨hlt, hget, hr2⟩ := zu hr
    have h2 : (i : Int) < l.length := by omega
    have e1 := zj (i := i) (by omega)
    have c := zwo x p (fun h8 => hb i p hget h8 ht) hs; refine zgr _ _ _ _ _ ?_; simp only [za7, h2, decide_true, cond_true, z9, Int.natCast_nonneg, nthE, Int.toNat_natCast, List.getElem?_map, hget, Option.map_some, u_asA, u_asC, u_asI, u_asB, u_asN, za, c, Option.bind_some, e1]
    cases hf : fitsS x p with
    | false => simp [hf]
    | true =>
      have ht2 : (l.take (i + 1)).all (fitsS x) = true := by
        rw [List.take_add_one, hget]; simp [hf]
        simpa using ht
      have h := ih (i + 1) hr2 ht2; simp only [Bool.not_true, cond_false, h, List.all_cons, hf, Bool.true_and]
theorem zwp {x : Stp} (hx : x.ok) : (onlyS x).ok := by
  obtain ⟨h1, h2, h3, h4, h5, h6, h7, h8, h9, h10, h11⟩ := hx
  have z : i64 0 := by unfold i64; omega
  unfold onlyS
  refine ⟨h1, ?_, ?_, ?_, ?_, ?_, ?_, ?_, ?_, ?_, ?_⟩ <;> dsimp only <;> split
  all_goals first
    | assumption
    | exact ⟨z, z, z, z, z⟩
    | simp
theorem ztx (x : Stp) (hx : x.ok) (hs : x.sml) : tbl E0 41 [stpV x] [] = some ([.bool (tRightS x)], []) := by
  have c := zmx x.op; have e := zqo x hs (usesS x.op) (usesS x.op) (ztp _) (zei x) (usesS x.op) 0 rfl rfl; have c2 := zwm x; have c3 := zwn x (onlyS x) hx (zwp hx) hs; simp only [Int.natCast_zero] at e; refine zsv x ?_; simp only [zjh, z9, cond_true, za, c, Option.bind_some, u_asC, u_asL, u_asN, zo, ze, List.length_map, tRightS]; simp only [stpC] at e; rw [e]
  cases hf : (usesS x.op).all (fitsS x) with
  | false => simp
  | true =>
    cases hu : usesS x.op with
    | nil => simp
    | cons p l =>
      simp only [stpV, stpC] at c2 c3; simp [c2, c3]
def letterS (p : Int) : Int := if p = 0 then 102 else if p = 1 then 100 else if p = 2 then 112 else if p = 3 then 116 else if p = 4 then 97 else if p = 5 then 98 else if p = 6 then 70 else if p = 7 then 86 else if p = 8 then 84 else 76
set_option maxRecDepth 50000 in
theorem zty : (opsL.map fun o => [(0 : Int), 1, 2, 3, 4, 5, 6, 7, 8, 9].map fun p => (G E0 12).1 64 [iV o, .int .u8 (letterS p)] []) = (opsL.map fun o => [(0 : Int), 1, 2, 3, 4, 5, 6, 7, 8, 9].map fun p => some ([.bool (hasS o p)], [])) := by kernel_rfl
theorem z4v (op p : Int) (hp : p ∈ [(0 : Int), 1, 2, 3, 4, 5, 6, 7, 8, 9]) : tbl E0 64 [iV op, .int .u8 (letterS p)] [] = some ([.bool (hasS op p)], []) := by
  refine z4u (p := fun op => tbl E0 64 [iV op, .int .u8 (letterS p)] [] = some ([.bool (hasS op p)], [])) op ?_ ?_
  · intro o ho
    have h1 := List.map_inj_left.1 zty o ho; exact z4b.2 ⟨12, List.map_inj_left.1 h1 p hp⟩
  · intro h hu
    obtain ⟨s, c, hs⟩ := zmy op; rw [hu] at hs; simp only [List.map_nil] at hs; subst hs
    have e : ltbl E0 64 0 3 [.int .u8 (letterS p), .str [], iV 0] [] = some (1, [], []) := zvz _ _ _ (by simp [zmi])
    exact zyc _ _ (by simp [zpx, c, e, hasS, hu])
theorem c_yh (op : Int) : (tbl E0 64 [iV op, .int .u8 100] [] = some ([.bool (hasS op 1)], []) ∧ tbl E0 64 [iV op, .int .u8 112] [] = some ([.bool (hasS op 2)], []) ∧ tbl E0 64 [iV op, .int .u8 116] [] = some ([.bool (hasS op 3)], [])) ∧
    (tbl E0 64 [iV op, .int .u8 97] [] = some ([.bool (hasS op 4)], []) ∧ tbl E0 64 [iV op, .int .u8 98] [] = some ([.bool (hasS op 5)], []) ∧ tbl E0 64 [iV op, .int .u8 70] [] = some ([.bool (hasS op 6)], [])) ∧
    (tbl E0 64 [iV op, .int .u8 86] [] = some ([.bool (hasS op 7)], []) ∧ tbl E0 64 [iV op, .int .u8 84] [] = some ([.bool (hasS op 8)], []) ∧ tbl E0 64 [iV op, .int .u8 76] [] = some ([.bool (hasS op 9)], [])) :=
  ⟨⟨z4v op 1 (by simp), z4v op 2 (by simp), z4v op 3 (by simp)⟩, ⟨z4v op 4 (by simp), z4v op 5 (by simp), z4v op 6 (by simp)⟩, ⟨z4v op 7 (by simp), z4v op 8 (by simp), z4v op 9 (by simp)⟩⟩
theorem zfs (a b : Bool) : (bif a then true else b) = (a || b) := by cases a <;> rfl
theorem zbe (a b : Bool) : (bif a then b else false) = (a && b) := by cases a <;> rfl
theorem zft (a b x : Bool) : (bif a then x else (b && x)) = ((a || b) && x) := by cases a <;> simp
theorem zmz (a b : Bool) : (bif !a then true else b) = (!a || b) := by cases a <;> rfl
theorem zwq (x : Stp) : tbl E0 61 [stpV x] [] = some ([.bool (zeroS x)], []) := by
  obtain ⟨⟨h1, h2, h3⟩, ⟨h4, h5, h6⟩, ⟨h7, h8, h9⟩⟩ := c_yh x.op; refine zw0 x ?_; have ft : decide (x.f = fld0) = (x.f.id == 0 && (x.f.kind == 0 && (x.f.lo == 0 && (x.f.hi == 0 && (x.f.most == 0 && true))))) := (zk1 x.f fld0).symm; simp only [zmj, z9, cond_true, za, h1, h2, h3, h4, h5, h6, h7, h8, h9, Option.bind_some, u_asC, u_asB, u_asN, zh, zo, List.length_map, zeroS, ft]; generalize (x.f.id == 0 && (x.f.kind == 0 && (x.f.lo == 0 && (x.f.hi == 0 && (x.f.most == 0 && true))))) = bf
  have ht : ((x.t.length : Int) == 0) = x.t.isEmpty := by cases x.t <;> simp; omega
  have hl : ((x.fields.length : Int) == 0) = x.fields.isEmpty := by cases x.fields <;> simp; omega
  simp only [z30, Option.bind_some, Tok.untok_tok, zfs, zbe, zft, ht, hl, Bool.and_true, Bool.and_assoc]
theorem zqp (l : List Int) (below : Int) (i : Nat) (n : Int) (hn : l[i]? = some n) (hl : l.length ≤ 211106232532992) : ∀ (d k : Nat), k + d = i →
    ltbl E0 99 0 7 [intsV l, iV below, iV i, iV k] [] = some (if ((l.take i).drop k).any (fun y => y == n) then (0, [.bool false], []) else (3, [intsV l, iV below, iV i], [])) := by
  obtain ⟨hi, _⟩ := List.getElem?_eq_some_iff.1 hn; intro d
  induction d with
  | zero =>
    intro k hk
    have h1 : ¬ ((k : Int) < i) := by omega
    have h2 : (l.take i).drop k = [] := by rw [List.drop_eq_nil_iff, List.length_take]; omega
    exact zgu _ _ _ _ (by simp [zaa, h1, h2])
  | succ d ih =>
    intro k hk
    have h := ih (k + 1) (by omega)
    have h1 : (k : Int) < i := by omega
    have hk2 : k < l.length := by omega
    have e1 := zj (i := k) (by omega)
    have hg : l[k]? = some l[k] := List.getElem?_eq_getElem hk2
    have h2 : (l.take i).drop k = l[k] :: (l.take i).drop (k + 1) := by
      rw [List.drop_eq_getElem_cons (by rw [List.length_take]; omega), List.getElem_take]
    refine zgu _ _ _ _ ?_; simp only [zaa, h1, decide_true, cond_true, z9, Int.natCast_nonneg, nthE, Int.toNat_natCast, List.getElem?_map, hg, hn, Option.map_some, u_asI, e1, h, h2, List.any_cons]
    by_cases hq : l[k] = n <;> simp [hq]
def idxI (below : Int) (l : List Int) : Nat → List Int → Bool
  | _, [] => true
  | i, n :: r => (inS n 0 (below - 1) && !((l.take i).any fun y => y == n)) && idxI below l (i + 1) r
theorem zqq (l : List Int) (below : Int) (hb : 1 ≤ below ∧ below ≤ 1000) (hl : l.length ≤ 211106232532992) : ∀ (r : List Int) (i : Nat), l.drop i = r →
    ltbl E0 99 0 2 [intsV l, iV below, iV i] [] = some (if idxI below l i r then (1, [intsV l], []) else (0, [.bool false], [])) := by
  intro r
  induction r with
  | nil =>
    intro i hr
    have h : l.length ≤ i := by simpa using hr
    refine zgt _ _ _ ?_
    have : ¬ ((i : Int) < l.length) := by omega
    simp [za9, this, idxI]
  | cons n r ih =>
    intro i hr; obtain ⟨hlt, hget, hr2⟩ := zu hr
    have h2 : (i : Int) < l.length := by omega
    have e1 := zj (i := i) (by omega)
    have h := ih (i + 1) hr2
    have ew : IntKind.i64.wrap (below - 1) = below - 1 := wrap_i64 _ (by omega) (by omega)
    have c := z8r n 0 (below - 1)
    have c2 := zqp l below i n hget hl i 0 (by omega)
    simp only [Int.natCast_zero, List.drop_zero] at c2; refine zgt _ _ _ ?_; simp only [za9, zo, List.length_map, h2, decide_true, cond_true, z9, Int.natCast_nonneg, nthE, Int.toNat_natCast, List.getElem?_map, hget, Option.map_some, u_asC, u_asI, u_asB, u_asN, za, c, ew, Option.bind_some, ze, c2, e1, h, idxI]
    rcases bor (inS n 0 (below - 1)) with hq | hq
    · rcases bor ((l.take i).any (fun y => y == n)) with hp | hp
      · simp [hq, hp]
      · simpa [hq, hp, e1] using h
    · simp [hq]
theorem zka (below : Int) : ∀ (r p : List Int), idxI below (p ++ r) p.length r = true ↔ (∀ n ∈ r, inS n 0 (below - 1) = true ∧ ∀ y ∈ p, y ≠ n) ∧ nodupI r = true
  | [], p => by simp [idxI, nodupI]
  | n :: r, p => by
    have ih := zka below r (p ++ [n]); simp only [List.append_assoc, List.singleton_append, List.length_append, List.length_singleton] at ih; simp only [idxI, Bool.and_eq_true, ih, nodupI, List.mem_cons, forall_eq_or_imp, Bool.not_eq_true', List.any_eq_false, beq_iff_eq, List.mem_append, List.not_mem_nil, or_false, List.take_left']; constructor
    · rintro ⟨⟨h1, h2⟩, h3, h4⟩
      refine ⟨⟨⟨h1, h2⟩, fun y hy => ⟨(h3 y hy).1, fun f hf => (h3 y hy).2 f (Or.inl hf)⟩⟩, fun y hy e => (h3 y hy).2 n (Or.inr rfl) e.symm, h4⟩
    · rintro ⟨⟨⟨h1, h2⟩, h3⟩, h4, h5⟩
      refine ⟨⟨h1, h2⟩, fun y hy => ⟨(h3 y hy).1, ?_⟩, h5⟩
      rintro f (hf | rfl)
      · exact (h3 y hy).2 f hf
      · exact fun e => h4 y hy e.symm
theorem zyx (below : Int) (l : List Int) : idxI below l 0 l = ((l.all fun n => inS n 0 (below - 1)) && nodupI l) := by
  rw [Bool.eq_iff_iff]; have := zka below l []; simp only [List.nil_append, List.length_nil] at this; rw [this]; simp
theorem zkb (l : List Int) (below : Int) (hb : 1 ≤ below ∧ below ≤ 1000) (hl : l.length ≤ 211106232532992) : tbl E0 99 [intsV l, iV below] [] = some ([.bool (apartS l below)], []) :=
  zsz l below (by
    have e := zqq l below hb hl l 0 rfl; simp only [Int.natCast_zero, zyx] at e; simp only [zjl, ze, e, apartS]
    cases ((l.all fun n => inS n 0 (below - 1)) && nodupI l) with
    | false => simp
    | true =>
      by_cases a : 1 ≤ l.length
      · have a2 : (l.length : Int) ≥ 1 := by omega
        by_cases b : l.length ≤ 64
        · have b2 : (l.length : Int) ≤ 64 := by omega
          simp [a, a2, b, b2]
        · have b2 : ¬ ((l.length : Int) ≤ 64) := by omega
          simp [a, a2, b, b2]
      · have a2 : ¬ ((l.length : Int) ≥ 1) := by omega
        simp [a, a2])
theorem zog (x : Stp) (hs : x.t.length ≤ 211106232532992) : tbl E0 63 [stpV x] [] = some ([.bool (numbersS x)], []) :=
  zo5 x (by
    have i1 := z8r
    have i3 := zkb x.t 1000 (by omega) hs
    simp only [ze4, z9, cond_true, za, zh, i1, i3, Option.bind_some, u_asC, u_asB, u_asN, numbersS]
    by_cases h4 : x.op = 4
    · simp only [h4]
      cases inS x.a (-1048576) 1048576 <;> cases inS x.b (-1099511627776) 1099511627776 <;> by_cases ha : x.a = 0 <;> simp [ha]
    · by_cases h24 : x.op = 24
      · simp only [h24]
        cases inS x.a (-1048576) 1048576 <;> cases inS x.b (-1099511627776) 1099511627776 <;> by_cases ha : x.a = 0 <;> simp [ha]
      · have f4 : (x.op == 4) = false := beq_f h4
        have f24 : (x.op == 24) = false := beq_f h24
        by_cases h6 : x.op = 6
        · simp [h6]
        · have f6 : (x.op == 6) = false := beq_f h6
          by_cases h26 : x.op = 26
          · simp [h26]
          · have f26 : (x.op == 26) = false := beq_f h26
            by_cases h5 : x.op = 5
            · cases hi : inS x.a 1 1000 with
              | false => simp [h5, hi]
              | true =>
                have hb : 1 ≤ x.a ∧ x.a ≤ 1000 := by simpa [inS] using hi
                have i2 := zkb x.t x.a hb hs; simp [h5, hi, i2]
            · have f5 : (x.op == 5) = false := beq_f h5
              by_cases h25 : x.op = 25 <;> simp [h4, h24, h6, h26, h5, h25, f4, f24, f6, f26, f5])
theorem zyy (p q : Bool) : (bif p then some ([AV.bool false], []) else some ([AV.bool q], []) : Option CR) = some ([AV.bool (!p && q)], []) := by cases p <;> rfl
theorem zkc (p a b : Bool) : (bif p then a || b else b) = ((p && a) || b) := by cases p <;> rfl
theorem zqr (x : Stp) (hs : x.sml) : tbl E0 30 [stpV x] [] = some ([.bool (ytRightS x)], []) := by
  obtain ⟨⟨h1, h2, h3⟩, ⟨h4, h5, h6⟩, ⟨h7, h8, h9⟩⟩ := c_yh x.op; obtain ⟨s, cu, hu⟩ := zmy x.op; have cz := zwq x; have cn := zog x hs.1; have cr := zct x.f; have ch := zk8 x.f x.n x.s; have cf := zfq ⟨x.form, x.fields⟩ hs.2
  have he : (s == []) = (usesS x.op).isEmpty := by rw [hu]; cases usesS x.op <;> simp
  refine zpy x ?_; simp only [stpV, stpC, fldV, fldC, frmV, intsV, fldsV] at cz cn cr ch cf; simp only [zgp, z9, cond_true, za, cu, cz, cn, cr, ch, cf, h1, h2, h3, h4, h5, h6, h7, h8, h9, z8r, Option.bind_some, u_asC, u_asB, u_asS, u_asN, zh, zo, he, ytRightS]; simp only [z30, Option.bind_some, Tok.untok_tok, zfs, zbe, zft, zmz]
  have e32 : decide ((x.s.length : Int) > 32) = !decide ((x.s.length : Int) ≤ 32) := by
    rw [← decide_not]; exact decide_eq_decide.2 (by omega)
  simp only [zkc, e32, zyy, Bool.not_or, Bool.not_not, Bool.and_assoc, Bool.not_and]
def bigT (x : Stp) : Bool := decide (100 < x.t.length) || decide (40 < x.fields.length)
theorem zqs (l : List Stp) : ∀ (m : Nat) (r : List Stp) (i : Nat), l.drop i = r → i + m = 61 →
    ltbl E0 16 0 2 [stpsV l, iV i] [] = some (if (r.take m).any bigT then (0, [.bool true], []) else (1, [stpsV l], [])) := by
  intro d
  induction d with
  | zero =>
    intro r i hr hm
    have : ¬ ((i : Int) < 61) := by omega
    refine zab _ _ ?_
    by_cases h : (i : Int) < l.length <;> simp [z74, this, h]
  | succ d ih =>
    intro r i hr hm
    cases r with
    | nil =>
      have h : l.length ≤ i := by simpa using hr
      have : ¬ ((i : Int) < l.length) := by omega
      exact zab _ _ (by simp [z74, this])
    | cons x r =>
      obtain ⟨hlt, hget, hr2⟩ := zu hr
      have h2 : (i : Int) < l.length := by omega
      have h3 : (i : Int) < 61 := by omega
      have e1 := zj (i := i) (by omega)
      have h := ih r (i + 1) hr2 (by omega)
      refine zab _ _ ?_; simp only [z74, zo, zh, List.length_map, h2, h3, decide_true, cond_true, z9, Int.natCast_nonneg, nthE, Int.toNat_natCast, List.getElem?_map, hget, Option.map_some, u_asA, u_asC, u_asI, u_asS, u_asL, u_asB, u_asN, Option.bind_some, Tok.untok_tok, e1, h, List.take_succ_cons, List.any_cons]
      by_cases a : 100 < x.t.length
      · have a2 : (x.t.length : Int) > 100 := by omega
        simp [a2, bigT, a]
      · have a2 : ¬ ((x.t.length : Int) > 100) := by omega
        by_cases b : 40 < x.fields.length
        · have b2 : (x.fields.length : Int) > 40 := by omega
          simp [a2, b2, bigT, a, b]
        · have b2 : ¬ ((x.fields.length : Int) > 40) := by omega
          have : bigT x = false := by simp [bigT, a, b]
          simp [a2, b2, this]
def greatT (l : List Stp) : Bool := (l.take 61).any bigT || decide (60 < l.length)
theorem ztz (l : List Stp) : tbl E0 16 [stpsV l] [] = some ([.bool (greatT l)], []) :=
  zt0 l (by
    have e := zqs l 61 l 0 rfl rfl; simp only [Int.natCast_zero] at e; simp only [zjm, ze, e, greatT]
    rcases bor ((l.take 61).any bigT) with hb | hb
    · simp [hb]
    · by_cases h : 60 < l.length
      · have : (l.length : Int) > 60 := by omega
        simp [hb, h, this]
      · have : ¬ ((l.length : Int) > 60) := by omega
        simp [hb, h, this])
end V
namespace V
def bytesBE : Nat → Nat → List UInt8
  | 0, _ => []
  | w + 1, n => bytesBE w (n / 256) ++ [byt (n % 256)]
theorem z58 : ∀ (w n : Nat), (bytesBE w n).length = w
  | 0, _ => rfl
  | w + 1, n => by simp [bytesBE, z58 w]
def layV (f : Fld) (v : Val) : List UInt8 := if f.kind = 4 then byt v.s.length :: v.s else bytesBE (wdS (hiS f - loS f).toNat) (v.n - loS f).toNat
def laysV (f : Fld) (v : Val) : List UInt8 × Int := if rgtS f = false then ([], 2) else if hasV f v.n v.s = false then ([], 16) else (layV f v, 0)
theorem z41 {f : Fld} {n : Int} {s : List UInt8} (h : hasV f n s = true) : rgtS f = true := by
  simp only [hasV, Bool.and_eq_true] at h; exact h.1
theorem z4e {f : Fld} {n : Int} {s : List UInt8} (h : hasV f n s = true) : loS f ≤ n ∧ n ≤ hiS f ∧ (s.length : Int) ≤ longestS f := by
  simp only [hasV, inS, Bool.and_eq_true, decide_eq_true_eq] at h; exact ⟨h.2.1.1, h.2.1.2, h.2.2⟩
theorem zat {f : Fld} (h : rgtS f = true) : (f.kind = 1 ∧ -1099511627776 ≤ f.lo ∧ f.lo ≤ f.hi ∧ f.hi ≤ 1099511627776 ∧ f.most = 0) ∨ (f.kind = 2 ∧ f.lo = 0 ∧ f.hi = 0 ∧ f.most = 0) ∨ (f.kind = 3 ∧ f.lo = 0 ∧ f.hi = 0 ∧ 1 ≤ f.most ∧ f.most ≤ 1000) ∨ (f.kind = 4 ∧ f.lo = 0 ∧ f.hi = 0 ∧ 0 ≤ f.most ∧ f.most ≤ 32) := by
  simp only [rgtS, Bool.and_eq_true] at h; obtain ⟨_, h⟩ := h
  split at h
  · rename_i k; exact .inl ⟨k, by simpa using h⟩
  · split at h
    · rename_i k; exact .inr (.inl ⟨k, by simpa using h⟩)
    · split at h
      · rename_i k; exact .inr (.inr (.inl ⟨k, by simpa using h⟩))
      · split at h
        · rename_i k; exact .inr (.inr (.inr ⟨k, by simpa using h⟩))
        · cases h
theorem z35 {f : Fld} (h : rgtS f = true) : -1099511627776 ≤ loS f ∧ loS f ≤ hiS f ∧ hiS f ≤ 1099511627776 := by
  rcases zat h with ⟨k, h⟩ | ⟨k, h⟩ | ⟨k, h⟩ | ⟨k, h⟩ <;> simp [loS, hiS, k] <;> omega
theorem z5i {f : Fld} (h : rgtS f = true) : longestS f ≤ 32 := by
  rcases zat h with ⟨k, h⟩ | ⟨k, h⟩ | ⟨k, h⟩ | ⟨k, h⟩ <;> simp [longestS, k] <;> omega
theorem zau {f : Fld} (h : rgtS f = true) : wdS (hiS f - loS f).toNat ≤ 6 := by
  have := z35 h
  exact zqb 6 _ (by have e6 : (256 : Nat) ^ 6 = 281474976710656 := (by decide); omega)
theorem z61 {f : Fld} {v : Val} (h : hasV f v.n v.s = true) : (layV f v).length ≤ 33 := by
  have h1 := z41 h; have h2 := z4e h; have h3 := z5i h1; have h4 := zau h1; unfold layV
  split
  · simp only [List.length_cons]; omega
  · rw [z58]; omega
def allsV : List Fld → List Val → Bool
  | [], [] => true
  | f :: fs, v :: vs => hasV f v.n v.s && allsV fs vs
  | _, _ => false
def hasR (f : Frm) (x : Rec) : Bool := fineS f && (x.form == f.id && allsV f.fields x.vals)
def layR : List Fld → List Val → List UInt8
  | f :: fs, v :: vs => layV f v ++ layR fs vs
  | _, _ => []
theorem z14 : ∀ {fs : List Fld} {vs : List Val}, allsV fs vs = true → fs.length = vs.length
  | [], [], _ => rfl
  | [], v :: vs, h => by cases h
  | f :: fs, [], h => by cases h
  | f :: fs, v :: vs, h => by
    simp only [allsV, Bool.and_eq_true] at h; simp [z14 h.2]
theorem z2h : ∀ {fs : List Fld} {vs : List Val}, allsV fs vs = true → ∀ (i : Nat) f v, fs[i]? = some f → vs[i]? = some v → hasV f v.n v.s = true
  | [], [], _, i, f, v, h1, _ => by simp at h1
  | [], v :: vs, h, _, _, _, _, _ => by cases h
  | f :: fs, [], h, _, _, _, _, _ => by cases h
  | f :: fs, v :: vs, h, i, g, u, h1, h2 => by
    simp only [allsV, Bool.and_eq_true] at h
    cases i with
    | zero => simp at h1 h2; subst h1; subst h2; exact h.1
    | succ i => exact z2h h.2 i g u (by simpa using h1) (by simpa using h2)
theorem zoh {fs : List Fld} {vs : List Val} (h : allsV fs vs = true) : ∀ i, allsV (fs.drop i) (vs.drop i) = true := by
  induction fs generalizing vs with
  | nil => cases vs with
    | nil => intro i; simp [allsV]
    | cons v vs => cases h
  | cons f fs ih => cases vs with
    | nil => cases h
    | cons v vs =>
      intro i
      cases i with
      | zero => exact h
      | succ i =>
        simp only [allsV, Bool.and_eq_true] at h; exact ih h.2 i
theorem zu0 (u : Nat) (c : Nat) (hu : u * 256 < 9223372036854775808) (hc : c < 256) : bits .or .i64 ((u * 256 : Nat) : Int) (c : Int) = ((u * 256 + c : Nat) : Int) := by
  have h2 : bits .or .i64 ((u * 256 : Nat) : Int) (c : Int) = IntKind.i64.wrap ((BitVec.ofInt 64 ((u * 256 : Nat) : Int) ||| BitVec.ofInt 64 (c : Int)).toNat : Nat) := rfl
  have h3 : (u * 256) ||| c = u * 256 + c := by
    rw [Nat.or_comm, show u * 256 = u * 2 ^ 8 from rfl, zy6 c u 8 (by omega)]
    omega
  rw [h2, BitVec.toNat_or, toNat_ofInt, toNat_ofInt, show (((u * 256 : Nat) : Int) % 18446744073709551616).toNat = u * 256 by omega, show ((c : Int) % 18446744073709551616).toNat = c by omega, h3]
  exact wrap_i64 _ (by omega) (by omega)
end V
namespace V
theorem zt (l : List Val) : (l.map valV).all AV.flat = true := by
  rw [List.all_eq_true]; intro x hx; obtain ⟨f, _, rfl⟩ := List.mem_map.1 hx; rfl
theorem z4f (l : List UInt8) : (encB l).all AV.flat = true := by
  rw [List.all_eq_true]; intro x hx; obtain ⟨f, _, rfl⟩ := List.mem_map.1 hx; rfl
theorem zu1 (b : List UInt8) (i : Nat) (c : UInt8) : (encB b).set i (.int .u8 (c.toNat : Int)) = encB (b.set i c) := by simp [encB, List.map_set]
theorem zn0 : ∀ (k : Nat) (b : List UInt8) (n : Nat), k ≤ b.length → b.length ≤ 1000 →
    ltbl E0 53 0 10 [.lst .uq 1 (encB b), iV ((k : Int) - 1), iV (n : Int)] [] = some (2, [.lst .uq 1 (encB (bytesBE k n ++ b.drop k))], [])
  | 0, b, n, hk, hb => by
    refine zms b _ _ ?_
    have h1 : ¬ (((0 : Nat) : Int) - 1 ≥ 0) := by omega
    simp only [zfk, h1, decide_false, cond_false, z4f, cond_true, bytesBE, List.drop_zero, List.nil_append]
  | k + 1, b, n, hk, hb => by
    refine zms b _ _ ?_
    have h0 : (((k + 1 : Nat) : Int) - 1) = (k : Int) := by omega
    have h1 : ((k : Int) ≥ 0) := by omega
    have h2 : ((k : Int) < (b.length : Int)) := by omega
    have hlt : k < b.length := by omega
    have e1 : bits .and .i64 (n : Int) 255 = ((n % 256 : Nat) : Int) := by rw [and255]; omega
    have e2 : IntKind.u8.wrap ((n % 256 : Nat) : Int) = ((n % 256 : Nat) : Int) := z4q (by omega) (by omega)
    have e3 : AV.int .u8 ((n % 256 : Nat) : Int) = .int .u8 ((byt (n % 256)).toNat : Int) := by rw [z1c (by omega)]
    have e4 : IntKind.i64.wrap ((k : Int) - 1) = (k : Int) - 1 := wrap_i64 _ (by omega) (by omega)
    have e5 : (n : Int).fdiv ((2 : Int) ^ (8 : Nat)) = ((n / 256 : Nat) : Int) := by
      rw [Int.fdiv_eq_ediv_of_nonneg _ (by decide), show (2 : Int) ^ 8 = 256 by decide]; omega
    have ih := zn0 k (b.set k (byt (n % 256))) (n / 256) (by rw [List.length_set]; omega) (by rw [List.length_set]; exact hb)
    have hd : (b.set k (byt (n % 256))).drop k = byt (n % 256) :: b.drop (k + 1) := by
      rw [List.drop_set, if_neg (by omega), Nat.sub_self, List.drop_eq_getElem_cons hlt]; rfl
    simp only [zfk, h0, h1, decide_true, cond_true, z1i, h2, Bool.and_self, z9, nthE, Int.toNat_natCast, ziz, List.getElem?_eq_getElem hlt, Option.map_some, e1, e2, e3, setAt, AV.cells, List.length_cons, List.length_nil, putC, asC, asN, List.set_cons_zero, zu1, z4f, e4, e5, ih, AV.flat, AV.flat1, hd, bytesBE, List.append_assoc, List.cons_append, List.nil_append]; rfl
theorem z_u8 : demS ((tabAt T0 (E0.an 53 0)).ty 5).sh (zeroOf ((tabAt T0 (E0.an 53 0)).ty 5)) = .int .u8 0 := by kernel_rfl
theorem zqt (w : Nat) : List.replicate w (AV.int .u8 0) = encB (List.replicate w 0) := by simp [encB]
theorem zqu (f : Fld) (v : Val) : tbl E0 53 [fldV f, valV v] [] = some ([.lst .ro 1 (encB (laysV f v).1), iV (laysV f v).2], []) := zyd f v (by
  have c1 := z34 f; have c2 := zas f v.n v.s; simp only [fldV, fldC] at c1 c2; simp only [zq0, za, c1, c2, Option.bind_some, u_asC, u_asB, u_asN, laysV]
  by_cases hr : rgtS f = true
  · by_cases hh : hasV f v.n v.s = true
    · have hi := z4e hh
      have h3 := z5i hr; simp only [hr, hh, Bool.not_true, cond_false, Bool.true_eq_false, if_false, layV]
      by_cases k : f.kind = 4
      · have e1 : IntKind.u8.wrap (v.s.length : Int) = (v.s.length : Int) := z4q (by omega) (by omega)
        have e2 : (1 + v.s.length ≤ 211106232532992) := by omega
        have e3 : AV.int .u8 (v.s.length : Int) = .int .u8 ((byt v.s.length).toNat : Int) := by rw [z1c (by omega)]
        simp only [k, beq_self_eq_true, cond_true, List.length_cons, List.length_nil, Nat.zero_add, e2, decide_true, z9, e1, e3, if_true, ← z5p]
      · have hb := z35 hr
        have hw := zau hr; have c3 := z4d f (fun _ => hr); have c4 := zfo f hr; simp only [fldV, fldC] at c3 c4
        have k' : (f.kind == 4) = false := by simpa using k
        have q1 : ((0 : Int) ≤ (wdS (hiS f - loS f).toNat : Nat)) := by omega
        have q2 : ((wdS (hiS f - loS f).toNat : Nat) : Int) * ((1 : Nat) : Int) ≤ 140737488355328 := by omega
        have q3 : IntKind.i64.wrap (v.n - loS f) = ((v.n - loS f).toNat : Int) := by rw [wrap_i64 _ (by omega) (by omega)]; omega
        have q4 : IntKind.i64.wrap (((wdS (hiS f - loS f).toNat : Nat) : Int) - 1) = ((wdS (hiS f - loS f).toNat : Nat) : Int) - 1 := wrap_i64 _ (by omega) (by omega)
        have c5 := zn0 (wdS (hiS f - loS f).toNat) (List.replicate (wdS (hiS f - loS f).toNat) 0) (v.n - loS f).toNat (by simp) (by simp; omega)
        rw [List.drop_of_length_le (by simp), List.append_nil] at c5
        simp only [k', cond_false, za, c3, c4, Option.bind_some, u_asC, u_asI, u_asN, q1, Int.le_refl, q2, decide_true, Bool.and_self, z9, cond_true, Int.toNat_natCast, z_u8, zqt, z4f, z1i, List.length_replicate, q3, q4, ze, c5, nbeq, zd, k, if_false]
    · have hh : hasV f v.n v.s = false := by simpa using hh
      simp only [hr, hh, Bool.not_true, Bool.not_false, cond_true, cond_false, Bool.true_eq_false, if_false, if_true, z3j]
  · have hr : rgtS f = false := by simpa using hr
    simp only [hr, Bool.not_false, cond_true, if_true, z3j])
theorem zwr (v : Val) (f : Fld) : tbl E0 89 [valV v, fldV f] [] = some ([.bool (hasV f v.n v.s)], []) := zw4 v f (by
  have c2 := zas f v.n v.s; simp only [fldV, fldC] at c2; simp only [zml, za, c2, Option.bind_some, u_asC, u_asB, u_asN])
theorem zoi (l : List Val) (m : List Fld) (hl : l.length ≤ 1000000) (hlm : l.length = m.length) : ∀ (r : List Val) (r' : List Fld) (i : Nat), l.drop i = r → m.drop i = r' →
    ltbl E0 88 0 4 [fldsV m, .clo 89 [], valsV l, iV l.length, iV i] [] = some (if allsV r' r then (1, [], []) else (0, [.bool false], [])) := by
  intro r
  induction r with
  | nil =>
    intro r' i hr hr'
    have h : l.length ≤ i := by simpa using hr
    have : r' = [] := by rw [← hr']; simp; omega
    subst this; refine ze7 _ _ _ _ ?_
    have : ¬ ((i : Int) < l.length) := by omega
    simp [z8n, this, allsV]
  | cons x r ih =>
    intro r' i hr hr'; obtain ⟨hlt, hget, hr2⟩ := zu hr
    cases r' with
    | nil => simp at hr'; omega
    | cons y r' =>
      obtain ⟨_, hget', hr2'⟩ := zu hr'
      have h2 : (i : Int) < l.length := by omega
      have e1 := zj (i := i) (by omega)
      have h := ih r' (i + 1) hr2 hr2'; have c := zwr x y; simp only [valsV, fldsV, valV, fldV, fldC] at h c; refine ze7 _ _ _ _ ?_; simp only [z8n, h2, decide_true, cond_true, z9, Int.natCast_nonneg, nthE, Int.toNat_natCast, List.getElem?_map, hget, hget', Option.map_some, u_asA, u_asC, u_asI, u_asS, u_asN, za, c, Option.bind_some, u_asB, e1, h, allsV]
      rcases bor (hasV y x.n x.s) with hb | hb
      · simp only [hb, Bool.not_true, cond_false, Bool.true_and]
      · simp only [hb, Bool.not_false, cond_true, Bool.false_and]
        rfl
theorem zqv (l : List Val) (m : List Fld) (hl : l.length ≤ 1000000) : tbl E0 88 [valsV l, fldsV m, .clo 89 []] [] = some ([.bool (allsV m l)], []) := zq4 l m (by
  by_cases hlm : l.length = m.length
  · have h := zoi l m hl hlm l m 0 rfl rfl
    have e : ((l.length : Int) != (m.length : Int)) = false := by rw [hlm]; simp
    simp only [valsV, fldsV, Int.natCast_zero] at h; simp only [zad, List.length_map, e, cond_false, ze, h]
    rcases bor (allsV m l) with hb | hb
    · simp only [hb, if_true, Option.bind_some, nbeq, u_asN]
      rfl
    · simp only [hb, if_false, Bool.false_eq_true, Option.bind_some, nbeq, u_asN, u_asC, u_asB]
      rfl
  · have e : ((l.length : Int) != (m.length : Int)) = true := bne_t (by omega)
    have : allsV m l = false := by
      rcases bor (allsV m l) with hb | hb
      · exact absurd (z14 hb).symm hlm
      · exact hb
    simp only [zad, List.length_map, e, cond_true, this])
theorem zqw (f : Frm) (x : Rec) (hf : f.fields.length ≤ 1000000) (hx : x.vals.length ≤ 1000000) : tbl E0 48 [frmV f, recV x] [] = some ([.bool (hasR f x)], []) := zyf f x (by
  have c1 := z7z f (by omega)
  have c2 := zqv x.vals f.fields hx; simp only [frmV, fldsV, valsV] at c1 c2; simp only [zq2, zh, za, c1, c2, Option.bind_some, u_asC, u_asB, u_asN, z30, Tok.untok_tok, hasR]
  cases fineS f <;> cases (x.form == f.id) <;> cases allsV f.fields x.vals <;> rfl)
theorem zeq : ∀ {fs : List Fld} {vs : List Val}, allsV fs vs = true → (layR fs vs).length ≤ 33 * vs.length
  | [], [], _ => Nat.zero_le _
  | [], v :: vs, h => by cases h
  | f :: fs, [], h => by cases h
  | f :: fs, v :: vs, h => by
    simp only [allsV, Bool.and_eq_true] at h; have := zeq h.2; have := z61 h.1; simp only [layR, List.length_append, List.length_cons]; omega
theorem zws (f : Frm) (l : List Val) (ha : allsV f.fields l = true) (hl : l.length ≤ 1000000) : ∀ (r : List Val) (r' : List Fld) (i : Nat) (b : List UInt8), l.drop i = r → f.fields.drop i = r' → b.length ≤ 33 * i →
    ltbl E0 19 0 7 [.lst .uq 1 (encB b), valsV l, iV l.length, iV i] [[iV f.id, fldsV f.fields]] = some (2, [.lst .uq 1 (encB (b ++ layR r' r))], []) := by
  have hlen := z14 ha; intro r
  induction r with
  | nil =>
    intro r' i b hr hr' hb
    have h : l.length ≤ i := by simpa using hr
    have : r' = [] := by rw [← hr']; simp; omega
    subst this; refine zmu _ _ _ _ _ ?_
    have : ¬ ((i : Int) < l.length) := by omega
    simp only [zfn, this, decide_false, cond_false, z4f, cond_true, layR, List.append_nil]
  | cons x r ih =>
    intro r' i b hr hr' hb; obtain ⟨hlt, hget, hr2⟩ := zu hr
    cases r' with
    | nil => simp at hr'; omega
    | cons y r' =>
      obtain ⟨_, hget', hr2'⟩ := zu hr'; have hh := z2h ha i y x hget' hget; have hs := z61 hh
      have h2 : (i : Int) < l.length := by omega
      have e1 := zj (i := i) (by omega)
      have h := ih r' (i + 1) (b ++ layV y x) hr2 hr2' (by rw [List.length_append]; omega)
      have c := zqu y x; have hr0 := z41 hh
      have e2 : laysV y x = (layV y x, 0) := by simp [laysV, hr0, hh]
      have e3 : (b.length + (layV y x).length) * 1 ≤ 211106232532992 := by omega
      rw [e2] at c; simp only [valsV, fldsV, valV, fldV, fldC, z3x] at h c; refine zmu _ _ _ _ _ ?_
      have e4 : (encB b ++ encB (layV y x)).all AV.flat = true := by rw [← z3x]; exact z4f _
      have e5 : ((0 : Int) != 0) = false := rfl; simp only [zfn, h2, decide_true, cond_true, z9, Int.natCast_nonneg, nthE, Int.toNat_natCast, List.getElem?_map, hget, hget', Option.map_some, u_asA, u_asC, u_asI, u_asS, u_asL, u_asN, za, c, Option.bind_some, e5, cond_false, z1i, e3, e4, e1, h, layR, z3x, List.append_assoc]
def laysR (f : Frm) (x : Rec) : List UInt8 × Int := if fineS f = false then ([], 2) else if hasR f x = false then ([], 16) else (layR f.fields x.vals, 0)
theorem zqx {f : Frm} (h : fineS f = true) : longS f.fields ≤ 64 ∧ f.fields.length ≤ 8 := by
  simp only [fineS, Bool.and_eq_true, decide_eq_true_eq] at h; exact ⟨h.1.1.2, h.1.1.1.2.2⟩
theorem zlg (f : Fld) : 0 ≤ sizeS f := by
  unfold sizeS
  split
  · rename_i h
    split
    · rename_i k
      rcases zat h with ⟨k', h⟩ | ⟨k', h⟩ | ⟨k', h⟩ | ⟨k', h⟩ <;> omega
    · omega
  · omega
theorem zbv : ∀ l : List Fld, 0 ≤ longS l
  | [] => by simp [longS]
  | f :: l => by
    have h1 := zlg f; have h2 := zbv l; simp only [longS, List.map_cons, List.sum_cons] at h2 ⊢; omega
theorem zyz (f : Frm) (x : Rec) (hf : f.fields.length ≤ 1000000) (hx : x.vals.length ≤ 1000000) : tbl E0 19 [frmV f, recV x] [] = some ([.lst .ro 1 (encB (laysR f x).1), iV (laysR f x).2], []) := zyg f x (by
  have c1 := z7z f (by omega)
  have c2 := zqw f x hf hx
  have c3 := zmv f (by omega)
  simp only [frmV, fldsV, recV, recC, valsV] at c1 c2 c3; simp only [zq3, za, c1, c2, c3, Option.bind_some, u_asC, u_asB, u_asI, u_asN, laysR]
  by_cases hr : fineS f = true
  · by_cases hh : hasR f x = true
    · have ha : allsV f.fields x.vals = true := by simp only [hasR, Bool.and_eq_true] at hh; exact hh.2.2
      have c4 := zws f x.vals ha hx x.vals f.fields 0 [] rfl rfl (by simp)
      have h1 := zbv f.fields; have h2 := zqx hr
      have h3 : longS f.fields * ((1 : Nat) : Int) ≤ 140737488355328 := by omega
      simp only [valsV, fldsV, z3j, Int.natCast_zero, List.nil_append] at c4; simp only [hr, hh, Bool.not_true, cond_false, Bool.true_eq_false, if_false, Int.le_refl, h1, h3, decide_true, Bool.and_self, z9, cond_true, List.length_map, ze, c4, Option.bind_some, nbeq, zd, u_asN, u_asC, z4f]; rfl
    · have hh : hasR f x = false := by simpa using hh
      simp only [hr, hh, Bool.not_true, Bool.not_false, cond_true, cond_false, Bool.true_eq_false, if_false, if_true, z3j]
  · have hr : fineS f = false := by simpa using hr
    simp only [hr, Bool.not_false, cond_true, if_true, z3j])
theorem zu2 (l : List Val) (h : l.length ≤ 1000000) : tbl E0 49 [valsV l] [] = some ([valsU l], []) := zt3 l (by
  have hf := zt l
  have h2 : (0 + (l.map valV).length) * 24 ≤ 211106232532992 := by rw [List.length_map]; omega
  cases l with
  | nil =>
    simp only [zcq, List.map_nil]
    exact z7h (fun b => by cases b <;> rfl)
  | cons f l =>
    simp only [List.map_cons] at hf h2; simp only [zcq, List.map_cons, ze1, cond_false, h2, decide_true, z9, cond_true, List.nil_append, hf]
    rfl)
theorem zoj (a b : Rec) (hl : a.vals.length ≤ 1000000) (hab : a.vals.length = b.vals.length) : ∀ (r r' : List Val) (i : Nat), a.vals.drop i = r → b.vals.drop i = r' →
    ltbl E0 11 0 4 [iV i] [recC a, recC b] = some (if r = r' then (1, [], []) else (0, [.bool false], [])) := by
  intro r
  induction r with
  | nil =>
    intro r' i hr hr'
    have h : a.vals.length ≤ i := by simpa using hr
    have : r' = [] := by rw [← hr']; simp; omega
    subst this; refine ze8 _ _ _ ?_
    have : ¬ ((i : Int) < a.vals.length) := by omega
    simp [z8o, this]
  | cons x r ih =>
    intro r' i hr hr'; obtain ⟨hlt, hget, hr2⟩ := zu hr
    cases r' with
    | nil => simp at hr'; omega
    | cons y r' =>
      obtain ⟨_, hget', hr2'⟩ := zu hr'
      have h2 : (i : Int) < a.vals.length := by omega
      have e1 := zj (i := i) (by omega)
      have h := ih r' (i + 1) hr2 hr2'; simp only [recC, valsV] at h; refine ze8 _ _ _ ?_; simp only [z8o, List.length_map, h2, decide_true, cond_true, z9, Int.natCast_nonneg, nthE, Int.toNat_natCast, List.getElem?_map, hget, hget', Option.map_some, u_asA, u_asC, u_asI, u_asS, u_asN, e1, h, Bool.and_true]; obtain ⟨xn, xs⟩ := x; obtain ⟨yn, ys⟩ := y
      by_cases e2 : xn = yn
      · by_cases e3 : xs = ys
        · simp [e2, e3]
        · simp [e2, e3, beq_f e3]
      · simp [e2, beq_f e2]
theorem zav (a b : Rec) (hl : a.vals.length ≤ 1000000) : tbl E0 11 [recV a, recV b] [] = some ([.bool (decide (a = b))], []) := zq7 a b (by
  obtain ⟨af, av⟩ := a; obtain ⟨bf, bv⟩ := b; simp only [zgx, zh, List.length_map, ze, z30, Option.bind_some, Tok.untok_tok]
  by_cases hf : af = bf
  · by_cases hab : av.length = bv.length
    · have e := zoj ⟨af, av⟩ ⟨bf, bv⟩ hl hab av bv 0 rfl rfl
      simp only [Int.natCast_zero, recC, valsV] at e
      have h1 : (af != bf) = false := by rw [hf]; simp
      have h' : ((av.length : Int) != (bv.length : Int)) = false := by rw [hab]; simp
      rw [h1, h', cond_false, cond_false, e]
      by_cases e2 : av = bv <;> simp [hf, e2]
    · have : ¬ (av = bv) := fun e => hab (by rw [e])
      have h1 : (af != bf) = false := by rw [hf]; simp
      have h' : ((av.length : Int) != (bv.length : Int)) = true := bne_t (by omega)
      rw [h1, h']; simp [this]
  · have h1 : (af != bf) = true := bne_t hf
    rw [h1]; simp [hf])
theorem zqy (f : Frm) (x : Rec) (hl : x.vals.length ≤ 1000000) (hlm : x.vals.length = f.fields.length) : ∀ (r : List Val) (r' : List Fld) (i : Nat), x.vals.drop i = r → f.fields.drop i = r' →
    ltbl E0 14 0 4 [iV i] [[iV f.id, fldsV f.fields], recC x] = some (if allsV r' r then (1, [], []) else (0, [.bool false], [])) := by
  intro r
  induction r with
  | nil =>
    intro r' i hr hr'
    have h : x.vals.length ≤ i := by simpa using hr
    have : r' = [] := by rw [← hr']; simp; omega
    subst this; refine zh1 _ _ _ ?_
    have : ¬ ((i : Int) < x.vals.length) := by omega
    simp [zag, this, allsV]
  | cons v r ih =>
    intro r' i hr hr'; obtain ⟨hlt, hget, hr2⟩ := zu hr
    cases r' with
    | nil => simp at hr'; omega
    | cons y r' =>
      obtain ⟨_, hget', hr2'⟩ := zu hr'
      have h2 : (i : Int) < x.vals.length := by omega
      have e1 := zj (i := i) (by omega)
      have h := ih r' (i + 1) hr2 hr2'; have c := zk8 y v.n v.s; simp only [recC, valsV, fldsV, fldV, fldC] at h c; refine zh1 _ _ _ ?_; simp only [zag, List.length_map, h2, decide_true, cond_true, z9, Int.natCast_nonneg, nthE, Int.toNat_natCast, List.getElem?_map, hget, hget', Option.map_some, u_asA, u_asC, u_asI, u_asS, u_asN, za, c, Option.bind_some, u_asB, e1, h, allsV]
      rcases bor (hasV y v.n v.s) with hb | hb
      · simp only [hb, Bool.not_true, cond_false, Bool.true_and]
      · simp only [hb, Bool.not_false, cond_true, Bool.false_and]
        rfl
theorem zke (f : Frm) (x : Rec) (hf : f.fields.length ≤ 1000000) (hx : x.vals.length ≤ 1000000) : tbl E0 14 [frmV f, recV x] [] = some ([.bool (hasR f x)], []) := zt7 f x (by
  have c1 := zfq f (by omega)
  simp only [frmV, fldsV] at c1; simp only [zjp, zh, za, c1, Option.bind_some, u_asC, u_asB, u_asN, List.length_map, z30, Tok.untok_tok, hasR, ze]
  rcases bor (fineS f) with h1 | h1
  · simp only [h1, Bool.not_true, cond_false, Bool.true_and]
    by_cases h2 : x.form = f.id
    · have h2' : (x.form != f.id) = false := by rw [h2]; simp
      simp only [h2', cond_false]
      by_cases hlm : x.vals.length = f.fields.length
      · have h := zqy f x hx hlm x.vals f.fields 0 rfl rfl
        have e : ((x.vals.length : Int) != (f.fields.length : Int)) = false := by rw [hlm]; simp
        simp only [valsV, fldsV, recC, Int.natCast_zero, h2] at h; simp only [e, cond_false, h, h2]
        rcases bor (allsV f.fields x.vals) with hb | hb
        · simp only [hb, if_true, Option.bind_some, nbeq, u_asN, beq_self_eq_true, Bool.true_and]
          rfl
        · simp only [hb, if_false, Bool.false_eq_true, Option.bind_some, nbeq, u_asN, u_asC, u_asB, Bool.and_false]
          rfl
      · have e : ((x.vals.length : Int) != (f.fields.length : Int)) = true := bne_t (by omega)
        have : allsV f.fields x.vals = false := by
          rcases bor (allsV f.fields x.vals) with hb | hb
          · exact absurd (z14 hb).symm hlm
          · exact hb
        simp only [e, cond_true, this, Bool.and_false]
    · have h2' : (x.form != f.id) = true := bne_t h2
      simp only [h2', cond_true, beq_f h2, Bool.false_and]
  · simp only [h1, Bool.not_false, cond_true, Bool.false_and])
open AV (int lst agg str bool ref clo)
open List (map)
-- folds: dbl
-- folds: cse
noncomputable def zkf {α : Type} (A : Alg α) (f : Fld) (g : Fld) (kc : List AV → List (Nat × List AV) → α) : α :=
  A.callx 57 [agg [iV f.id, iV f.kind, iV f.lo, iV f.hi, iV f.most]] fun l0 => aI A l0 fun n3 l2 => aI A l2 fun n6 l5 => aI A l5 fun n9 l8 => aB A l8 fun b12 l11 => asN A l11 (A.callx 57 [agg [iV g.id, iV g.kind, iV g.lo, iV g.hi, iV g.most]] fun l13 => aI A l13 fun n16 l15 => aI A l15 fun n19 l18 => aI A l18 fun n22 l21 => aB A l21 fun b25 l24 => asN A l24 (A.join (fun x26 => bif b12 then (bif b25 then (bif (f.kind == g.kind) then (bif (decide (n16 ≤ n3)) then (bif (decide (n6 ≤ n19)) then (x26 (decide (n9 ≤ n22))) else (x26 false)) else (x26 false)) else (x26 false)) else (x26 false)) else (x26 false)) fun b27 => kc [bool b27] []))
noncomputable def zr0 {α : Type} (A : Alg α) (l : List Fld) (n : Int) (f : Fld) (kc : List AV → List (Nat × List AV) → α) : α :=
  A.chk (decide ((0 : Int) ≤ (0 : Int)) && decide ((0 : Int) ≤ n) && decide (n ≤ (↑(map fldV l).length : Int)) && decide ((↑(map fldV l).length : Int) ≤ (↑(map fldV l).length : Int))) (A.chk (decide (((0 : Nat) + (List.drop (0 : Nat) (List.take n.toNat (map fldV l))).length) * 40 ≤ 211106232532992)) (A.chk (decide ((0 : Int) ≤ n) && decide (n ≤ (↑(map fldV l).length : Int)) && decide ((↑(map fldV l).length : Int) ≤ (↑(map fldV l).length : Int)) && decide ((↑(map fldV l).length : Int) ≤ (↑(map fldV l).length : Int))) (A.chk (decide (((List.drop (0 : Nat) (List.take n.toNat (map fldV l))).length + [agg [iV f.id, iV f.kind, iV f.lo, iV f.hi, iV f.most]].length) * 40 ≤ 211106232532992)) (A.chk (decide (((List.drop (0 : Nat) (List.take n.toNat (map fldV l)) ++ [agg [iV f.id, iV f.kind, iV f.lo, iV f.hi, iV f.most]]).length + (List.drop n.toNat (List.take (↑(map fldV l).length : Int).toNat (map fldV l))).length) * 40 ≤ 211106232532992)) (kc [lst .ro 5 (List.drop (0 : Nat) (List.take n.toNat (map fldV l)) ++ [agg [iV f.id, iV f.kind, iV f.lo, iV f.hi, iV f.most]] ++ List.drop n.toNat (List.take (↑(map fldV l).length : Int).toNat (map fldV l)))] [])))))
noncomputable def zr1 {α : Type} (A : Alg α) (l : List Fld) (n : Int) (kc : List AV → List (Nat × List AV) → α) : α :=
  A.chk (decide ((0 : Int) ≤ (0 : Int)) && decide ((0 : Int) ≤ n) && decide (n ≤ (↑(map fldV l).length : Int)) && decide ((↑(map fldV l).length : Int) ≤ (↑(map fldV l).length : Int))) (A.chk (decide ((0 : Int) ≤ IntKind.i64.wrap (n + (1 : Int))) && decide (IntKind.i64.wrap (n + (1 : Int)) ≤ (↑(map fldV l).length : Int)) && decide ((↑(map fldV l).length : Int) ≤ (↑(map fldV l).length : Int)) && decide ((↑(map fldV l).length : Int) ≤ (↑(map fldV l).length : Int))) (A.chk (decide (((0 : Nat) + (List.drop (0 : Nat) (List.take n.toNat (map fldV l))).length) * 40 ≤ 211106232532992)) (A.chk (decide (((List.drop (0 : Nat) (List.take n.toNat (map fldV l))).length + (List.drop (IntKind.i64.wrap (n + (1 : Int))).toNat (List.take (↑(map fldV l).length : Int).toNat (map fldV l))).length) * 40 ≤ 211106232532992)) (kc [lst .ro 5 (List.drop (0 : Nat) (List.take n.toNat (map fldV l)) ++ List.drop (IntKind.i64.wrap (n + (1 : Int))).toNat (List.take (↑(map fldV l).length : Int).toNat (map fldV l)))] []))))
noncomputable def zkg {α : Type} (A : Alg α) (op : Int) (kc : List AV → List (Nat × List AV) → α) : α :=
  A.join (fun x0 => bif (op != (1 : Int)) then (bif (op != (9 : Int)) then (x0 (op != (10 : Int))) else (x0 false)) else (x0 false)) fun b1 => kc [bool b1] []
noncomputable def z7l {α : Type} (A : Alg α) (s : Sch) (x : Stp) (kc : List AV → List (Nat × List AV) → α) (n8 : Int) (l11 : List AV) (x22 : Bool → α) : α :=
  bif (x.op == (6 : Int)) then (A.callx 22 [agg [iV n8, lst .ro 5 l11], iV x.to] fun l27 => aI A l27 fun n30 l29 => asN A l29 (x22 (decide (n30 ≥ (0 : Int))))) else (bif (x.op == (8 : Int)) then (A.callx 22 [agg [iV n8, lst .ro 5 l11], iV x.to] fun l31 => aI A l31 fun n34 l33 => asN A l33 (x22 (decide (n34 ≥ (0 : Int))))) else (x22 false))
noncomputable def zkh {α : Type} (A : Alg α) (s : Sch) (x : Stp) (kc : List AV → List (Nat × List AV) → α) : α :=
  A.callx 13 [agg [iV s.ver, lst .ro 2 (map frmV s.forms)], iV x.form] fun l0 => aI A l0 fun n3 l2 => asN A l2 (bif (x.op == (9 : Int)) then (bif (decide (n3 ≥ (0 : Int))) then (kc [iV 9] []) else (kc [iV 0] [])) else (bif (decide (n3 < (0 : Int))) then (kc [iV 8] []) else (A.chk (decide ((0 : Int) ≤ n3)) (nthE A (map frmV s.forms) n3.toNat fun v4 => asA A v4 fun l5 => aI A l5 fun n8 l7 => aL A 5 l7 fun l11 l10 => asN A l10 (A.join (fun x12 => A.callx 66 [iV x.op] fun l13 => aB A l13 fun b16 l15 => asN A l15 (bif b16 then (A.callx 22 [agg [iV n8, lst .ro 5 l11], iV x.field] fun l17 => aI A l17 fun n20 l19 => asN A l19 (x12 (decide (n20 < (0 : Int))))) else (x12 false))) fun b21 => bif b21 then (kc [iV 8] []) else (A.join (fun x22 => bif (x.op == (1 : Int)) then (A.callx 22 [agg [iV n8, lst .ro 5 l11], iV x.f.id] fun l23 => aI A l23 fun n26 l25 => asN A l25 (bif (decide (n26 ≥ (0 : Int))) then (x22 true) else (z7l A s x kc n8 l11 x22))) else (z7l A s x kc n8 l11 x22)) fun b43 => bif b43 then (kc [iV 9] []) else (A.join (fun x44 => bif (x.op == (1 : Int)) then (bif (decide (x.place > (↑l11.length : Int))) then (x44 true) else (bif (x.op == (7 : Int)) then (x44 (decide (x.place ≥ (↑l11.length : Int)))) else (x44 false))) else (bif (x.op == (7 : Int)) then (x44 (decide (x.place ≥ (↑l11.length : Int)))) else (x44 false))) fun b45 => bif b45 then (kc [iV 3] []) else (kc [iV 0] []))))))))
noncomputable def z3y {α : Type} (A : Alg α) (f : Fld) (x : Stp) (kc : List AV → List (Nat × List AV) → α)  : α :=
  A.both (bif (f.kind == (1 : Int)) then (kc [lst .ro 5 [agg [iV f.id, iV 1, iV 0, iV (IntKind.i64.wrap (f.hi.tdiv x.a)), iV 0], agg [iV x.to, iV 1, iV 0, iV (if IntKind.i64.wrap (x.a - (1 : Int)) < f.hi then IntKind.i64.wrap (x.a - (1 : Int)) else f.hi), iV 0]], bool (f.lo == (0 : Int))] []) else (kc [lst .ro 5 [agg [iV f.id, iV 1, iV 0, iV (IntKind.i64.wrap (f.hi.tdiv x.a)), iV 0], agg [iV x.to, iV 1, iV 0, iV (if IntKind.i64.wrap (x.a - (1 : Int)) < f.hi then IntKind.i64.wrap (x.a - (1 : Int)) else f.hi), iV 0]], bool false] [])) (bif (f.kind == (1 : Int)) then (dbl A (kc [lst .ro 5 [agg [iV f.id, iV 1, iV 0, iV (IntKind.i64.wrap (f.hi.tdiv x.a)), iV 0], agg [iV x.to, iV 1, iV 0, iV (if IntKind.i64.wrap (x.a - (1 : Int)) < f.hi then IntKind.i64.wrap (x.a - (1 : Int)) else f.hi), iV 0]], bool (f.lo == (0 : Int))] [])) else (kc [lst .ro 5 [agg [iV f.id, iV 1, iV 0, iV (IntKind.i64.wrap (f.hi.tdiv x.a)), iV 0], agg [iV x.to, iV 1, iV 0, iV (if IntKind.i64.wrap (x.a - (1 : Int)) < f.hi then IntKind.i64.wrap (x.a - (1 : Int)) else f.hi), iV 0]], bool false] []))
noncomputable def z5j {α : Type} (A : Alg α) (f : Fld) (x : Stp) (kc : List AV → List (Nat × List AV) → α)  : α :=
  kc [lst .ro 5 [agg [iV f.id, iV 1, iV (if IntKind.i64.wrap (IntKind.i64.wrap (x.a * f.hi) + x.b) < IntKind.i64.wrap (IntKind.i64.wrap (x.a * f.lo) + x.b) then IntKind.i64.wrap (IntKind.i64.wrap (x.a * f.hi) + x.b) else IntKind.i64.wrap (IntKind.i64.wrap (x.a * f.lo) + x.b)), iV (if IntKind.i64.wrap (IntKind.i64.wrap (x.a * f.lo) + x.b) < IntKind.i64.wrap (IntKind.i64.wrap (x.a * f.hi) + x.b) then IntKind.i64.wrap (IntKind.i64.wrap (x.a * f.hi) + x.b) else IntKind.i64.wrap (IntKind.i64.wrap (x.a * f.lo) + x.b)), iV 0]], bool false] []
noncomputable def z5k {α : Type} (A : Alg α) (f : Fld) (x : Stp) (kc : List AV → List (Nat × List AV) → α) (b27 : Bool) : α :=
  kc [lst .ro 5 [agg [iV f.id, iV 1, iV (if IntKind.i64.wrap (IntKind.i64.wrap (x.a * f.hi) + x.b) < IntKind.i64.wrap (IntKind.i64.wrap (x.a * f.lo) + x.b) then IntKind.i64.wrap (IntKind.i64.wrap (x.a * f.hi) + x.b) else IntKind.i64.wrap (IntKind.i64.wrap (x.a * f.lo) + x.b)), iV (if IntKind.i64.wrap (IntKind.i64.wrap (x.a * f.lo) + x.b) < IntKind.i64.wrap (IntKind.i64.wrap (x.a * f.hi) + x.b) then IntKind.i64.wrap (IntKind.i64.wrap (x.a * f.hi) + x.b) else IntKind.i64.wrap (IntKind.i64.wrap (x.a * f.lo) + x.b)), iV 0]], bool b27] []
noncomputable def z5l {α : Type} (A : Alg α) (f : Fld) (x : Stp) (kc : List AV → List (Nat × List AV) → α)  : α :=
  A.callx 65 [agg [iV f.id, iV 1, iV (if IntKind.i64.wrap (IntKind.i64.wrap (x.a * f.hi) + x.b) < IntKind.i64.wrap (IntKind.i64.wrap (x.a * f.lo) + x.b) then IntKind.i64.wrap (IntKind.i64.wrap (x.a * f.hi) + x.b) else IntKind.i64.wrap (IntKind.i64.wrap (x.a * f.lo) + x.b)), iV (if IntKind.i64.wrap (IntKind.i64.wrap (x.a * f.lo) + x.b) < IntKind.i64.wrap (IntKind.i64.wrap (x.a * f.hi) + x.b) then IntKind.i64.wrap (IntKind.i64.wrap (x.a * f.hi) + x.b) else IntKind.i64.wrap (IntKind.i64.wrap (x.a * f.lo) + x.b)), iV 0]] fun l16 => aB A l16 fun b19 l18 => asN A l18 (z5k A f x kc b19)
noncomputable def z7m {α : Type} (A : Alg α) (f : Fld) (x : Stp) (kc : List AV → List (Nat × List AV) → α)  : α :=
  A.callx 67 [agg [iV f.id, iV f.kind, iV f.lo, iV f.hi, iV f.most], agg [iV x.f.id, iV x.f.kind, iV x.f.lo, iV x.f.hi, iV x.f.most]] fun l4 => aB A l4 fun b7 l6 => asN A l6 (kc [lst .ro 5 [agg [iV x.f.id, iV x.f.kind, iV x.f.lo, iV x.f.hi, iV x.f.most]], bool b7] [])
noncomputable def z29 {α : Type} (A : Alg α) (f : Fld) (x : Stp) (kc : List AV → List (Nat × List AV) → α) : α :=
  bif (x.op == (2 : Int)) then (A.callx 37 [agg [iV f.id, iV f.kind, iV f.lo, iV f.hi, iV f.most], agg [iV x.n, str x.s]] fun l0 => aB A l0 fun b3 l2 => asN A l2 (kc [lst .ro 5 [], bool b3] [])) else (bif (x.op == (3 : Int)) then (A.both (z7m A f x kc) (A.both (z7m A f x kc) (A.callx 67 [agg [iV f.id, iV f.kind, iV f.lo, iV f.hi, iV f.most], agg [iV x.f.id, iV x.f.kind, iV x.f.lo, iV x.f.hi, iV x.f.most]] fun l12 => aB A l12 fun b15 l14 => asN A l14 (kc [lst .ro 5 [agg [iV x.f.id, iV x.f.kind, iV x.f.lo, iV x.f.hi, iV x.f.most]], bool b15] [])))) else (bif (x.op == (4 : Int)) then (A.both (bif (f.kind == (1 : Int)) then (z5l A f x kc) else (z5j A f x kc)) (bif (f.kind == (1 : Int)) then (A.both (z5l A f x kc) (A.callx 65 [agg [iV f.id, iV 1, iV (if IntKind.i64.wrap (IntKind.i64.wrap (x.a * f.hi) + x.b) < IntKind.i64.wrap (IntKind.i64.wrap (x.a * f.lo) + x.b) then IntKind.i64.wrap (IntKind.i64.wrap (x.a * f.hi) + x.b) else IntKind.i64.wrap (IntKind.i64.wrap (x.a * f.lo) + x.b)), iV (if IntKind.i64.wrap (IntKind.i64.wrap (x.a * f.lo) + x.b) < IntKind.i64.wrap (IntKind.i64.wrap (x.a * f.hi) + x.b) then IntKind.i64.wrap (IntKind.i64.wrap (x.a * f.hi) + x.b) else IntKind.i64.wrap (IntKind.i64.wrap (x.a * f.lo) + x.b)), iV 0]] fun l24 => aB A l24 fun b27 l26 => asN A l26 (z5k A f x kc b27))) else (dbl A (z5j A f x kc)))) else (bif (x.op == (5 : Int)) then (A.both (A.both (bif (f.kind == (3 : Int)) then (kc [lst .ro 5 [agg [iV f.id, iV 3, iV 0, iV 0, iV x.a]], bool (f.most == (↑(map (fun n => iV n) x.t).length : Int))] []) else (kc [lst .ro 5 [agg [iV f.id, iV 3, iV 0, iV 0, iV x.a]], bool false] [])) (bif (f.kind == (3 : Int)) then (dbl A (kc [lst .ro 5 [agg [iV f.id, iV 3, iV 0, iV 0, iV x.a]], bool (f.most == (↑(map (fun n => iV n) x.t).length : Int))] [])) else (kc [lst .ro 5 [agg [iV f.id, iV 3, iV 0, iV 0, iV x.a]], bool false] []))) (bif (f.kind == (3 : Int)) then (A.both (dbl A (kc [lst .ro 5 [agg [iV f.id, iV 3, iV 0, iV 0, iV x.a]], bool (f.most == (↑(map (fun n => iV n) x.t).length : Int))] [])) (kc [lst .ro 5 [agg [iV f.id, iV 3, iV 0, iV 0, iV x.a]], bool (f.most == (↑(map (fun n => iV n) x.t).length : Int))] [])) else (kc [lst .ro 5 [agg [iV f.id, iV 3, iV 0, iV 0, iV x.a]], bool false] []))) else (bif (x.op == (6 : Int)) then (A.both (dbl A (A.chk (!x.a == (0 : Int)) (z3y A f x kc))) (A.both (A.chk (!x.a == (0 : Int)) (dbl A (z3y A f x kc))) (dbl A (A.chk (!x.a == (0 : Int)) (z3y A f x kc))))) else (bif (x.op == (8 : Int)) then (kc [lst .ro 5 [agg [iV x.to, iV f.kind, iV f.lo, iV f.hi, iV f.most]], bool true] []) else (kc [lst .ro 5 [agg [iV f.id, iV f.kind, iV f.lo, iV f.hi, iV f.most]], bool true] []))))))
noncomputable def zki {α : Type} (A : Alg α) (s : Sch) (f : Frm) (kc : List AV → List (Nat × List AV) → α) : α :=
  A.loop 4 [bool ((↑(map fldV f.fields).length : Int) == (0 : Int)), iV 0] [[iV s.ver, lst .ro 2 (map frmV s.forms)], [iV f.id, lst .ro 5 (map fldV f.fields)], [iV 0, lst .ro 2 []], [iV s.ver, lst (.own (.O 1005 1)) 2 []]] fun j0 l1 l2 => bif (j0.beq 1) then (aB A l1 fun b5 l4 => asN A l4 (asC A l2 fun l6 l7 => aI A l6 fun n10 l9 => aL A 5 l9 fun l13 l12 => asN A l12 (asC A l7 fun l14 l15 => aI A l14 fun n18 l17 => aL A 2 l17 fun l21 l20 => asN A l20 (asC A l15 fun l22 l23 => aI A l22 fun n26 l25 => asC A l25 fun v27 l28 => asOwn A 2 v27 fun x29 l30 => bif (x29.beq (.O (1005 : Nat) (1 : Nat))) then (asN A l28 (asN A l23 (bif (!b5) then (A.chk (decide ((l30.length + [agg [iV n10, lst .ro (nat_lit 5) l13]].length) * 32 ≤ 211106232532992)) (kc [agg [iV n26, lst .ro 2 (l30 ++ [agg [iV n10, lst .ro (nat_lit 5) l13]])]] [])) else (kc [agg [iV n26, lst .ro 2 l30]] [])))) else A.fail)))) else A.fail
noncomputable def zaw {α : Type} (A : Alg α) (s : Sch) (f : Frm) (b : Bool) (i : Int) (v : Int) (d : List Frm) (next : List AV → List (List AV) → α) (kc : Nat → List AV → List (List AV) → α) : α :=
  bif (decide (i < (↑(map frmV s.forms).length : Int))) then (A.join (fun x0 => bif (!b) then (A.chk (decide ((0 : Int) ≤ i)) (nthE A (map frmV s.forms) i.toNat fun v1 => asA A v1 fun l2 => aI A l2 fun n5 l4 => aL A 5 l4 fun l8 l7 => asN A l7 (x0 (decide (n5 ≥ f.id))))) else (x0 false)) fun b9 => bif b9 then (A.chk (decide (((map frmV d).length + [agg [iV f.id, lst .ro (nat_lit 5) (map fldV f.fields)]].length) * 32 ≤ 211106232532992)) (A.chk (decide ((0 : Int) ≤ i)) (nthE A (map frmV s.forms) i.toNat fun v10 => asA A v10 fun l11 => aI A l11 fun n14 l13 => aL A 5 l13 fun l17 l16 => asN A l16 (bif (n14 != f.id) then (A.chk (decide ((0 : Int) ≤ i)) (nthE A (map frmV s.forms) i.toNat fun v18 => asA A v18 fun l19 => aI A l19 fun n22 l21 => aL A 5 l21 fun l25 l24 => asN A l24 (dbl A (A.chk (decide (((map frmV d ++ [agg [iV f.id, lst .ro (nat_lit 5) (map fldV f.fields)]]).length + [agg [iV n22, lst .ro (nat_lit 5) l25]].length) * 32 ≤ 211106232532992)) (next [bool true, iV (IntKind.i64.wrap (i + (1 : Int)))] [[iV s.ver, lst .ro 2 (map frmV s.forms)], [iV f.id, lst .ro 5 (map fldV f.fields)], [iV 0, lst .ro 2 []], [iV v, lst (.own (.O 1005 1)) 2 (map frmV d ++ [agg [iV f.id, lst .ro (nat_lit 5) (map fldV f.fields)]] ++ [agg [iV n22, lst .ro (nat_lit 5) l25]])]]))))) else (next [bool true, iV (IntKind.i64.wrap (i + (1 : Int)))] [[iV s.ver, lst .ro 2 (map frmV s.forms)], [iV f.id, lst .ro 5 (map fldV f.fields)], [iV 0, lst .ro 2 []], [iV v, lst (.own (.O 1005 1)) 2 (map frmV d ++ [agg [iV f.id, lst .ro (nat_lit 5) (map fldV f.fields)]])]]))))) else (A.chk (decide ((0 : Int) ≤ i)) (nthE A (map frmV s.forms) i.toNat fun v26 => asA A v26 fun l27 => aI A l27 fun n30 l29 => aL A 5 l29 fun l33 l32 => asN A l32 (bif (n30 != f.id) then (A.chk (decide ((0 : Int) ≤ i)) (nthE A (map frmV s.forms) i.toNat fun v34 => asA A v34 fun l35 => aI A l35 fun n38 l37 => aL A 5 l37 fun l41 l40 => asN A l40 (dbl A (A.chk (decide (((map frmV d).length + [agg [iV n38, lst .ro (nat_lit 5) l41]].length) * 32 ≤ 211106232532992)) (next [bool b, iV (IntKind.i64.wrap (i + (1 : Int)))] [[iV s.ver, lst .ro 2 (map frmV s.forms)], [iV f.id, lst .ro 5 (map fldV f.fields)], [iV 0, lst .ro 2 []], [iV v, lst (.own (.O 1005 1)) 2 (map frmV d ++ [agg [iV n38, lst .ro (nat_lit 5) l41]])]]))))) else (next [bool b, iV (IntKind.i64.wrap (i + (1 : Int)))] [[iV s.ver, lst .ro 2 (map frmV s.forms)], [iV f.id, lst .ro 5 (map fldV f.fields)], [iV 0, lst .ro 2 []], [iV v, lst (.own (.O 1005 1)) 2 (map frmV d)]]))))) else (kc 1 [bool b] [[iV f.id, lst .ro 5 (map fldV f.fields)], [iV 0, lst .ro 2 []], [iV v, lst (.own (.O 1005 1)) 2 (map frmV d)]])
noncomputable def z3l {α : Type} (A : Alg α) (s : Sch) (x : Stp) (kc : List AV → List (Nat × List AV) → α) (j14 : Nat) (l15 : List AV) (l16 : List (List AV)) : α :=
  bif (j14.beq 0) then (aI A l15 fun n19 l18 => asN A l18 (asC A l16 fun l20 l21 => aI A l20 fun n24 l23 => aL A 2 l23 fun l27 l26 => asN A l26 (asN A l21 (kc [agg [iV n24, lst .ro 2 l27], iV n19] [])))) else A.fail
noncomputable def z8s {α : Type} (A : Alg α) (s : Sch) (x : Stp) (kc : List AV → List (Nat × List AV) → α) (j116 : Nat) (l117 : List AV) (l118 : List (List AV)) : α :=
  bif (j116.beq 2) then (asN A l117 (asC A l118 fun l119 l120 => aI A l119 fun n123 l122 => aL A 2 l122 fun l126 l125 => asN A l125 (asC A l120 fun l127 l128 => aI A l127 fun n131 l130 => aL A 2 l130 fun l134 l133 => asN A l133 (asC A l128 fun l135 l136 => aI A l135 fun n139 l138 => aL A 5 l138 fun l142 l141 => asN A l141 (asN A l136 (bif ((↑l142.length : Int) == (0 : Int)) then (kc [agg [iV 0, lst .ro 2 []], iV 7] []) else (A.loop 1000028 [] [[iV n123, lst .ro 2 l126], [iV n131, lst .ro 2 l134], [iV n139, lst .ro 5 l142]] fun j143 l144 l145 => z3l A s x kc j143 l144 l145))))))) else A.fail
noncomputable def s_zOn {α : Type} (A : Alg α) (s : Sch) (x : Stp) (kc : List AV → List (Nat × List AV) → α) : α :=
  A.join (fun x0 => A.callx 29 [agg [iV s.ver, lst .ro 2 (map frmV s.forms)]] fun l1 => aB A l1 fun b4 l3 => asN A l3 (bif (!b4) then (x0 true) else (A.callx 30 [agg [iV x.op, iV x.form, iV x.field, iV x.place, iV x.to, iV x.a, iV x.b, iV x.f.id, iV x.f.kind, iV x.f.lo, iV x.f.hi, iV x.f.most, iV x.n, str x.s, lst .ro 1 (map (fun n => iV n) x.t), lst .ro 5 (map fldV x.fields)]] fun l5 => aB A l5 fun b8 l7 => asN A l7 (bif (!b8) then (x0 true) else (x0 (decide (x.op > (10 : Int)))))))) fun b9 => bif b9 then (kc [agg [iV 0, lst .ro 2 []], iV 2] []) else (A.callx 31 [agg [iV s.ver, lst .ro 2 (map frmV s.forms)], agg [iV x.op, iV x.form, iV x.field, iV x.place, iV x.to, iV x.a, iV x.b, iV x.f.id, iV x.f.kind, iV x.f.lo, iV x.f.hi, iV x.f.most, iV x.n, str x.s, lst .ro 1 (map (fun n => iV n) x.t), lst .ro 5 (map fldV x.fields)]] fun l10 => aI A l10 fun n13 l12 => asN A l12 (bif (n13 != (0 : Int)) then (kc [agg [iV 0, lst .ro 2 []], iV n13] []) else (bif (x.op == (9 : Int)) then (A.chk (decide (((0 : Nat) + (map fldV x.fields).length) * 40 ≤ 211106232532992)) (A.loop 1000028 [] [[iV s.ver, lst .ro 2 (map frmV s.forms)], [iV 0, lst .ro 2 []], [iV x.form, lst .ro 5 (map fldV x.fields)]] fun j14 l15 l16 => z3l A s x kc j14 l15 l16)) else (bif (x.op == (1 : Int)) then (A.callx 13 [agg [iV s.ver, lst .ro 2 (map frmV s.forms)], iV x.form] fun l28 => aI A l28 fun n31 l30 => asN A l30 (A.chk (decide ((0 : Int) ≤ n31)) (nthE A (map frmV s.forms) n31.toNat fun v32 => asA A v32 fun l33 => aI A l33 fun n36 l35 => aL A 5 l35 fun l39 l38 => asN A l38 (A.callx 32 [lst .ro 5 l39, iV x.place, agg [iV x.f.id, iV x.f.kind, iV x.f.lo, iV x.f.hi, iV x.f.most]] fun l40 => aL A 5 l40 fun l43 l42 => asN A l42 (A.loop 1000028 [] [[iV s.ver, lst .ro 2 (map frmV s.forms)], [iV 0, lst .ro 2 []], [iV x.form, lst .ro 5 l43]] fun j44 l45 l46 => z3l A s x kc j44 l45 l46))))) else (bif (x.op == (10 : Int)) then (A.loop 1000028 [] [[iV s.ver, lst .ro 2 (map frmV s.forms)], [iV 0, lst .ro 2 []], [iV x.form, lst .ro 5 []]] fun j58 l59 l60 => z3l A s x kc j58 l59 l60) else (A.callx 13 [agg [iV s.ver, lst .ro 2 (map frmV s.forms)], iV x.form] fun l72 => aI A l72 fun n75 l74 => asN A l74 (A.chk (decide ((0 : Int) ≤ n75)) (nthE A (map frmV s.forms) n75.toNat fun v76 => asA A v76 fun l77 => aI A l77 fun n80 l79 => aL A 5 l79 fun l83 l82 => asN A l82 (A.callx 22 [agg [iV 0, lst .ro 5 l83], iV x.field] fun l84 => aI A l84 fun n87 l86 => asN A l86 (A.chk (decide ((0 : Int) ≤ n87)) (nthE A l83 n87.toNat fun v88 => asA A v88 fun l89 => aI A l89 fun n92 l91 => aI A l91 fun n95 l94 => aI A l94 fun n98 l97 => aI A l97 fun n101 l100 => aI A l100 fun n104 l103 => asN A l103 (A.callx 33 [agg [iV n92, iV n95, iV n98, iV n101, iV n104], agg [iV x.op, iV x.form, iV x.field, iV x.place, iV x.to, iV x.a, iV x.b, iV x.f.id, iV x.f.kind, iV x.f.lo, iV x.f.hi, iV x.f.most, iV x.n, str x.s, lst .ro 1 (map (fun n => iV n) x.t), lst .ro 5 (map fldV x.fields)]] fun l105 => aL A 5 l105 fun l108 l107 => aB A l107 fun b111 l110 => asN A l110 (bif (!b111) then (kc [agg [iV 0, lst .ro 2 []], iV 17] []) else (A.callx 34 [lst .ro 5 l83, iV n87] fun l112 => aL A 5 l112 fun l115 l114 => asN A l114 (bif (x.op == (7 : Int)) then (A.loop 17 [iV x.place, lst .ro 5 l108, iV 0] [[iV s.ver, lst .ro 2 (map frmV s.forms)], [iV 0, lst .ro 2 []], [iV x.form, lst .ro 5 l115]] fun j116 l117 l118 => z8s A s x kc j116 l117 l118) else (A.loop 17 [iV n87, lst .ro 5 l108, iV 0] [[iV s.ver, lst .ro 2 (map frmV s.forms)], [iV 0, lst .ro 2 []], [iV x.form, lst .ro 5 l115]] fun j157 l158 l159 => z8s A s x kc j157 l158 l159))))))))))))))))
noncomputable def zkj {α : Type} (A : Alg α) (s : Sch) (n : Int) (l : List Fld) (i : Int) (f : Frm) (next : List AV → List (List AV) → α) (kc : Nat → List AV → List (List AV) → α) : α :=
  bif (decide (i < (↑(map fldV l).length : Int))) then (A.chk (decide ((0 : Int) ≤ i)) (nthE A (map fldV l) i.toNat fun v0 => asA A v0 fun l1 => aI A l1 fun n4 l3 => aI A l3 fun n7 l6 => aI A l6 fun n10 l9 => aI A l9 fun n13 l12 => aI A l12 fun n16 l15 => asN A l15 (A.callx 32 [lst .ro 5 (map fldV f.fields), iV (IntKind.i64.wrap (n + i)), agg [iV n4, iV n7, iV n10, iV n13, iV n16]] fun l17 => aL A 5 l17 fun l20 l19 => asN A l19 (next [iV n, lst .ro 5 (map fldV l), iV (IntKind.i64.wrap (i + (1 : Int)))] [[iV s.ver, lst .ro 2 (map frmV s.forms)], [iV 0, lst .ro 2 []], [iV f.id, lst .ro 5 l20]])))) else (kc 2 [] [[iV s.ver, lst .ro 2 (map frmV s.forms)], [iV 0, lst .ro 2 []], [iV f.id, lst .ro 5 (map fldV f.fields)]])
noncomputable def zr2 {α : Type} (A : Alg α) (s : Sch) (f : Frm) (next : List AV → List (List AV) → α) (kc : Nat → List AV → List (List AV) → α) : α :=
  A.callx 35 [agg [iV s.ver, lst .ro 2 (map frmV s.forms)], agg [iV f.id, lst .ro 5 (map fldV f.fields)]] fun l0 => aA A l0 fun l3 l2 => aI A l3 fun n6 l5 => aL A 2 l5 fun l9 l8 => asN A l8 (asN A l2 (A.callx 29 [agg [iV n6, lst .ro 2 l9]] fun l10 => aB A l10 fun b13 l12 => asN A l12 (bif (!b13) then (kc 0 [iV 7] [[iV 0, lst .ro 2 []]]) else (kc 0 [iV 0] [[iV n6, lst .ro 2 l9]]))))
theorem zu4 (f g : Fld) {r : CR} (h : zkf (OA (tbl E0) (ltbl E0 67 0)) f g (fun r o => some (r, o)) = some r) : tbl E0 67 [fldV f, fldV g] [] = some r :=
  tblF Tryz.func67 h
theorem zz0 (l : List Fld) (n : Int) (f : Fld) {r : CR} (h : zr0 (OA (tbl E0) (ltbl E0 32 0)) l n f (fun r o => some (r, o)) = some r) : tbl E0 32 [fldsV l, iV n, fldV f] [] = some r :=
  tblF Tryz.func32 h
theorem zz1 (l : List Fld) (n : Int) {r : CR} (h : zr1 (OA (tbl E0) (ltbl E0 34 0)) l n (fun r o => some (r, o)) = some r) : tbl E0 34 [fldsV l, iV n] [] = some r :=
  tblF Tryz.func34 h
theorem zu5 (op : Int) {r : CR} (h : zkg (OA (tbl E0) (ltbl E0 66 0)) op (fun r o => some (r, o)) = some r) : tbl E0 66 [iV op] [] = some r :=
  tblF Tryz.func66 h
theorem zu6 (s : Sch) (x : Stp) {r : CR} (h : zkh (OA (tbl E0) (ltbl E0 31 0)) s x (fun r o => some (r, o)) = some r) : tbl E0 31 [schV s, stpV x] [] = some r :=
  tblF Tryz.func31 h
theorem zu7 (f : Fld) (x : Stp) {r : CR} (h : z29 (OA (tbl E0) (ltbl E0 33 0)) f x (fun r o => some (r, o)) = some r) : tbl E0 33 [fldV f, stpV x] [] = some r :=
  tblF Tryz.func33 h
theorem zu8 (s : Sch) (f : Frm) {r : CR} (h : zki (OA (tbl E0) (ltbl E0 35 0)) s f (fun r o => some (r, o)) = some r) : tbl E0 35 [schV s, frmV f] [] = some r :=
  tblF Tryz.func35 h
theorem zh7 (s : Sch) (f : Frm) (b : Bool) (i v : Int) (d : List Frm) {r : LR} (h : zaw (OA (tbl E0) (ltbl E0 35 0)) s f b i v d (fun vs os => ltbl E0 35 0 4 vs os) (fun j vs os => some (j, vs, os)) = some r) : ltbl E0 35 0 4 [.bool b, iV i] [[iV s.ver, frmsV s.forms], [iV f.id, fldsV f.fields], [iV 0, frmsV []], [iV v, .lst (.own (.O 1005 1)) 2 (d.map frmV)]] = some r :=
  ltblF Tryz.func35 h
theorem t_zOn (s : Sch) (x : Stp) {r : CR} (h : s_zOn (OA (tbl E0) (ltbl E0 12 0)) s x (fun r o => some (r, o)) = some r) : tbl E0 12 [schV s, stpV x] [] = some r :=
  tblF Tryz.func12 h
theorem zr3 (s : Sch) (n : Int) (l : List Fld) (i : Int) (f : Frm) {r : LR} (h : zkj (OA (tbl E0) (ltbl E0 12 0)) s n l i f (fun vs os => ltbl E0 12 0 17 vs os) (fun j vs os => some (j, vs, os)) = some r) : ltbl E0 12 0 17 [iV n, fldsV l, iV i] [[iV s.ver, frmsV s.forms], [iV 0, frmsV []], [iV f.id, fldsV f.fields]] = some r :=
  ltblF Tryz.func12 h
theorem zz2 (s : Sch) (f : Frm) {r : LR} (h : zr2 (OA (tbl E0) (ltbl E0 12 0)) s f (fun vs os => ltbl E0 12 0 1000028 vs os) (fun j vs os => some (j, vs, os)) = some r) : ltbl E0 12 0 1000028 [] [[iV s.ver, frmsV s.forms], [iV 0, frmsV []], [iV f.id, fldsV f.fields]] = some r :=
  ltblF Tryz.func12 h
end V
namespace V
open AV (int lst agg str bool ref clo)
open List (map)
abbrev fldsU (l : List Fld) : AV := AV.lst .uq 5 (l.map fldV)
abbrev frmsU (l : List Frm) : AV := AV.lst .uq 2 (l.map frmV)
abbrev madO (x : Stp) (v : Int) (l : List Frm) (p e : Int) : List AV := [iV x.op, iV x.form, iV x.field, iV x.place, iV x.to, iV x.a, iV x.b, iV x.f.id, iV x.f.kind, iV x.f.lo, iV x.f.hi, iV x.f.most, iV x.n, .str x.s, intsV x.t, fldsV x.fields, iV v, frmsU l, iV p, iV e]
-- folds: dbl
-- folds: cse
-- fold madO x V L P E := [iV x.op, iV x.form, iV x.field, iV x.place, iV x.to, iV x.a, iV x.b, iV x.f.id, iV x.f.kind, iV x.f.lo, iV x.f.hi, iV x.f.most, iV x.n, str x.s, lst .ro 1 (map (fun n => iV n) x.t), lst .ro 5 (map fldV x.fields), iV V, lst .uq 2 (map frmV L), iV P, iV E]
noncomputable def zcy {α : Type} (A : Alg α) (l : List Fld) (kc : List AV → List (Nat × List AV) → α) : α :=
  nilEq A Md.ro (map fldV l) fun b0 => bif b0 then (kc [lst .uq 5 []] []) else (A.chk (decide (((0 : Nat) + (map fldV l).length) * 40 ≤ 211106232532992)) (bif (([] ++ map fldV l).all AV.flat) then (kc [lst .uq 5 (map fldV l)] []) else A.fail))
noncomputable def zh8 {α : Type} (A : Alg α) (s : Sch) (kc : List AV → List (Nat × List AV) → α) : α :=
  A.loop 3 [lst .ro 2 (map frmV s.forms), iV (↑(map frmV s.forms).length : Int), iV 0] [[iV 0, lst .ro 2 []], [iV s.ver, lst .uq 2 []]] fun j0 l1 l2 => bif (j0.beq 1) then (asN A l1 (asC A l2 fun l3 l4 => aI A l3 fun n7 l6 => aL A 2 l6 fun l10 l9 => asN A l9 (asC A l4 fun l11 l12 => aI A l11 fun n15 l14 => aU A 2 l14 fun l18 l17 => asN A l17 (asN A l12 (bif (l18.all AV.flat) then (kc [agg [iV n15, lst .uq 2 l18]] []) else A.fail))))) else A.fail
noncomputable def z8t {α : Type} (A : Alg α) (l : List Frm) (v : Int) (d : List Frm) (m : Int) (i : Int) (next : List AV → List (List AV) → α) (kc : Nat → List AV → List (List AV) → α) : α :=
  bif (decide (i < m)) then (A.chk (decide ((0 : Int) ≤ i)) (nthE A (map frmV l) i.toNat fun v0 => asA A v0 fun l1 => aI A l1 fun n4 l3 => aL A 5 l3 fun l7 l6 => asN A l6 (A.both (A.call 45 [lst .ro 5 l7] [] fun l8 l9 => aU A 5 l8 fun l12 l11 => asN A l11 (asN A l9 (bif (l12.all AV.flat) then (A.chk (decide (((map frmV d).length + [agg [iV n4, lst .ro (nat_lit 5) l12]].length) * 32 ≤ 211106232532992)) (bif ((map frmV d ++ [agg [iV n4, lst .ro (nat_lit 5) l12]]).all AV.flat) then (next [lst .ro 2 (map frmV l), iV m, iV (IntKind.i64.wrap (i + (1 : Int)))] [[iV 0, lst .ro 2 []], [iV v, lst .uq 2 (map frmV d ++ [agg [iV n4, lst .ro (nat_lit 5) l12]])]]) else A.fail)) else A.fail))) (A.call 45 [lst .ro 5 l7] [] fun l13 l14 => aU A 5 l13 fun l17 l16 => asN A l16 (asN A l14 (bif (l17.all AV.flat) then (dbl A (A.chk (decide (((map frmV d).length + [agg [iV n4, lst .ro (nat_lit 5) l17]].length) * 32 ≤ 211106232532992)) (bif ((map frmV d ++ [agg [iV n4, lst .ro (nat_lit 5) l17]]).all AV.flat) then (next [lst .ro 2 (map frmV l), iV m, iV (IntKind.i64.wrap (i + (1 : Int)))] [[iV 0, lst .ro 2 []], [iV v, lst .uq 2 (map frmV d ++ [agg [iV n4, lst .ro (nat_lit 5) l17]])]]) else A.fail))) else A.fail)))))) else (bif ((map frmV d).all AV.flat) then (kc 1 [] [[iV 0, lst .ro 2 []], [iV v, lst .uq 2 (map frmV d)]]) else A.fail)
noncomputable def zn1 {α : Type} (A : Alg α) (x : Stp) (v : Int) (l : List Frm) (p : Int) (e : Int) (kc : List AV → List (Nat × List AV) → α) : α :=
  bif (fitI [((0 : Nat), (madO x v l p e))] && [ref (0 : Nat) (0 : Nat)].all fitA && nodupN (map (fun x => x.fst) (oshOf T0 (0 : Nat) [ref (0 : Nat) (0 : Nat)] Go.Proofs.Tryz.f79.params.toList)) && (oshOf T0 (0 : Nat) [ref (0 : Nat) (0 : Nat)] Go.Proofs.Tryz.f79.params.toList).all fun p => p.fst.blt (64 : Nat)) then (bif ((map frmV l).all AV.flat) then (A.loop 2 [] [(madO x v l 0 e)] fun j0 l1 l2 => bif (j0.beq 1) then (asN A l1 (asC A l2 fun l3 l4 => aI A l3 fun n7 l6 => aI A l6 fun n10 l9 => aI A l9 fun n13 l12 => aI A l12 fun n16 l15 => aI A l15 fun n19 l18 => aI A l18 fun n22 l21 => aI A l21 fun n25 l24 => aI A l24 fun n28 l27 => aI A l27 fun n31 l30 => aI A l30 fun n34 l33 => aI A l33 fun n37 l36 => aI A l36 fun n40 l39 => aI A l39 fun n43 l42 => aS A l42 fun l46 l45 => aL A 1 l45 fun l49 l48 => aL A 5 l48 fun l52 l51 => aI A l51 fun n55 l54 => aU A 2 l54 fun l58 l57 => aI A l57 fun n61 l60 => aI A l60 fun n64 l63 => asN A l63 (asN A l4 (A.join (fun x65 => bif (decide (n61 < (↑l58.length : Int))) then (A.chk (decide ((0 : Int) ≤ n61) && decide (n61 < (↑l58.length : Int))) (nthE A l58 n61.toNat fun v66 => nthE A v66.cells 0 fun v67 => asI A .i64 v67 fun n68 => x65 (n68 == n10))) else (x65 false)) fun b69 => bif (l58.all AV.flat) then (kc [bool b69] [(0, [iV n7, iV n10, iV n13, iV n16, iV n19, iV n22, iV n25, iV n28, iV n31, iV n34, iV n37, iV n40, iV n43, str l46, lst .ro 1 l49, lst .ro 5 l52, iV n55, lst .uq 2 l58, iV n61, iV n64])]) else A.fail)))) else A.fail) else A.fail) else A.fail
noncomputable def zcz {α : Type} (A : Alg α) (x : Stp) (v : Int) (l : List Frm) (p : Int) (e : Int) (next : List AV → List (List AV) → α) (kc : Nat → List AV → List (List AV) → α) : α :=
  A.join (fun x0 => bif (decide (p < (↑(map frmV l).length : Int))) then (A.chk (decide ((0 : Int) ≤ p) && decide (p < (↑(map frmV l).length : Int))) (nthE A (map frmV l) p.toNat fun v1 => nthE A v1.cells 0 fun v2 => asI A .i64 v2 fun n3 => x0 (decide (n3 < x.form)))) else (x0 false)) fun b4 => bif b4 then (bif ((map frmV l).all AV.flat) then (next [] [(madO x v l (IntKind.i64.wrap (p + (1 : Int))) e)]) else A.fail) else (bif ((map frmV l).all AV.flat) then (kc 1 [] [(madO x v l p e)]) else A.fail)
noncomputable def z1s {α : Type} (A : Alg α) (x : Stp) (v : Int) (l : List Frm) (p : Int) (e : Int) (kc : List AV → List (Nat × List AV) → α) (j78 : Nat) (l79 : List AV) (l80 : List (List AV)) : α :=
  bif (j78.beq 0) then (aI A l79 fun n83 l82 => asN A l82 (asC A l80 fun l84 l85 => aI A l84 fun n88 l87 => aI A l87 fun n91 l90 => aI A l90 fun n94 l93 => aI A l93 fun n97 l96 => aI A l96 fun n100 l99 => aI A l99 fun n103 l102 => aI A l102 fun n106 l105 => aI A l105 fun n109 l108 => aI A l108 fun n112 l111 => aI A l111 fun n115 l114 => aI A l114 fun n118 l117 => aI A l117 fun n121 l120 => aI A l120 fun n124 l123 => aS A l123 fun l127 l126 => aL A 1 l126 fun l130 l129 => aL A 5 l129 fun l133 l132 => aI A l132 fun n136 l135 => aU A 2 l135 fun l139 l138 => aI A l138 fun n142 l141 => aI A l141 fun n145 l144 => asN A l144 (asN A l85 (bif (l139.all AV.flat) then (kc [iV n83] [(0, [iV n88, iV n91, iV n94, iV n97, iV n100, iV n103, iV n106, iV n109, iV n112, iV n115, iV n118, iV n121, iV n124, str l127, lst .ro 1 l130, lst .ro 5 l133, iV n136, lst .uq 2 l139, iV n142, iV n145])]) else A.fail)))) else A.fail
noncomputable def z7n {α : Type} (A : Alg α) (x : Stp) (v : Int) (l : List Frm) (p : Int) (e : Int) (kc : List AV → List (Nat × List AV) → α) (l57 : List AV) (n18 : Int) (n6 : Int) (n9 : Int) (n12 : Int) (n15 : Int) (n21 : Int) (n24 : Int) (n27 : Int) (n30 : Int) (n33 : Int) (n36 : Int) (n39 : Int) (n42 : Int) (l45 : List UInt8) (l48 : List AV) (l51 : List AV) (n54 : Int) (n60 : Int) (n77 : Int) (n70 : Int) (l73 : List AV) : α :=
  bif (l57.all AV.flat) then (A.loop 1000020 [iV n18] [[iV n6, iV n9, iV n12, iV n15, iV n18, iV n21, iV n24, iV n27, iV n30, iV n33, iV n36, iV n39, iV n42, str l45, lst .ro 1 l48, lst .ro 5 l51, iV n54, lst .uq 2 l57, iV n60, iV n77], [iV n70, lst .ro 5 l73]] fun j146 l147 l148 => z1s A x v l p e kc j146 l147 l148) else A.fail
noncomputable def z3b {α : Type} (A : Alg α) (x : Stp) (v : Int) (l : List Frm) (p : Int) (e : Int) (kc : List AV → List (Nat × List AV) → α) (l57 : List AV) (n60 : Int) (n12 : Int) (n6 : Int) (n27 : Int) (n9 : Int) (n15 : Int) (n18 : Int) (n21 : Int) (n24 : Int) (n30 : Int) (n33 : Int) (n36 : Int) (n39 : Int) (n42 : Int) (l45 : List UInt8) (l48 : List AV) (l51 : List AV) (n54 : Int) : α :=
  nthE A l57 n60.toNat fun v67 => A.chk (Nat.ble (2 : Nat) v67.cells.length) (asC A (List.take (2 : Nat) (List.drop (0 : Nat) v67.cells)) fun v68 l69 => asI A .i64 v68 fun n70 => aL A 5 l69 fun l73 l72 => asN A l72 (A.callx 50 [agg [iV n70, lst .ro 5 l73], iV n12] fun l74 => aI A l74 fun n77 l76 => asN A l76 (bif (n6 == (1 : Int)) then (bif (l57.all AV.flat) then (A.loop 1000020 [iV n27] [[iV n6, iV n9, iV n12, iV n15, iV n18, iV n21, iV n24, iV n27, iV n30, iV n33, iV n36, iV n39, iV n42, str l45, lst .ro 1 l48, lst .ro 5 l51, iV n54, lst .uq 2 l57, iV n60, iV n15], [iV n70, lst .ro 5 l73]] fun j78 l79 l80 => z1s A x v l p e kc j78 l79 l80) else A.fail) else (bif (n6 == (6 : Int)) then (z7n A x v l p e kc l57 n18 n6 n9 n12 n15 n21 n24 n27 n30 n33 n36 n39 n42 l45 l48 l51 n54 n60 n77 n70 l73) else (bif (n6 == (8 : Int)) then (z7n A x v l p e kc l57 n18 n6 n9 n12 n15 n21 n24 n27 n30 n33 n36 n39 n42 l45 l48 l51 n54 n60 n77 n70 l73) else (bif (n6 == (10 : Int)) then (bif (l57.all AV.flat) then (A.loop 1000020 [iV (-1)] [[iV n6, iV n9, iV n12, iV n15, iV n18, iV n21, iV n24, iV n27, iV n30, iV n33, iV n36, iV n39, iV n42, str l45, lst .ro 1 l48, lst .ro 5 l51, iV n54, lst .uq 2 l57, iV n60, iV 0], [iV n70, lst .ro 5 l73]] fun j282 l283 l284 => z1s A x v l p e kc j282 l283 l284) else A.fail) else (bif (l57.all AV.flat) then (A.loop 1000020 [iV (-1)] [[iV n6, iV n9, iV n12, iV n15, iV n18, iV n21, iV n24, iV n27, iV n30, iV n33, iV n36, iV n39, iV n42, str l45, lst .ro 1 l48, lst .ro 5 l51, iV n54, lst .uq 2 l57, iV n60, iV n77], [iV n70, lst .ro 5 l73]] fun j350 l351 l352 => z1s A x v l p e kc j350 l351 l352) else A.fail)))))))
noncomputable def z7o {α : Type} (A : Alg α) (x : Stp) (v : Int) (l : List Frm) (p : Int) (e : Int) (kc : List AV → List (Nat × List AV) → α) (n60 : Int) (l57 : List AV) (n12 : Int) (n6 : Int) (n27 : Int) (n9 : Int) (n15 : Int) (n18 : Int) (n21 : Int) (n24 : Int) (n30 : Int) (n33 : Int) (n36 : Int) (n39 : Int) (n42 : Int) (l45 : List UInt8) (l48 : List AV) (l51 : List AV) (n54 : Int) : α :=
  A.both (A.both (A.chk (decide ((0 : Int) ≤ n60) && decide (n60 < (↑l57.length : Int))) (dbl A (z3b A x v l p e kc l57 n60 n12 n6 n27 n9 n15 n18 n21 n24 n30 n33 n36 n39 n42 l45 l48 l51 n54))) (A.chk (decide ((0 : Int) ≤ n60) && decide (n60 < (↑l57.length : Int))) (z3b A x v l p e kc l57 n60 n12 n6 n27 n9 n15 n18 n21 n24 n30 n33 n36 n39 n42 l45 l48 l51 n54))) (A.chk (decide ((0 : Int) ≤ n60) && decide (n60 < (↑l57.length : Int))) (z3b A x v l p e kc l57 n60 n12 n6 n27 n9 n15 n18 n21 n24 n30 n33 n36 n39 n42 l45 l48 l51 n54))
noncomputable def z8u {α : Type} (A : Alg α) (x : Stp) (v : Int) (l : List Frm) (p : Int) (e : Int) (kc : List AV → List (Nat × List AV) → α) : α :=
  bif (fitI [((0 : Nat), (madO x v l p e))] && [ref (0 : Nat) (0 : Nat)].all fitA && nodupN (map (fun x => x.fst) (oshOf T0 (0 : Nat) [ref (0 : Nat) (0 : Nat)] Go.Proofs.Tryz.f43.params.toList)) && (oshOf T0 (0 : Nat) [ref (0 : Nat) (0 : Nat)] Go.Proofs.Tryz.f43.params.toList).all fun p => p.fst.blt (64 : Nat)) then (bif ((map frmV l).all AV.flat) then (A.call 79 [ref 0 0] [(0, (madO x v l p e))] fun l0 l1 => asC A l1 fun x2 l3 => bif (x2.1.beq 0) then (aI A x2.2 fun n6 l5 => aI A l5 fun n9 l8 => aI A l8 fun n12 l11 => aI A l11 fun n15 l14 => aI A l14 fun n18 l17 => aI A l17 fun n21 l20 => aI A l20 fun n24 l23 => aI A l23 fun n27 l26 => aI A l26 fun n30 l29 => aI A l29 fun n33 l32 => aI A l32 fun n36 l35 => aI A l35 fun n39 l38 => aI A l38 fun n42 l41 => aS A l41 fun l45 l44 => aL A 1 l44 fun l48 l47 => aL A 5 l47 fun l51 l50 => aI A l50 fun n54 l53 => aU A 2 l53 fun l57 l56 => aI A l56 fun n60 l59 => aI A l59 fun n63 l62 => asN A l62 (aB A l0 fun b66 l65 => asN A l65 (asN A l3 (bif (n6 == (9 : Int)) then (bif b66 then (bif (l57.all AV.flat) then (kc [iV 9] [(0, [iV n6, iV n9, iV n12, iV n15, iV n18, iV n21, iV n24, iV n27, iV n30, iV n33, iV n36, iV n39, iV n42, str l45, lst .ro 1 l48, lst .ro 5 l51, iV n54, lst .uq 2 l57, iV n60, iV n63])]) else A.fail) else (bif (l57.all AV.flat) then (kc [iV 0] [(0, [iV n6, iV n9, iV n12, iV n15, iV n18, iV n21, iV n24, iV n27, iV n30, iV n33, iV n36, iV n39, iV n42, str l45, lst .ro 1 l48, lst .ro 5 l51, iV n54, lst .uq 2 l57, iV n60, iV n63])]) else A.fail)) else (bif (!b66) then (bif (l57.all AV.flat) then (kc [iV 8] [(0, [iV n6, iV n9, iV n12, iV n15, iV n18, iV n21, iV n24, iV n27, iV n30, iV n33, iV n36, iV n39, iV n42, str l45, lst .ro 1 l48, lst .ro 5 l51, iV n54, lst .uq 2 l57, iV n60, iV n63])]) else A.fail) else (A.both (z7o A x v l p e kc n60 l57 n12 n6 n27 n9 n15 n18 n21 n24 n30 n33 n36 n39 n42 l45 l48 l51 n54) (A.both (z7o A x v l p e kc n60 l57 n12 n6 n27 n9 n15 n18 n21 n24 n30 n33 n36 n39 n42 l45 l48 l51 n54) (dbl A (A.chk (decide ((0 : Int) ≤ n60) && decide (n60 < (↑l57.length : Int))) (z3b A x v l p e kc l57 n60 n12 n6 n27 n9 n15 n18 n21 n24 n30 n33 n36 n39 n42 l45 l48 l51 n54)))))))))) else A.fail) else A.fail) else A.fail
noncomputable def zh9 {α : Type} (A : Alg α) (x : Stp) (v : Int) (l : List Frm) (p : Int) (e : Int) (g : Frm) (n : Int) (next : List AV → List (List AV) → α) (kc : Nat → List AV → List (List AV) → α) : α :=
  bif (decide (e < (0 : Int))) then (bif ((map frmV l).all AV.flat) then (kc 0 [iV 8] [(madO x v l p e)]) else A.fail) else (A.join (fun x0 => bif (decide (n ≥ (0 : Int))) then (A.callx 50 [agg [iV g.id, lst .ro 5 (map fldV g.fields)], iV n] fun l1 => aI A l1 fun n4 l3 => asN A l3 (x0 (decide (n4 ≥ (0 : Int))))) else (x0 false)) fun b5 => bif b5 then (bif ((map frmV l).all AV.flat) then (kc 0 [iV 9] [(madO x v l p e)]) else A.fail) else (A.join (fun x6 => bif (x.op == (1 : Int)) then (x6 (decide (x.place > (↑(map fldV g.fields).length : Int)))) else (x6 false)) fun b7 => bif b7 then (bif ((map frmV l).all AV.flat) then (kc 0 [iV 3] [(madO x v l p e)]) else A.fail) else (A.join (fun x8 => bif (x.op == (7 : Int)) then (x8 (decide (x.place ≥ (↑(map fldV g.fields).length : Int)))) else (x8 false)) fun b9 => bif b9 then (bif ((map frmV l).all AV.flat) then (kc 0 [iV 3] [(madO x v l p e)]) else A.fail) else (bif ((map frmV l).all AV.flat) then (kc 0 [iV 0] [(madO x v l p e)]) else A.fail))))
noncomputable def zha {α : Type} (A : Alg α) (x : Stp) (v : Int) (l : List Frm) (p : Int) (e : Int) (kc : List AV → List (Nat × List AV) → α) : α :=
  bif (fitI [((0 : Nat), (madO x v l p e))] && [ref (0 : Nat) (0 : Nat)].all fitA && nodupN (map (fun x => x.fst) (oshOf T0 (0 : Nat) [ref (0 : Nat) (0 : Nat)] Go.Proofs.Tryz.f82.params.toList)) && (oshOf T0 (0 : Nat) [ref (0 : Nat) (0 : Nat)] Go.Proofs.Tryz.f82.params.toList).all fun p => p.fst.blt (64 : Nat)) then (A.chk (decide ((0 : Int) ≤ p) && decide (p < (↑(map frmV l).length : Int))) (nthE A (map frmV l) p.toNat fun v0 => nthE A v0.cells 1 fun v1 => asL A 5 v1 fun l2 => bif ((map frmV l).all AV.flat) then (kc [lst .ro 5 l2] [(0, (madO x v l p e))]) else A.fail)) else A.fail
noncomputable def zax {α : Type} (A : Alg α) (x : Stp) (v : Int) (l : List Frm) (p : Int) (e : Int) (kc : List AV → List (Nat × List AV) → α) (v67 : AV) (l57 : List AV) (n6 : Int) (n9 : Int) (n12 : Int) (n15 : Int) (n18 : Int) (n21 : Int) (n24 : Int) (n27 : Int) (n30 : Int) (n33 : Int) (n36 : Int) (n39 : Int) (n42 : Int) (l45 : List UInt8) (l48 : List AV) (l51 : List AV) (n54 : Int) (n60 : Int) (n63 : Int) : α :=
  asA A v67 fun l68 => aI A l68 fun n71 l70 => aI A l70 fun n74 l73 => aI A l73 fun n77 l76 => aI A l76 fun n80 l79 => aI A l79 fun n83 l82 => asN A l82 (bif (l57.all AV.flat) then (kc [agg [iV n71, iV n74, iV n77, iV n80, iV n83]] [(0, [iV n6, iV n9, iV n12, iV n15, iV n18, iV n21, iV n24, iV n27, iV n30, iV n33, iV n36, iV n39, iV n42, str l45, lst .ro 1 l48, lst .ro 5 l51, iV n54, lst .uq 2 l57, iV n60, iV n63])]) else A.fail)
noncomputable def zr4 {α : Type} (A : Alg α) (x : Stp) (v : Int) (l : List Frm) (p : Int) (e : Int) (kc : List AV → List (Nat × List AV) → α) : α :=
  bif (fitI [((0 : Nat), (madO x v l p e))] && [ref (0 : Nat) (0 : Nat)].all fitA && nodupN (map (fun x => x.fst) (oshOf T0 (0 : Nat) [ref (0 : Nat) (0 : Nat)] Go.Proofs.Tryz.f83.params.toList)) && (oshOf T0 (0 : Nat) [ref (0 : Nat) (0 : Nat)] Go.Proofs.Tryz.f83.params.toList).all fun p => p.fst.blt (64 : Nat)) then (A.both (bif ((map frmV l).all AV.flat) then (A.call 82 [ref 0 0] [(0, (madO x v l p e))] fun l0 l1 => asC A l1 fun x2 l3 => bif (x2.1.beq 0) then (aI A x2.2 fun n6 l5 => aI A l5 fun n9 l8 => aI A l8 fun n12 l11 => aI A l11 fun n15 l14 => aI A l14 fun n18 l17 => aI A l17 fun n21 l20 => aI A l20 fun n24 l23 => aI A l23 fun n27 l26 => aI A l26 fun n30 l29 => aI A l29 fun n33 l32 => aI A l32 fun n36 l35 => aI A l35 fun n39 l38 => aI A l38 fun n42 l41 => aS A l41 fun l45 l44 => aL A 1 l44 fun l48 l47 => aL A 5 l47 fun l51 l50 => aI A l50 fun n54 l53 => aU A 2 l53 fun l57 l56 => aI A l56 fun n60 l59 => aI A l59 fun n63 l62 => asN A l62 (aL A 5 l0 fun l66 l65 => asN A l65 (asN A l3 (A.chk (decide ((0 : Int) ≤ n63)) (nthE A l66 n63.toNat fun v67 => zax A x v l p e kc v67 l57 n6 n9 n12 n15 n18 n21 n24 n27 n30 n33 n36 n39 n42 l45 l48 l51 n54 n60 n63))))) else A.fail) else A.fail) (bif ((map frmV l).all AV.flat) then (A.call 82 [ref 0 0] [(0, (madO x v l p e))] fun l84 l85 => asC A l85 fun x86 l87 => bif (x86.1.beq 0) then (aI A x86.2 fun n90 l89 => aI A l89 fun n93 l92 => aI A l92 fun n96 l95 => aI A l95 fun n99 l98 => aI A l98 fun n102 l101 => aI A l101 fun n105 l104 => aI A l104 fun n108 l107 => aI A l107 fun n111 l110 => aI A l110 fun n114 l113 => aI A l113 fun n117 l116 => aI A l116 fun n120 l119 => aI A l119 fun n123 l122 => aI A l122 fun n126 l125 => aS A l125 fun l129 l128 => aL A 1 l128 fun l132 l131 => aL A 5 l131 fun l135 l134 => aI A l134 fun n138 l137 => aU A 2 l137 fun l141 l140 => aI A l140 fun n144 l143 => aI A l143 fun n147 l146 => asN A l146 (aL A 5 l84 fun l150 l149 => asN A l149 (asN A l87 (A.chk (decide ((0 : Int) ≤ e)) (nthE A l150 e.toNat fun v151 => zax A x v l p e kc v151 l141 n90 n93 n96 n99 n102 n105 n108 n111 n114 n117 n120 n123 n126 l129 l132 l135 n138 n144 n147))))) else A.fail) else A.fail)) else A.fail
noncomputable def z6k {α : Type} (A : Alg α) (f : Fld) (a : Int) (b : Int) (kc : List AV → List (Nat × List AV) → α) (b11 : Bool) : α :=
  kc [agg [iV f.id, iV f.kind, iV (if IntKind.i64.wrap (IntKind.i64.wrap (a * f.hi) + b) < IntKind.i64.wrap (IntKind.i64.wrap (a * f.lo) + b) then IntKind.i64.wrap (IntKind.i64.wrap (a * f.hi) + b) else IntKind.i64.wrap (IntKind.i64.wrap (a * f.lo) + b)), iV (if IntKind.i64.wrap (IntKind.i64.wrap (a * f.lo) + b) < IntKind.i64.wrap (IntKind.i64.wrap (a * f.hi) + b) then IntKind.i64.wrap (IntKind.i64.wrap (a * f.hi) + b) else IntKind.i64.wrap (IntKind.i64.wrap (a * f.lo) + b)), iV f.most], bool b11] []
noncomputable def z6l {α : Type} (A : Alg α) (f : Fld) (a : Int) (b : Int) (kc : List AV → List (Nat × List AV) → α)  : α :=
  A.callx 92 [agg [iV f.id, iV f.kind, iV (if IntKind.i64.wrap (IntKind.i64.wrap (a * f.hi) + b) < IntKind.i64.wrap (IntKind.i64.wrap (a * f.lo) + b) then IntKind.i64.wrap (IntKind.i64.wrap (a * f.hi) + b) else IntKind.i64.wrap (IntKind.i64.wrap (a * f.lo) + b)), iV (if IntKind.i64.wrap (IntKind.i64.wrap (a * f.lo) + b) < IntKind.i64.wrap (IntKind.i64.wrap (a * f.hi) + b) then IntKind.i64.wrap (IntKind.i64.wrap (a * f.hi) + b) else IntKind.i64.wrap (IntKind.i64.wrap (a * f.lo) + b)), iV f.most]] fun l0 => aB A l0 fun b3 l2 => asN A l2 (z6k A f a b kc b3)
noncomputable def zhb {α : Type} (A : Alg α) (f : Fld) (a : Int) (b : Int) (kc : List AV → List (Nat × List AV) → α) : α :=
  A.both (z6l A f a b kc) (A.both (z6l A f a b kc) (A.callx 92 [agg [iV f.id, iV f.kind, iV (if IntKind.i64.wrap (IntKind.i64.wrap (a * f.hi) + b) < IntKind.i64.wrap (IntKind.i64.wrap (a * f.lo) + b) then IntKind.i64.wrap (IntKind.i64.wrap (a * f.hi) + b) else IntKind.i64.wrap (IntKind.i64.wrap (a * f.lo) + b)), iV (if IntKind.i64.wrap (IntKind.i64.wrap (a * f.lo) + b) < IntKind.i64.wrap (IntKind.i64.wrap (a * f.hi) + b) then IntKind.i64.wrap (IntKind.i64.wrap (a * f.hi) + b) else IntKind.i64.wrap (IntKind.i64.wrap (a * f.lo) + b)), iV f.most]] fun l8 => aB A l8 fun b11 l10 => asN A l10 (z6k A f a b kc b11)))
noncomputable def zkk {α : Type} (A : Alg α) (f : Fld) (g : Fld) (kc : List AV → List (Nat × List AV) → α) : α :=
  A.join (fun x0 => A.callx 92 [agg [iV f.id, iV f.kind, iV f.lo, iV f.hi, iV f.most]] fun l1 => aB A l1 fun b4 l3 => asN A l3 (bif (!b4) then (x0 true) else (A.callx 92 [agg [iV g.id, iV g.kind, iV g.lo, iV g.hi, iV g.most]] fun l5 => aB A l5 fun b8 l7 => asN A l7 (bif (!b8) then (x0 true) else (x0 (f.kind != g.kind)))))) fun b9 => bif b9 then (kc [bool false] []) else (A.callx 94 [agg [iV f.id, iV f.kind, iV f.lo, iV f.hi, iV f.most]] fun l10 => aI A l10 fun n13 l12 => aI A l12 fun n16 l15 => asN A l15 (A.callx 94 [agg [iV g.id, iV g.kind, iV g.lo, iV g.hi, iV g.most]] fun l17 => aI A l17 fun n20 l19 => aI A l19 fun n23 l22 => asN A l22 (A.join (fun x24 => bif (decide (n20 ≤ n13)) then (bif (decide (n16 ≤ n23)) then (x24 (decide (f.most ≤ g.most))) else (x24 false)) else (x24 false)) fun b25 => kc [bool b25] [])))
noncomputable def z6m {α : Type} (A : Alg α) (x : Stp) (v : Int) (l : List Frm) (p : Int) (e : Int) (kc : List AV → List (Nat × List AV) → α) (l57 : List AV) (b89 : Bool) (n6 : Int) (n9 : Int) (n12 : Int) (n15 : Int) (n18 : Int) (n21 : Int) (n24 : Int) (n27 : Int) (n30 : Int) (n33 : Int) (n36 : Int) (n39 : Int) (n42 : Int) (l45 : List UInt8) (l48 : List AV) (l51 : List AV) (n54 : Int) (n60 : Int) (n63 : Int) : α :=
  bif (l57.all AV.flat) then (kc [lst .uq 5 [agg [iV x.f.id, iV x.f.kind, iV x.f.lo, iV x.f.hi, iV x.f.most]], iV 1, bool b89] [(0, [iV n6, iV n9, iV n12, iV n15, iV n18, iV n21, iV n24, iV n27, iV n30, iV n33, iV n36, iV n39, iV n42, str l45, lst .ro 1 l48, lst .ro 5 l51, iV n54, lst .uq 2 l57, iV n60, iV n63])]) else A.fail
noncomputable def z6n {α : Type} (A : Alg α) (x : Stp) (v : Int) (l : List Frm) (p : Int) (e : Int) (kc : List AV → List (Nat × List AV) → α) (n69 : Int) (n72 : Int) (n75 : Int) (n78 : Int) (n81 : Int) (l57 : List AV) (n6 : Int) (n9 : Int) (n12 : Int) (n15 : Int) (n18 : Int) (n21 : Int) (n24 : Int) (n27 : Int) (n30 : Int) (n33 : Int) (n36 : Int) (n39 : Int) (n42 : Int) (l45 : List UInt8) (l48 : List AV) (l51 : List AV) (n54 : Int) (n60 : Int) (n63 : Int) : α :=
  A.callx 107 [agg [iV n69, iV n72, iV n75, iV n78, iV n81], agg [iV x.f.id, iV x.f.kind, iV x.f.lo, iV x.f.hi, iV x.f.most]] fun l86 => aB A l86 fun b89 l88 => asN A l88 (z6m A x v l p e kc l57 b89 n6 n9 n12 n15 n18 n21 n24 n27 n30 n33 n36 n39 n42 l45 l48 l51 n54 n60 n63)
noncomputable def zay {α : Type} (A : Alg α) (x : Stp) (v : Int) (l : List Frm) (p : Int) (e : Int) (kc : List AV → List (Nat × List AV) → α) : α :=
  bif (fitI [((0 : Nat), (madO x v l p e))] && [ref (0 : Nat) (0 : Nat)].all fitA && nodupN (map (fun x => x.fst) (oshOf T0 (0 : Nat) [ref (0 : Nat) (0 : Nat)] Go.Proofs.Tryz.f86.params.toList)) && (oshOf T0 (0 : Nat) [ref (0 : Nat) (0 : Nat)] Go.Proofs.Tryz.f86.params.toList).all fun p => p.fst.blt (64 : Nat)) then (bif (x.op == (1 : Int)) then (bif ((map frmV l).all AV.flat) then (kc [lst .uq 5 [agg [iV x.f.id, iV x.f.kind, iV x.f.lo, iV x.f.hi, iV x.f.most]], iV 0, bool true] [(0, (madO x v l p e))]) else A.fail) else (bif ((map frmV l).all AV.flat) then (A.call 83 [ref 0 0] [(0, (madO x v l p e))] fun l0 l1 => asC A l1 fun x2 l3 => bif (x2.1.beq 0) then (aI A x2.2 fun n6 l5 => aI A l5 fun n9 l8 => aI A l8 fun n12 l11 => aI A l11 fun n15 l14 => aI A l14 fun n18 l17 => aI A l17 fun n21 l20 => aI A l20 fun n24 l23 => aI A l23 fun n27 l26 => aI A l26 fun n30 l29 => aI A l29 fun n33 l32 => aI A l32 fun n36 l35 => aI A l35 fun n39 l38 => aI A l38 fun n42 l41 => aS A l41 fun l45 l44 => aL A 1 l44 fun l48 l47 => aL A 5 l47 fun l51 l50 => aI A l50 fun n54 l53 => aU A 2 l53 fun l57 l56 => aI A l56 fun n60 l59 => aI A l59 fun n63 l62 => asN A l62 (aA A l0 fun l66 l65 => aI A l66 fun n69 l68 => aI A l68 fun n72 l71 => aI A l71 fun n75 l74 => aI A l74 fun n78 l77 => aI A l77 fun n81 l80 => asN A l80 (asN A l65 (asN A l3 (bif (x.op == (2 : Int)) then (A.callx 72 [agg [iV n69, iV n72, iV n75, iV n78, iV n81], agg [iV x.n, str x.s]] fun l82 => aB A l82 fun b85 l84 => asN A l84 (bif (l57.all AV.flat) then (kc [lst .uq 5 [], iV 1, bool b85] [(0, [iV n6, iV n9, iV n12, iV n15, iV n18, iV n21, iV n24, iV n27, iV n30, iV n33, iV n36, iV n39, iV n42, str l45, lst .ro 1 l48, lst .ro 5 l51, iV n54, lst .uq 2 l57, iV n60, iV n63])]) else A.fail)) else (bif (x.op == (3 : Int)) then (A.both (z6n A x v l p e kc n69 n72 n75 n78 n81 l57 n6 n9 n12 n15 n18 n21 n24 n27 n30 n33 n36 n39 n42 l45 l48 l51 n54 n60 n63) (A.both (z6n A x v l p e kc n69 n72 n75 n78 n81 l57 n6 n9 n12 n15 n18 n21 n24 n27 n30 n33 n36 n39 n42 l45 l48 l51 n54 n60 n63) (A.callx 107 [agg [iV n69, iV n72, iV n75, iV n78, iV n81], agg [iV x.f.id, iV x.f.kind, iV x.f.lo, iV x.f.hi, iV x.f.most]] fun l94 => aB A l94 fun b97 l96 => asN A l96 (z6m A x v l p e kc l57 b97 n6 n9 n12 n15 n18 n21 n24 n27 n30 n33 n36 n39 n42 l45 l48 l51 n54 n60 n63)))) else (bif (x.op == (4 : Int)) then (bif (n72 == (1 : Int)) then (A.callx 108 [agg [iV n69, iV n72, iV n75, iV n78, iV n81], iV x.a, iV x.b] fun l98 => aA A l98 fun l101 l100 => aI A l101 fun n104 l103 => aI A l103 fun n107 l106 => aI A l106 fun n110 l109 => aI A l109 fun n113 l112 => aI A l112 fun n116 l115 => asN A l115 (aB A l100 fun b119 l118 => asN A l118 (bif (l57.all AV.flat) then (kc [lst .uq 5 [agg [iV n104, iV n107, iV n110, iV n113, iV n116]], iV 1, bool b119] [(0, [iV n6, iV n9, iV n12, iV n15, iV n18, iV n21, iV n24, iV n27, iV n30, iV n33, iV n36, iV n39, iV n42, str l45, lst .ro 1 l48, lst .ro 5 l51, iV n54, lst .uq 2 l57, iV n60, iV n63])]) else A.fail))) else (bif (l57.all AV.flat) then (kc [lst .uq 5 [agg [iV n69, iV n72, iV n75, iV n78, iV n81]], iV 1, bool false] [(0, [iV n6, iV n9, iV n12, iV n15, iV n18, iV n21, iV n24, iV n27, iV n30, iV n33, iV n36, iV n39, iV n42, str l45, lst .ro 1 l48, lst .ro 5 l51, iV n54, lst .uq 2 l57, iV n60, iV n63])]) else A.fail)) else (bif (x.op == (5 : Int)) then (A.join (fun x120 => bif (n72 == (3 : Int)) then (x120 (n81 == (↑(map (fun n => iV n) x.t).length : Int))) else (x120 false)) fun b121 => bif (l57.all AV.flat) then (kc [lst .uq 5 [agg [iV n69, iV n72, iV n75, iV n78, iV x.a]], iV 1, bool b121] [(0, [iV n6, iV n9, iV n12, iV n15, iV n18, iV n21, iV n24, iV n27, iV n30, iV n33, iV n36, iV n39, iV n42, str l45, lst .ro 1 l48, lst .ro 5 l51, iV n54, lst .uq 2 l57, iV n60, iV n63])]) else A.fail) else (bif (x.op == (6 : Int)) then (A.join (fun x122 => bif (n72 == (1 : Int)) then (x122 (n75 == (0 : Int))) else (x122 false)) fun b123 => A.chk (!x.a == (0 : Int)) (bif (l57.all AV.flat) then (kc [lst .uq 5 [agg [iV n69, iV n72, iV n75, iV (IntKind.i64.wrap (n78.tdiv x.a)), iV n81], agg [iV x.to, iV 1, iV 0, iV (if n78 < IntKind.i64.wrap (x.a - (1 : Int)) then n78 else IntKind.i64.wrap (x.a - (1 : Int))), iV 0]], iV 1, bool b123] [(0, [iV n6, iV n9, iV n12, iV n15, iV n18, iV n21, iV n24, iV n27, iV n30, iV n33, iV n36, iV n39, iV n42, str l45, lst .ro 1 l48, lst .ro 5 l51, iV n54, lst .uq 2 l57, iV n60, iV n63])]) else A.fail)) else (bif (l57.all AV.flat) then (kc [lst .uq 5 [agg [iV x.to, iV n72, iV n75, iV n78, iV n81]], iV 1, bool true] [(0, [iV n6, iV n9, iV n12, iV n15, iV n18, iV n21, iV n24, iV n27, iV n30, iV n33, iV n36, iV n39, iV n42, str l45, lst .ro 1 l48, lst .ro 5 l51, iV n54, lst .uq 2 l57, iV n60, iV n63])]) else A.fail)))))))))) else A.fail) else A.fail)) else A.fail
noncomputable def z2t {α : Type} (A : Alg α) (x : Stp) (v : Int) (l : List Frm) (p : Int) (e : Int) (kc : List AV → List (Nat × List AV) → α) (l777 : List AV) (l778 : List (Nat × List AV)) (n764 : Int) (l761 : List AV) (n710 : Int) (n713 : Int) (n716 : Int) (n719 : Int) (n722 : Int) (n725 : Int) (n728 : Int) (n731 : Int) (n734 : Int) (n737 : Int) (n740 : Int) (n743 : Int) (n746 : Int) (l749 : List UInt8) (l752 : List AV) (l755 : List AV) (n758 : Int) (n767 : Int) : α :=
  aU A 5 l777 fun l781 l780 => asN A l780 (asN A l778 (bif (l781.all AV.flat) then (dbl A (A.chk (decide ((0 : Int) ≤ n764) && decide (n764 < (↑l761.length : Int))) (nthE A l761 n764.toNat fun v782 => A.chk (((1 : Nat) + [lst .ro (nat_lit 5) l781].length).ble v782.cells.length) (putC A v782 (setAt v782.cells (1 : Nat) [lst .ro (nat_lit 5) l781]) fun v783 => A.chk v783.flat (bif ((l761.set n764.toNat v783).all AV.flat) then (kc [bool true] [(0, [iV n710, iV n713, iV n716, iV n719, iV n722, iV n725, iV n728, iV n731, iV n734, iV n737, iV n740, iV n743, iV n746, str l749, lst .ro 1 l752, lst .ro 5 l755, iV n758, lst .uq 2 (l761.set n764.toNat v783), iV n764, iV n767])]) else A.fail))))) else A.fail))
noncomputable def z3m {α : Type} (A : Alg α) (x : Stp) (v : Int) (l : List Frm) (p : Int) (e : Int) (kc : List AV → List (Nat × List AV) → α) (l158 : List AV) (n87 : Int) (n141 : Int) (n144 : Int) (n147 : Int) (n150 : Int) (n153 : Int) (n132 : Int) (l129 : List AV) (n78 : Int) (n81 : Int) (n84 : Int) (n90 : Int) (n93 : Int) (n96 : Int) (n99 : Int) (n102 : Int) (n105 : Int) (n108 : Int) (n111 : Int) (n114 : Int) (l117 : List UInt8) (l120 : List AV) (l123 : List AV) (n126 : Int) (n135 : Int) : α :=
  bif (l158.all AV.flat) then (A.call 84 [lst .uq 5 l158, iV n87, lst .uq 5 [agg [iV n141, iV n144, iV n147, iV n150, iV n153]]] [] fun l159 l160 => z2t A x v l p e kc l159 l160 n132 l129 n78 n81 n84 n87 n90 n93 n96 n99 n102 n105 n108 n111 n114 l117 l120 l123 n126 n135) else A.fail
noncomputable def z1l {α : Type} (A : Alg α) (x : Stp) (v : Int) (l : List Frm) (p : Int) (e : Int) (kc : List AV → List (Nat × List AV) → α) (l71 : List AV) (n135 : Int) (n87 : Int) (n141 : Int) (n144 : Int) (n147 : Int) (n150 : Int) (n153 : Int) (n132 : Int) (l129 : List AV) (n78 : Int) (n81 : Int) (n84 : Int) (n90 : Int) (n93 : Int) (n96 : Int) (n99 : Int) (n102 : Int) (n105 : Int) (n108 : Int) (n111 : Int) (n114 : Int) (l117 : List UInt8) (l120 : List AV) (l123 : List AV) (n126 : Int) : α :=
  bif (l71.all AV.flat) then (A.call 85 [lst .uq 5 l71, iV n135, iV (IntKind.i64.wrap (n135 + (1 : Int)))] [] fun l191 l192 => aU A 5 l191 fun l195 l194 => asN A l194 (asN A l192 (z3m A x v l p e kc l195 n87 n141 n144 n147 n150 n153 n132 l129 n78 n81 n84 n90 n93 n96 n99 n102 n105 n108 n111 n114 l117 l120 l123 n126 n135))) else A.fail
noncomputable def z6o {α : Type} (A : Alg α) (x : Stp) (v : Int) (l : List Frm) (p : Int) (e : Int) (kc : List AV → List (Nat × List AV) → α) (l71 : List AV) (n135 : Int) (n87 : Int) (n141 : Int) (n144 : Int) (n147 : Int) (n150 : Int) (n153 : Int) (n132 : Int) (l129 : List AV) (n78 : Int) (n81 : Int) (n84 : Int) (n90 : Int) (n93 : Int) (n96 : Int) (n99 : Int) (n102 : Int) (n105 : Int) (n108 : Int) (n111 : Int) (n114 : Int) (l117 : List UInt8) (l120 : List AV) (l123 : List AV) (n126 : Int) : α :=
  A.both (bif (l71.all AV.flat) then (A.call 85 [lst .uq 5 l71, iV n135, iV (IntKind.i64.wrap (n135 + (1 : Int)))] [] fun l177 l178 => aU A 5 l177 fun l181 l180 => asN A l180 (asN A l178 (z3m A x v l p e kc l181 n87 n141 n144 n147 n150 n153 n132 l129 n78 n81 n84 n90 n93 n96 n99 n102 n105 n108 n111 n114 l117 l120 l123 n126 n135))) else A.fail) (z1l A x v l p e kc l71 n135 n87 n141 n144 n147 n150 n153 n132 l129 n78 n81 n84 n90 n93 n96 n99 n102 n105 n108 n111 n114 l117 l120 l123 n126)
noncomputable def z4w {α : Type} (A : Alg α) (x : Stp) (v : Int) (l : List Frm) (p : Int) (e : Int) (kc : List AV → List (Nat × List AV) → α) (l71 : List AV) (n135 : Int) (n87 : Int) (n141 : Int) (n144 : Int) (n147 : Int) (n150 : Int) (n153 : Int) (n132 : Int) (l129 : List AV) (n78 : Int) (n81 : Int) (n84 : Int) (n90 : Int) (n93 : Int) (n96 : Int) (n99 : Int) (n102 : Int) (n105 : Int) (n108 : Int) (n111 : Int) (n114 : Int) (l117 : List UInt8) (l120 : List AV) (l123 : List AV) (n126 : Int) : α :=
  A.both (z6o A x v l p e kc l71 n135 n87 n141 n144 n147 n150 n153 n132 l129 n78 n81 n84 n90 n93 n96 n99 n102 n105 n108 n111 n114 l117 l120 l123 n126) (z1l A x v l p e kc l71 n135 n87 n141 n144 n147 n150 n153 n132 l129 n78 n81 n84 n90 n93 n96 n99 n102 n105 n108 n111 n114 l117 l120 l123 n126)
noncomputable def z4x {α : Type} (A : Alg α) (x : Stp) (v : Int) (l : List Frm) (p : Int) (e : Int) (kc : List AV → List (Nat × List AV) → α) (l71 : List AV) (n135 : Int) (n87 : Int) (n141 : Int) (n144 : Int) (n147 : Int) (n150 : Int) (n153 : Int) (n132 : Int) (l129 : List AV) (n78 : Int) (n81 : Int) (n84 : Int) (n90 : Int) (n93 : Int) (n96 : Int) (n99 : Int) (n102 : Int) (n105 : Int) (n108 : Int) (n111 : Int) (n114 : Int) (l117 : List UInt8) (l120 : List AV) (l123 : List AV) (n126 : Int) : α :=
  A.both (dbl A (z1l A x v l p e kc l71 n135 n87 n141 n144 n147 n150 n153 n132 l129 n78 n81 n84 n90 n93 n96 n99 n102 n105 n108 n111 n114 l117 l120 l123 n126)) (z1l A x v l p e kc l71 n135 n87 n141 n144 n147 n150 n153 n132 l129 n78 n81 n84 n90 n93 n96 n99 n102 n105 n108 n111 n114 l117 l120 l123 n126)
noncomputable def z6p {α : Type} (A : Alg α) (x : Stp) (v : Int) (l : List Frm) (p : Int) (e : Int) (kc : List AV → List (Nat × List AV) → α) (l71 : List AV) (n135 : Int) (n87 : Int) (n141 : Int) (n144 : Int) (n147 : Int) (n150 : Int) (n153 : Int) (n132 : Int) (l129 : List AV) (n78 : Int) (n81 : Int) (n84 : Int) (n90 : Int) (n93 : Int) (n96 : Int) (n99 : Int) (n102 : Int) (n105 : Int) (n108 : Int) (n111 : Int) (n114 : Int) (l117 : List UInt8) (l120 : List AV) (l123 : List AV) (n126 : Int) : α :=
  A.both (A.both (bif (l71.all AV.flat) then (A.call 85 [lst .uq 5 l71, iV n135, iV (IntKind.i64.wrap (n135 + (1 : Int)))] [] fun l154 l155 => aU A 5 l154 fun l158 l157 => asN A l157 (asN A l155 (dbl A (z3m A x v l p e kc l158 n87 n141 n144 n147 n150 n153 n132 l129 n78 n81 n84 n90 n93 n96 n99 n102 n105 n108 n111 n114 l117 l120 l123 n126 n135)))) else A.fail) (A.both (z6o A x v l p e kc l71 n135 n87 n141 n144 n147 n150 n153 n132 l129 n78 n81 n84 n90 n93 n96 n99 n102 n105 n108 n111 n114 l117 l120 l123 n126) (dbl A (z1l A x v l p e kc l71 n135 n87 n141 n144 n147 n150 n153 n132 l129 n78 n81 n84 n90 n93 n96 n99 n102 n105 n108 n111 n114 l117 l120 l123 n126)))) (A.both (z4w A x v l p e kc l71 n135 n87 n141 n144 n147 n150 n153 n132 l129 n78 n81 n84 n90 n93 n96 n99 n102 n105 n108 n111 n114 l117 l120 l123 n126) (z4x A x v l p e kc l71 n135 n87 n141 n144 n147 n150 n153 n132 l129 n78 n81 n84 n90 n93 n96 n99 n102 n105 n108 n111 n114 l117 l120 l123 n126))
noncomputable def zaz {α : Type} (A : Alg α) (x : Stp) (v : Int) (l : List Frm) (p : Int) (e : Int) (kc : List AV → List (Nat × List AV) → α) : α :=
  bif (fitI [((0 : Nat), (madO x v l p e))] && [ref (0 : Nat) (0 : Nat)].all fitA && nodupN (map (fun x => x.fst) (oshOf T0 (0 : Nat) [ref (0 : Nat) (0 : Nat)] Go.Proofs.Tryz.f47.params.toList)) && (oshOf T0 (0 : Nat) [ref (0 : Nat) (0 : Nat)] Go.Proofs.Tryz.f47.params.toList).all fun p => p.fst.blt (64 : Nat)) then (bif ((map frmV l).all AV.flat) then (A.call 82 [ref 0 0] [(0, (madO x v l p e))] fun l0 l1 => asC A l1 fun x2 l3 => bif (x2.1.beq 0) then (aI A x2.2 fun n6 l5 => aI A l5 fun n9 l8 => aI A l8 fun n12 l11 => aI A l11 fun n15 l14 => aI A l14 fun n18 l17 => aI A l17 fun n21 l20 => aI A l20 fun n24 l23 => aI A l23 fun n27 l26 => aI A l26 fun n30 l29 => aI A l29 fun n33 l32 => aI A l32 fun n36 l35 => aI A l35 fun n39 l38 => aI A l38 fun n42 l41 => aS A l41 fun l45 l44 => aL A 1 l44 fun l48 l47 => aL A 5 l47 fun l51 l50 => aI A l50 fun n54 l53 => aU A 2 l53 fun l57 l56 => aI A l56 fun n60 l59 => aI A l59 fun n63 l62 => asN A l62 (aL A 5 l0 fun l66 l65 => asN A l65 (asN A l3 (A.call 45 [lst .ro 5 l66] [] fun l67 l68 => aU A 5 l67 fun l71 l70 => asN A l70 (asN A l68 (bif (n6 == (7 : Int)) then (bif (l57.all AV.flat) then (A.call 83 [ref 0 0] [(0, [iV n6, iV n9, iV n12, iV n15, iV n18, iV n21, iV n24, iV n27, iV n30, iV n33, iV n36, iV n39, iV n42, str l45, lst .ro 1 l48, lst .ro 5 l51, iV n54, lst .uq 2 l57, iV n60, iV n63])] fun l72 l73 => asC A l73 fun x74 l75 => bif (x74.1.beq 0) then (aI A x74.2 fun n78 l77 => aI A l77 fun n81 l80 => aI A l80 fun n84 l83 => aI A l83 fun n87 l86 => aI A l86 fun n90 l89 => aI A l89 fun n93 l92 => aI A l92 fun n96 l95 => aI A l95 fun n99 l98 => aI A l98 fun n102 l101 => aI A l101 fun n105 l104 => aI A l104 fun n108 l107 => aI A l107 fun n111 l110 => aI A l110 fun n114 l113 => aS A l113 fun l117 l116 => aL A 1 l116 fun l120 l119 => aL A 5 l119 fun l123 l122 => aI A l122 fun n126 l125 => aU A 2 l125 fun l129 l128 => aI A l128 fun n132 l131 => aI A l131 fun n135 l134 => asN A l134 (aA A l72 fun l138 l137 => aI A l138 fun n141 l140 => aI A l140 fun n144 l143 => aI A l143 fun n147 l146 => aI A l146 fun n150 l149 => aI A l149 fun n153 l152 => asN A l152 (asN A l137 (asN A l75 (A.both (z6p A x v l p e kc l71 n135 n87 n141 n144 n147 n150 n153 n132 l129 n78 n81 n84 n90 n93 n96 n99 n102 n105 n108 n111 n114 l117 l120 l123 n126) (A.both (z6p A x v l p e kc l71 n135 n87 n141 n144 n147 n150 n153 n132 l129 n78 n81 n84 n90 n93 n96 n99 n102 n105 n108 n111 n114 l117 l120 l123 n126) (A.both (A.both (z4w A x v l p e kc l71 n135 n87 n141 n144 n147 n150 n153 n132 l129 n78 n81 n84 n90 n93 n96 n99 n102 n105 n108 n111 n114 l117 l120 l123 n126) (A.both (z4w A x v l p e kc l71 n135 n87 n141 n144 n147 n150 n153 n132 l129 n78 n81 n84 n90 n93 n96 n99 n102 n105 n108 n111 n114 l117 l120 l123 n126) (dbl A (z1l A x v l p e kc l71 n135 n87 n141 n144 n147 n150 n153 n132 l129 n78 n81 n84 n90 n93 n96 n99 n102 n105 n108 n111 n114 l117 l120 l123 n126)))) (A.both (z4x A x v l p e kc l71 n135 n87 n141 n144 n147 n150 n153 n132 l129 n78 n81 n84 n90 n93 n96 n99 n102 n105 n108 n111 n114 l117 l120 l123 n126) (A.both (z4x A x v l p e kc l71 n135 n87 n141 n144 n147 n150 n153 n132 l129 n78 n81 n84 n90 n93 n96 n99 n102 n105 n108 n111 n114 l117 l120 l123 n126) (dbl A (z1l A x v l p e kc l71 n135 n87 n141 n144 n147 n150 n153 n132 l129 n78 n81 n84 n90 n93 n96 n99 n102 n105 n108 n111 n114 l117 l120 l123 n126))))))))))) else A.fail) else A.fail) else (bif (l57.all AV.flat) then (A.call 86 [ref 0 0] [(0, [iV n6, iV n9, iV n12, iV n15, iV n18, iV n21, iV n24, iV n27, iV n30, iV n33, iV n36, iV n39, iV n42, str l45, lst .ro 1 l48, lst .ro 5 l51, iV n54, lst .uq 2 l57, iV n60, iV n63])] fun l704 l705 => asC A l705 fun x706 l707 => bif (x706.1.beq 0) then (aI A x706.2 fun n710 l709 => aI A l709 fun n713 l712 => aI A l712 fun n716 l715 => aI A l715 fun n719 l718 => aI A l718 fun n722 l721 => aI A l721 fun n725 l724 => aI A l724 fun n728 l727 => aI A l727 fun n731 l730 => aI A l730 fun n734 l733 => aI A l733 fun n737 l736 => aI A l736 fun n740 l739 => aI A l739 fun n743 l742 => aI A l742 fun n746 l745 => aS A l745 fun l749 l748 => aL A 1 l748 fun l752 l751 => aL A 5 l751 fun l755 l754 => aI A l754 fun n758 l757 => aU A 2 l757 fun l761 l760 => aI A l760 fun n764 l763 => aI A l763 fun n767 l766 => asN A l766 (aU A 5 l704 fun l770 l769 => aI A l769 fun n773 l772 => aB A l772 fun b776 l775 => asN A l775 (asN A l707 (bif (!b776) then (bif (l761.all AV.flat) then (kc [bool false] [(0, [iV n710, iV n713, iV n716, iV n719, iV n722, iV n725, iV n728, iV n731, iV n734, iV n737, iV n740, iV n743, iV n746, str l749, lst .ro 1 l752, lst .ro 5 l755, iV n758, lst .uq 2 l761, iV n764, iV n767])]) else A.fail) else (dbl A (bif (l71.all AV.flat) then (bif (l770.all AV.flat) then (A.call 87 [lst .uq 5 l71, iV n767, iV (IntKind.i64.wrap (n767 + n773)), lst .uq 5 l770] [] fun l777 l778 => z2t A x v l p e kc l777 l778 n764 l761 n710 n713 n716 n719 n722 n725 n728 n731 n734 n737 n740 n743 n746 l749 l752 l755 n758 n767) else A.fail) else A.fail)))))) else A.fail) else A.fail))))))) else A.fail) else A.fail) else A.fail
noncomputable def z8v {α : Type} (A : Alg α) (s : Sch) (x : Stp) (kc : List AV → List (Nat × List AV) → α) (l332 : List AV) (n329 : Int) : α :=
  bif (l332.all AV.flat) then (A.callx 40 [agg [iV n329, lst .ro 2 l332]] fun l342 => aB A l342 fun b345 l344 => asN A l344 (bif (!b345) then (kc [agg [iV 0, lst .ro 2 []], iV 7] []) else (kc [agg [iV n329, lst .ro 2 l332], iV 0] []))) else A.fail
noncomputable def z36 {α : Type} (A : Alg α) (s : Sch) (x : Stp) (kc : List AV → List (Nat × List AV) → α) (l93 : List AV) (l94 : List (Nat × List AV)) (n75 : Int) : α :=
  aU A 2 l93 fun l97 l96 => asN A l96 (asN A l94 (z8v A s x kc l97 n75))
noncomputable def zd0 {α : Type} (A : Alg α) (s : Sch) (x : Stp) (kc : List AV → List (Nat × List AV) → α) (l78 : List AV) (n81 : Int) (n75 : Int) : α :=
  A.both (A.call 45 [lst .ro 5 (map fldV x.fields)] [] fun l88 l89 => aU A 5 l88 fun l92 l91 => asN A l91 (asN A l89 (bif (l92.all AV.flat) then (bif (l78.all AV.flat) then (A.call 44 [lst .uq 2 l78, iV n81, lst .uq 2 [agg [iV x.form, lst .ro 5 l92]]] [] fun l93 l94 => z36 A s x kc l93 l94 n75) else A.fail) else A.fail))) (A.call 45 [lst .ro 5 (map fldV x.fields)] [] fun l102 l103 => aU A 5 l102 fun l106 l105 => asN A l105 (asN A l103 (bif (l106.all AV.flat) then (dbl A (bif (l78.all AV.flat) then (A.call 44 [lst .uq 2 l78, iV n81, lst .uq 2 [agg [iV x.form, lst .ro 5 l106]]] [] fun l107 l108 => z36 A s x kc l107 l108 n75) else A.fail)) else A.fail)))
noncomputable def s_gOn {α : Type} (A : Alg α) (s : Sch) (x : Stp) (kc : List AV → List (Nat × List AV) → α) : α :=
  A.join (fun x0 => A.callx 40 [agg [iV s.ver, lst .ro 2 (map frmV s.forms)]] fun l1 => aB A l1 fun b4 l3 => asN A l3 (bif (!b4) then (x0 true) else (A.callx 41 [agg [iV x.op, iV x.form, iV x.field, iV x.place, iV x.to, iV x.a, iV x.b, iV x.f.id, iV x.f.kind, iV x.f.lo, iV x.f.hi, iV x.f.most, iV x.n, str x.s, lst .ro 1 (map (fun n => iV n) x.t), lst .ro 5 (map fldV x.fields)]] fun l5 => aB A l5 fun b8 l7 => asN A l7 (bif (!b8) then (x0 true) else (bif (decide (x.op < (1 : Int))) then (x0 true) else (x0 (decide (x.op > (10 : Int))))))))) fun b9 => bif b9 then (kc [agg [iV 0, lst .ro 2 []], iV 2] []) else (A.call 42 [agg [iV s.ver, lst .ro 2 (map frmV s.forms)]] [] fun l10 l11 => aA A l10 fun l14 l13 => aI A l14 fun n17 l16 => aU A 2 l16 fun l20 l19 => asN A l19 (asN A l13 (asN A l11 (bif (l20.all AV.flat) then (A.call 43 [ref 0 0] [(0, [iV x.op, iV x.form, iV x.field, iV x.place, iV x.to, iV x.a, iV x.b, iV x.f.id, iV x.f.kind, iV x.f.lo, iV x.f.hi, iV x.f.most, iV x.n, str x.s, lst .ro 1 (map (fun n => iV n) x.t), lst .ro 5 (map fldV x.fields), iV n17, lst .uq 2 l20, iV 0, iV 0])] fun l21 l22 => asC A l22 fun x23 l24 => bif (x23.1.beq 0) then (aI A x23.2 fun n27 l26 => aI A l26 fun n30 l29 => aI A l29 fun n33 l32 => aI A l32 fun n36 l35 => aI A l35 fun n39 l38 => aI A l38 fun n42 l41 => aI A l41 fun n45 l44 => aI A l44 fun n48 l47 => aI A l47 fun n51 l50 => aI A l50 fun n54 l53 => aI A l53 fun n57 l56 => aI A l56 fun n60 l59 => aI A l59 fun n63 l62 => aS A l62 fun l66 l65 => aL A 1 l65 fun l69 l68 => aL A 5 l68 fun l72 l71 => aI A l71 fun n75 l74 => aU A 2 l74 fun l78 l77 => aI A l77 fun n81 l80 => aI A l80 fun n84 l83 => asN A l83 (aI A l21 fun n87 l86 => asN A l86 (asN A l24 (bif (n87 != (0 : Int)) then (kc [agg [iV 0, lst .ro 2 []], iV n87] []) else (bif (x.op == (9 : Int)) then (A.both (zd0 A s x kc l78 n81 n75) (A.both (zd0 A s x kc l78 n81 n75) (A.call 45 [lst .ro 5 (map fldV x.fields)] [] fun l162 l163 => aU A 5 l162 fun l166 l165 => asN A l165 (asN A l163 (bif (l166.all AV.flat) then (A.both (dbl A (bif (l78.all AV.flat) then (A.call 44 [lst .uq 2 l78, iV n81, lst .uq 2 [agg [iV x.form, lst .ro 5 l166]]] [] fun l167 l168 => z36 A s x kc l167 l168 n75) else A.fail)) (A.both (dbl A (bif (l78.all AV.flat) then (A.call 44 [lst .uq 2 l78, iV n81, lst .uq 2 [agg [iV x.form, lst .ro 5 l166]]] [] fun l185 l186 => z36 A s x kc l185 l186 n75) else A.fail)) (dbl A (bif (l78.all AV.flat) then (A.call 44 [lst .uq 2 l78, iV n81, lst .uq 2 [agg [iV x.form, lst .ro 5 l166]]] [] fun l203 l204 => z36 A s x kc l203 l204 n75) else A.fail)))) else A.fail))))) else (bif (x.op == (10 : Int)) then (A.both (dbl A (bif (l78.all AV.flat) then (A.call 46 [lst .uq 2 l78, iV n81, iV (IntKind.i64.wrap (n81 + (1 : Int)))] [] fun l221 l222 => z36 A s x kc l221 l222 n75) else A.fail)) (dbl A (dbl A (bif (l78.all AV.flat) then (A.call 46 [lst .uq 2 l78, iV n81, iV (IntKind.i64.wrap (n81 + (1 : Int)))] [] fun l239 l240 => z36 A s x kc l239 l240 n75) else A.fail)))) else (bif (l78.all AV.flat) then (A.call 47 [ref 0 0] [(0, [iV n27, iV n30, iV n33, iV n36, iV n39, iV n42, iV n45, iV n48, iV n51, iV n54, iV n57, iV n60, iV n63, str l66, lst .ro 1 l69, lst .ro 5 l72, iV n75, lst .uq 2 l78, iV n81, iV n84])] fun l275 l276 => asC A l276 fun x277 l278 => bif (x277.1.beq 0) then (aI A x277.2 fun n281 l280 => aI A l280 fun n284 l283 => aI A l283 fun n287 l286 => aI A l286 fun n290 l289 => aI A l289 fun n293 l292 => aI A l292 fun n296 l295 => aI A l295 fun n299 l298 => aI A l298 fun n302 l301 => aI A l301 fun n305 l304 => aI A l304 fun n308 l307 => aI A l307 fun n311 l310 => aI A l310 fun n314 l313 => aI A l313 fun n317 l316 => aS A l316 fun l320 l319 => aL A 1 l319 fun l323 l322 => aL A 5 l322 fun l326 l325 => aI A l325 fun n329 l328 => aU A 2 l328 fun l332 l331 => aI A l331 fun n335 l334 => aI A l334 fun n338 l337 => asN A l337 (aB A l275 fun b341 l340 => asN A l340 (asN A l278 (bif (!b341) then (kc [agg [iV 0, lst .ro 2 []], iV 17] []) else (z8v A s x kc l332 n329))))) else A.fail) else A.fail))))))) else A.fail) else A.fail))))
theorem zu9 (l : List Fld) {r : CR} (h : zcy (OA (tbl E0) (ltbl E0 45 0)) l (fun r o => some (r, o)) = some r) : tbl E0 45 [fldsV l] [] = some r :=
  tblF Tryz.func45 h
theorem zr5 (s : Sch) {r : CR} (h : zh8 (OA (tbl E0) (ltbl E0 42 0)) s (fun r o => some (r, o)) = some r) : tbl E0 42 [schV s] [] = some r :=
  tblF Tryz.func42 h
theorem zer (l : List Frm) (v : Int) (d : List Frm) (m i : Int) {r : LR} (h : z8t (OA (tbl E0) (ltbl E0 42 0)) l v d m i (fun vs os => ltbl E0 42 0 3 vs os) (fun j vs os => some (j, vs, os)) = some r) : ltbl E0 42 0 3 [frmsV l, iV m, iV i] [[iV 0, frmsV []], [iV v, frmsU d]] = some r :=
  ltblF Tryz.func42 h
theorem zwt (x : Stp) (v : Int) (l : List Frm) (p e : Int) {r : CR} (h : zn1 (OA (tbl E0) (ltbl E0 79 0)) x v l p e (fun r o => some (r, o)) = some r) : tbl E0 79 [.ref 0 0] [(0, madO x v l p e)] = some r :=
  tblF Tryz.func79 h
theorem zkl (x : Stp) (v : Int) (l : List Frm) (p e : Int) {r : LR} (h : zcz (OA (tbl E0) (ltbl E0 79 0)) x v l p e (fun vs os => ltbl E0 79 0 2 vs os) (fun j vs os => some (j, vs, os)) = some r) : ltbl E0 79 0 2 [] [madO x v l p e] = some r :=
  ltblF Tryz.func79 h
theorem zd1 (x : Stp) (v : Int) (l : List Frm) (p e : Int) {r : CR} (h : z8u (OA (tbl E0) (ltbl E0 43 0)) x v l p e (fun r o => some (r, o)) = some r) : tbl E0 43 [.ref 0 0] [(0, madO x v l p e)] = some r :=
  tblF Tryz.func43 h
theorem zr6 (x : Stp) (v : Int) (l : List Frm) (p e : Int) (g : Frm) (n : Int) {r : LR} (h : zh9 (OA (tbl E0) (ltbl E0 43 0)) x v l p e g n (fun vs os => ltbl E0 43 0 1000020 vs os) (fun j vs os => some (j, vs, os)) = some r) : ltbl E0 43 0 1000020 [iV n] [madO x v l p e, [iV g.id, fldsV g.fields]] = some r :=
  ltblF Tryz.func43 h
theorem zr7 (x : Stp) (v : Int) (l : List Frm) (p e : Int) {r : CR} (h : zha (OA (tbl E0) (ltbl E0 82 0)) x v l p e (fun r o => some (r, o)) = some r) : tbl E0 82 [.ref 0 0] [(0, madO x v l p e)] = some r :=
  tblF Tryz.func82 h
theorem zz3 (x : Stp) (v : Int) (l : List Frm) (p e : Int) {r : CR} (h : zr4 (OA (tbl E0) (ltbl E0 83 0)) x v l p e (fun r o => some (r, o)) = some r) : tbl E0 83 [.ref 0 0] [(0, madO x v l p e)] = some r :=
  tblF Tryz.func83 h
theorem zr8 (f : Fld) (a b : Int) {r : CR} (h : zhb (OA (tbl E0) (ltbl E0 108 0)) f a b (fun r o => some (r, o)) = some r) : tbl E0 108 [fldV f, iV a, iV b] [] = some r :=
  tblF Tryz.func108 h
theorem zua (f g : Fld) {r : CR} (h : zkk (OA (tbl E0) (ltbl E0 107 0)) f g (fun r o => some (r, o)) = some r) : tbl E0 107 [fldV f, fldV g] [] = some r :=
  tblF Tryz.func107 h
theorem zhc (x : Stp) (v : Int) (l : List Frm) (p e : Int) {r : CR} (h : zay (OA (tbl E0) (ltbl E0 86 0)) x v l p e (fun r o => some (r, o)) = some r) : tbl E0 86 [.ref 0 0] [(0, madO x v l p e)] = some r :=
  tblF Tryz.func86 h
theorem zhd (x : Stp) (v : Int) (l : List Frm) (p e : Int) {r : CR} (h : zaz (OA (tbl E0) (ltbl E0 47 0)) x v l p e (fun r o => some (r, o)) = some r) : tbl E0 47 [.ref 0 0] [(0, madO x v l p e)] = some r :=
  tblF Tryz.func47 h
theorem t_gOn (s : Sch) (x : Stp) {r : CR} (h : s_gOn (OA (tbl E0) (ltbl E0 17 0)) s x (fun r o => some (r, o)) = some r) : tbl E0 17 [schV s, stpV x] [] = some r :=
  tblF Tryz.func17 h
end V
namespace V
theorem z3n (l : List Fld) : (l.map fldV).all AV.flat = true := by
  rw [List.all_eq_true]; intro x hx; obtain ⟨f, _, rfl⟩ := List.mem_map.1 hx; rfl
theorem z11 (l : List Frm) : (l.map frmV).all AV.flat = true := by
  rw [List.all_eq_true]; intro x hx; obtain ⟨f, _, rfl⟩ := List.mem_map.1 hx; rfl
theorem zr9 (l : List Int) : (l.map fun n => iV n).all AV.flat = true := by
  rw [List.all_eq_true]; intro x hx; obtain ⟨f, _, rfl⟩ := List.mem_map.1 hx; rfl
theorem z3c (x : Stp) (v : Int) (l : List Frm) (p e : Int) : fitI [((0 : Nat), madO x v l p e)] = true := by
  have h1 := z11 l; have h2 := z3n x.fields; have h3 := zr9 x.t; simp only [fitI, fitC, AV.flat, AV.flat1, h1, List.all_cons, List.all_nil, Bool.and_self, Bool.and_true]; rfl
theorem z6q (l : List Fld) (h : l.length ≤ 1000) : tbl E0 45 [fldsV l] [] = some ([fldsU l], []) := zu9 l (by
  have hf := z3n l
  have h2 : (0 + (l.map fldV).length) * 40 ≤ 211106232532992 := by rw [List.length_map]; omega
  cases l with
  | nil =>
    simp only [zcy, List.map_nil]
    exact z7h (fun b => by cases b <;> rfl)
  | cons f l =>
    simp only [List.map_cons] at hf h2; simp only [zcy, List.map_cons, ze1, cond_false, h2, decide_true, z9, cond_true, List.nil_append, hf]
    rfl)
theorem oshE : (nodupN (List.map (fun x => x.fst) (oshOf T0 0 [AV.ref 0 0] Tryz.f79.params.toList)) && (oshOf T0 0 [AV.ref 0 0] Tryz.f79.params.toList).all fun p => p.fst.blt 64) = true := by kernel_rfl
def posS (id : Int) : List Frm → Nat
  | [] => 0
  | f :: l => if f.id < id then posS id l + 1 else 0
theorem zkm (id : Int) : ∀ l : List Frm, posS id l ≤ l.length
  | [] => Nat.le_refl _
  | f :: l => by
    have := zkm id l; unfold posS
    split <;> simp only [List.length_cons] <;> omega
def hereS (id : Int) (l : List Frm) : Bool := match l[posS id l]? with | some f => f.id == id | none => false
theorem zok (l : List Frm) (v : Int) (hl : l.length ≤ 1000) (hf : ∀ f ∈ l, f.fields.length ≤ 1000) : ∀ (r : List Frm) (i : Nat) (d : List Frm), l.drop i = r → d.length = i →
    ltbl E0 42 0 3 [frmsV l, iV l.length, iV i] [[iV 0, frmsV []], [iV v, frmsU d]] = some (1, [], [[iV 0, frmsV []], [iV v, frmsU (d ++ r)]]) := by
  intro r
  induction r with
  | nil =>
    intro i d hr hd
    have h : l.length ≤ i := by simpa using hr
    refine zer _ _ _ _ _ ?_
    have : ¬ ((i : Int) < l.length) := by omega
    have := z11 d; simp [z8t, *]
  | cons f r ih =>
    intro i d hr hd; obtain ⟨hlt, hget, hr2⟩ := zu hr
    have h2 : (i : Int) < l.length := by omega
    have e1 := zj (i := i) (by omega)
    have h := ih (i + 1) (d ++ [f]) hr2 (by simp [hd])
    have c := z6q f.fields (hf f (zcu hr)); have q1 := z3n f.fields; have q2 := z11 (d ++ [f])
    have q3 : ((d.map frmV).length + 1) * 32 ≤ 211106232532992 := by rw [List.length_map]; omega
    refine zer _ _ _ _ _ ?_
    have e3 : d.map frmV ++ [frmV f] = (d ++ [f]).map frmV := by simp
    have e4 : d ++ f :: r = d ++ [f] ++ r := by simp
    simp only [frmV, fldsV, fldsU, frmsV, frmsU, List.map_nil] at c h e3 q2 ⊢; simp only [z8t, h2, decide_true, cond_true, z9, Int.natCast_nonneg, nthE, Int.toNat_natCast, List.getElem?_map, hget, Option.map_some, u_asA, u_asC, u_asI, u_asB, u_asL, zd, u_asN, zr, c, Option.bind_some, q1, List.length_cons, List.length_nil, Nat.zero_add, q3, e3, q2, e1, h, e4, z13, z17]
theorem zra (s : Sch) (hl : s.forms.length ≤ 1000) (hf : ∀ f ∈ s.forms, f.fields.length ≤ 1000) : tbl E0 42 [schV s] [] = some ([.agg [iV s.ver, frmsU s.forms]], []) := zr5 s (by
  have h := zok s.forms s.ver hl hf s.forms 0 [] rfl rfl; have q := z11 s.forms; simp only [Int.natCast_zero, frmsV, frmsU, List.map_nil, List.nil_append] at h; simp only [zh8, z9, cond_true, zo, List.length_map, ze, h, Option.bind_some, nbeq, decide_true, u_asN, u_asC, u_asI, u_asL, zd, q])
theorem zwu {α : Type} {A : Alg α} (td : TD) (a b : Int) (k : AV → α) : bin A td .lss (iV a) (iV b) k = k (.bool (decide (a < b))) := Eq.trans rfl rfl
theorem zwv {α : Type} {A : Alg α} (td : TD) (a b : Int) (k : AV → α) : bin A td .eql (iV a) (iV b) k = k (.bool (a == b)) := Eq.trans rfl rfl
theorem zub (x : Stp) (v : Int) (l : List Frm) (e : Int) (hl : l.length ≤ 1000) : ∀ (r : List Frm) (i : Nat), l.drop i = r →
    ltbl E0 79 0 2 [] [madO x v l i e] = some (1, [], [madO x v l (i + posS x.form r : Nat) e]) := by
  intro r; have q := z11 l
  induction r with
  | nil =>
    intro i hr
    have h : l.length ≤ i := by simpa using hr
    refine zkl _ _ _ _ _ ?_
    have h2 : ¬ ((i : Int) < l.length) := by omega
    simp only [zcz, zh, zo, List.length_map, h2, decide_false, cond_false, Option.bind_some, Tok.untok_tok, q, cond_true, posS, Nat.add_zero]
  | cons f r ih =>
    intro i hr; obtain ⟨hlt, hget, hr2⟩ := zu hr
    have h2 : (i : Int) < l.length := by omega
    have e1 := zj (i := i) (by omega)
    have h := ih (i + 1) hr2; refine zkl _ _ _ _ _ ?_; simp only [zcz, zh, zo, List.length_map, h2, Int.natCast_nonneg, decide_true, cond_true, Bool.and_self, z9, nthE, Int.toNat_natCast, List.getElem?_map, hget, Option.map_some, AV.cells, List.getElem?_cons_zero, u_asB, Option.bind_some, Tok.untok_tok, q, e1, h, zwu]
    by_cases c : f.id < x.form
    · simp [c, posS, Nat.add_assoc, Nat.add_comm 1]
    · simp [c, posS]
theorem zww {id : Int} {l : List Frm} (h : posS id l < l.length) : ∃ f, l[posS id l]? = some f := ⟨_, List.getElem?_eq_getElem h⟩
theorem zfu (x : Stp) (v : Int) (l : List Frm) (p e : Int) (hl : l.length ≤ 1000) : tbl E0 79 [.ref 0 0] [(0, madO x v l p e)] = some ([.bool (hereS x.form l)], [(0, madO x v l (posS x.form l) e)]) := zwt x v l p e (by
  have q := z11 l; have h := zub x v l e hl l 0 rfl; have hp := zkm x.form l; have o := oshE; simp only [Int.natCast_zero, Nat.zero_add] at h; rw [Bool.and_eq_true] at o; simp only [zn1, z3c, o.1, o.2, List.all_cons, List.all_nil, fitA, Bool.and_self, cond_true, z9, q, ze, h, Option.bind_some, nbeq, decide_true, u_asN, u_asC, u_asI, u_asS, u_asL, zd, zh, zo, List.length_map]
  by_cases c : posS x.form l < l.length
  · obtain ⟨f, hf⟩ := zww c
    have c2 : ((posS x.form l : Nat) : Int) < l.length := by omega
    simp only [c2, decide_true, cond_true, Int.natCast_nonneg, Bool.and_self, nthE, Int.toNat_natCast, List.getElem?_map, hf, Option.map_some, AV.cells, List.getElem?_cons_zero, zwv, u_asB, u_asI, Option.bind_some, Tok.untok_tok, hereS]
  · have c2 : ¬ (((posS x.form l : Nat) : Int) < l.length) := by omega
    have c3 : l[posS x.form l]? = none := List.getElem?_eq_none (by omega)
    simp only [c2, decide_false, cond_false, Option.bind_some, Tok.untok_tok, hereS, c3])
theorem oshE2 : (nodupN (List.map (fun x => x.fst) (oshOf T0 0 [AV.ref 0 0] Tryz.f82.params.toList)) && (oshOf T0 0 [AV.ref 0 0] Tryz.f82.params.toList).all fun p => p.fst.blt 64) = true := by kernel_rfl
theorem oshE3 : (nodupN (List.map (fun x => x.fst) (oshOf T0 0 [AV.ref 0 0] Tryz.f83.params.toList)) && (oshOf T0 0 [AV.ref 0 0] Tryz.f83.params.toList).all fun p => p.fst.blt 64) = true := by kernel_rfl
theorem zuc {α : Type} {A : Alg α} (w : Nat) (nm : Nm) (l : List AV) (cl : Cl) (k : AV → Cl → α) : exp0 A (.lst w) nm (.lst .ro w l) cl k = k (.lst .ro w l) cl := by simp [exp0, lit]
theorem zb0 (x : Stp) (v : Int) (l : List Frm) (p : Nat) (e : Int) (g : Frm) (hg : l[p]? = some g) : tbl E0 82 [.ref 0 0] [(0, madO x v l p e)] = some ([fldsV g.fields], [(0, madO x v l p e)]) := zr7 x v l p e (by
  have q := z11 l; have hp : p < l.length := (List.getElem?_eq_some_iff.1 hg).1
  have hp2 : (p : Int) < l.length := by omega
  have o := oshE2; rw [Bool.and_eq_true] at o; simp only [zha, z3c, o.1, o.2, List.all_cons, List.all_nil, fitA, Bool.and_self, cond_true, z9, q, List.length_map, hp2, decide_true, Int.natCast_nonneg, nthE, Int.toNat_natCast, List.getElem?_map, hg, Option.map_some, AV.cells, List.getElem?_cons_succ, List.getElem?_cons_zero, zuc, fldsV, u_asL])
theorem zrb (x : Stp) (v : Int) (l : List Frm) (p e : Nat) (g : Frm) (f : Fld) (hg : l[p]? = some g) (hf : g.fields[e]? = some f) : tbl E0 83 [.ref 0 0] [(0, madO x v l p e)] = some ([fldV f], [(0, madO x v l p e)]) := zz3 x v l p e (by
  have q := z11 l; have c := zb0 x v l p e g hg; have o := oshE3; rw [Bool.and_eq_true] at o; simp only [zr4, zax, z3c, o.1, o.2, List.all_cons, List.all_nil, fitA, Bool.and_self, cond_true, z9, q, zr, c, Option.bind_some, nbeq, decide_true, u_asN, u_asC, u_asI, u_asS, u_asL, zd, Int.natCast_nonneg, nthE, Int.toNat_natCast, List.getElem?_map, hf, Option.map_some, u_asA, z17])
def widerS (f g : Fld) : Bool := rgtS f && rgtS g && f.kind == g.kind && decide (loS g ≤ loS f) && decide (hiS f ≤ hiS g) && decide (f.most ≤ g.most)
theorem zud (f g : Fld) : tbl E0 107 [fldV f, fldV g] [] = some ([.bool (widerS f g)], []) := zua f g (by
  have c1 := z34 f; have c2 := z34 g; simp only [zkk, z9, cond_true, zh, za, c1, c2, Option.bind_some, u_asC, u_asB, u_asN]
  rcases bor (rgtS f) with h1 | h1
  · have d1 := z4d f (fun _ => h1)
    rcases bor (rgtS g) with h2 | h2
    · have d2 := z4d g (fun _ => h2)
      simp only [h1, h2, Bool.not_true, cond_false, Option.bind_some, Tok.untok_tok]
      rcases bor (f.kind != g.kind) with h3 | h3
      · have : (f.kind == g.kind) = false := by simpa using h3
        simp [h3, widerS, h1, h2, this]
      · have : (f.kind == g.kind) = true := by simpa using h3
        simp only [h3, cond_false, z9, cond_true, za, d1, d2, Option.bind_some, u_asC, u_asI, u_asN, zh]
        by_cases a : loS g ≤ loS f <;> by_cases b : hiS f ≤ hiS g <;> simp [widerS, h1, h2, this, a, b]
    · simp [h1, h2, widerS]
  · simp [h1, widerS])
end V
namespace V
def minS (a b : Int) : Int := if b < a then b else a
def maxS (a b : Int) : Int := if a < b then b else a
def affS (a b n : Int) : Int := IntKind.i64.wrap (IntKind.i64.wrap (a * n) + b)
def scaledS (f : Fld) (a b : Int) : Fld := ⟨f.id, f.kind, minS (affS a b f.lo) (affS a b f.hi), maxS (affS a b f.lo) (affS a b f.hi), f.most⟩
def scaleS (f : Fld) (a b : Int) : Fld := ⟨f.id, 1, minS (affS a b f.lo) (affS a b f.hi), maxS (affS a b f.lo) (affS a b f.hi), 0⟩
def typesS (f : Fld) (x : Stp) : List Fld × Bool :=
  if x.op = 2 then ([], hasV f x.n x.s)
  else if x.op = 3 then ([x.f], widerS f x.f)
  else if x.op = 4 then ([scaleS f x.a x.b], f.kind == 1 && rgtS (scaleS f x.a x.b))
  else if x.op = 5 then ([⟨f.id, 3, 0, 0, x.a⟩], f.kind == 3 && f.most == (x.t.length : Int))
  else if x.op = 6 then ([⟨f.id, 1, 0, IntKind.i64.wrap (f.hi.tdiv x.a), 0⟩, ⟨x.to, 1, 0, minS f.hi (IntKind.i64.wrap (x.a - 1)), 0⟩], f.kind == 1 && f.lo == 0)
  else if x.op = 8 then ([⟨x.to, f.kind, f.lo, f.hi, f.most⟩], true) else ([f], true)
def turnedS (f : Fld) (x : Stp) : List Fld × Bool :=
  if x.op = 2 then ([], hasV f x.n x.s)
  else if x.op = 3 then ([x.f], widerS f x.f)
  else if x.op = 4 then (if f.kind = 1 then ([scaledS f x.a x.b], rgtS (scaledS f x.a x.b)) else ([f], false))
  else if x.op = 5 then ([⟨f.id, f.kind, f.lo, f.hi, x.a⟩], f.kind == 3 && f.most == (x.t.length : Int))
  else if x.op = 6 then ([⟨f.id, f.kind, f.lo, IntKind.i64.wrap (f.hi.tdiv x.a), f.most⟩, ⟨x.to, 1, 0, minS (IntKind.i64.wrap (x.a - 1)) f.hi, 0⟩], f.kind == 1 && f.lo == 0)
  else ([⟨x.to, f.kind, f.lo, f.hi, f.most⟩], true)
theorem zrc (a b : Int) : minS a b = minS b a := by unfold minS; split <;> split <;> omega
theorem rgt1 {f : Fld} (h : rgtS f = true) (k : f.kind = 1) : f.most = 0 := by
  simp only [rgtS, k, if_true, Bool.and_eq_true, decide_eq_true_eq] at h; omega
theorem rgt3 {f : Fld} (h : rgtS f = true) (k : f.kind = 3) : f.lo = 0 ∧ f.hi = 0 := by
  simp [rgtS, k] at h; omega
theorem zkn {f : Fld} {x : Stp} (h : rgtS f = true) (h7 : x.op ≠ 7) (hop : x.op = 2 ∨ x.op = 3 ∨ x.op = 4 ∨ x.op = 5 ∨ x.op = 6 ∨ x.op = 8) : (turnedS f x).2 = (typesS f x).2 ∧ ((typesS f x).2 = true → (turnedS f x).1 = (typesS f x).1) := by
  rcases hop with h1 | h1 | h1 | h1 | h1 | h1
  · simp [turnedS, typesS, h1]
  · simp [turnedS, typesS, h1]
  · by_cases k : f.kind = 1
    · have := rgt1 h k
      simp [turnedS, typesS, h1, k, scaledS, scaleS, this]
    · simp [turnedS, typesS, h1, k]
  · by_cases k : f.kind = 3
    · obtain ⟨k1, k2⟩ := rgt3 h k
      simp [turnedS, typesS, h1, k, k1, k2]
    · simp [turnedS, typesS, h1, k]
  · by_cases k : f.kind = 1
    · have := rgt1 h k
      by_cases k2 : f.lo = 0
      · simp [turnedS, typesS, h1, k, k2, this, zrc]
      · simp [turnedS, typesS, h1, k, k2]
    · simp [turnedS, typesS, h1, k]
  · simp [turnedS, typesS, h1]
def fieldS (op : Int) : Bool := op != 1 && (op != 9 && op != 10)
def namesS (s : Sch) (x : Stp) : Int :=
  if x.op = 9 then (if 0 ≤ findS s.forms x.form then 9 else 0)
  else if findS s.forms x.form < 0 then 8
  else match s.forms[(findS s.forms x.form).toNat]? with
    | none => 0
    | some f =>
      if fieldS x.op && decide (atS f.fields x.field < 0) then 8
      else if (x.op == 1 && decide (0 ≤ atS f.fields x.f.id)) || ((x.op == 6 || x.op == 8) && decide (0 ≤ atS f.fields x.to)) then 9
      else if (x.op == 1 && decide ((f.fields.length : Int) < x.place)) || (x.op == 7 && decide ((f.fields.length : Int) ≤ x.place)) then 3 else 0
def putS (l : List Fld) (n : Nat) (m : List Fld) : List Fld := l.take n ++ m ++ l.drop n
def cutS (l : List Fld) (n : Nat) : List Fld := l.take n ++ l.drop (n + 1)
def bodyS (f : Frm) : Bool → List Frm → List Frm
  | _, [] => []
  | b, g :: l => (if !b && decide (f.id ≤ g.id) then [f] else []) ++ ((if g.id ≠ f.id then [g] else []) ++ bodyS f (b || decide (f.id ≤ g.id)) l)
def doneS (f : Frm) : Bool → List Frm → Bool
  | b, [] => b
  | b, g :: l => doneS f (b || decide (f.id ≤ g.id)) l
def formsS (f : Frm) (b : Bool) (l : List Frm) : List Frm := bodyS f b l ++ (if doneS f b l then [] else [f])
theorem zd2 (f : Frm) : ∀ (l : List Frm) (b : Bool), (bodyS f b l).length ≤ 2 * l.length
  | [], b => by simp [bodyS]
  | g :: l, b => by
    have := zd2 f l (b || decide (f.id ≤ g.id))
    simp only [bodyS, List.length_append, List.length_cons]
    split <;> split <;> simp <;> omega
def sch0 : Sch := ⟨0, []⟩
def outS (s : Sch) (f : Frm) : Sch × Int :=
  if schS ⟨s.ver, formsS f f.fields.isEmpty s.forms⟩ then (⟨s.ver, formsS f f.fields.isEmpty s.forms⟩, 0) else (sch0, 7)
def oldS (s : Sch) (x : Stp) : List Fld := match s.forms[(findS s.forms x.form).toNat]? with | some g => g.fields | none => []
def newS (l : List Fld) (x : Stp) (more : List Fld) : List Fld := putS (cutS l (atS l x.field).toNat) (if x.op = 7 then x.place.toNat else (atS l x.field).toNat) more
def onS (s : Sch) (x : Stp) : Sch × Int :=
  if !(schS s) || (!(tRightS x) || decide (10 < x.op)) then (sch0, 2)
  else if namesS s x ≠ 0 then (sch0, namesS s x)
  else if x.op = 9 then outS s ⟨x.form, x.fields⟩
  else if x.op = 1 then outS s ⟨x.form, putS (oldS s x) x.place.toNat [x.f]⟩
  else if x.op = 10 then outS s ⟨x.form, []⟩
  else match (oldS s x)[(atS (oldS s x) x.field).toNat]? with
    | none => (sch0, 17)
    | some g => if (typesS g x).2 then (if (newS (oldS s x) x (typesS g x).1).isEmpty then (sch0, 7) else outS s ⟨x.form, newS (oldS s x) x (typesS g x).1⟩) else (sch0, 17)
end V
namespace V
theorem zue (f g : Fld) (hf : f.kind = 3 → rgtS f = true) : tbl E0 67 [fldV f, fldV g] [] = some ([.bool (widerS f g)], []) := by
  obtain ⟨lo, hi, most, hb, hh⟩ := z66 f; obtain ⟨lo2, hi2, most2, hb2, hh2⟩ := z66 g; refine zu4 f g ?_; simp only [zkf, z9, cond_true, zh, za, hb, hb2, Option.bind_some, u_asC, u_asI, u_asB, u_asN]
  rcases bor (rgtS f) with h1 | h1
  · rcases bor (rgtS g) with h2 | h2
    · obtain ⟨rfl, rfl, rfl⟩ := hh h1
      obtain ⟨rfl, rfl, rfl⟩ := hh2 h2
      by_cases k : f.kind = g.kind
      · have key : ((decide (loS g ≤ loS f) && (decide (hiS f ≤ hiS g) && decide ((if f.kind = 4 then f.most else 0) ≤ (if g.kind = 4 then g.most else 0)))) = (decide (loS g ≤ loS f) && (decide (hiS f ≤ hiS g) && decide (f.most ≤ g.most)))) := by
          have q1 := h1; have q2 := h2; simp only [rgtS, ← k, Bool.and_eq_true, decide_eq_true_eq] at q1 q2
          by_cases k1 : f.kind = 1
          · simp only [k1, if_true, decide_eq_true_eq] at q1 q2
            have : f.most ≤ g.most := by omega
            simp [k1, ← k, this]
          · by_cases k2 : f.kind = 2
            · simp [k2] at q1 q2
              have : f.most ≤ g.most := by omega
              simp [k2, ← k, this]
            · by_cases k3 : f.kind = 3
              · have : (hiS f ≤ hiS g) ↔ f.most ≤ g.most := by simp [hiS, k3, ← k]
                simp [k3, ← k, this]
              · by_cases k4 : f.kind = 4
                · simp [k4, ← k]
                · simp [k1, k2, k3, k4] at q1
        have k' : (f.kind == g.kind) = true := by simpa using k
        simp only [widerS, h1, h2, k', cond_true, Bool.true_and, Bool.and_assoc, ← key]
        by_cases a : loS g ≤ loS f <;> by_cases b : hiS f ≤ hiS g <;> simp [a, b]
      · simp [h1, h2, widerS, k]
    · simp [h1, h2, widerS]
  · simp [h1, widerS]
theorem zrd (l : List Fld) (n : Nat) (f : Fld) (hn : n ≤ l.length) (hl : l.length ≤ 1000) : tbl E0 32 [fldsV l, iV n, fldV f] [] = some ([fldsV (putS l n [f])], []) := zz0 l n f (by
  have h1 : (n : Int) ≤ l.length := by omega
  have h2 : (((l.map fldV).take n).length) * 40 ≤ 211106232532992 := by rw [List.length_take, List.length_map]; omega
  have h3 : (((l.map fldV).take n).length + 1) * 40 ≤ 211106232532992 := by rw [List.length_take, List.length_map]; omega
  have h4 : (((l.map fldV).take n ++ [fldV f]).length + ((l.map fldV).drop n).length) * 40 ≤ 211106232532992 := by rw [List.length_append, List.length_take, List.length_drop, List.length_map]; simp; omega
  have h5 : ((l.map fldV).take l.length) = l.map fldV := List.take_of_length_le (by simp)
  simp only [fldV, fldC] at h2 h3 h4 h5; simp only [zr0, z9, List.length_map, Int.le_refl, Int.natCast_nonneg, h1, decide_true, Bool.and_self, cond_true, List.drop_zero, Int.toNat_natCast, List.length_cons, List.length_nil, Nat.zero_add, h2, h3, h4, h5]; simp only [fldsV, fldV, fldC, putS, List.map_append, List.map_take, List.map_drop, List.map_cons, List.map_nil])
theorem zz4 (l : List Fld) (n : Nat) (hn : n < l.length) (hl : l.length ≤ 1000) : tbl E0 34 [fldsV l, iV n] [] = some ([fldsV (cutS l n)], []) := zz1 l n (by
  have h1 : (n : Int) ≤ l.length := by omega
  have e1 := zj (i := n) (by omega)
  have h0 : ((n + 1 : Nat) : Int) ≤ l.length := by omega
  have h2 : (0 + ((l.map fldV).take n).length) * 40 ≤ 211106232532992 := by rw [List.length_take, List.length_map]; omega
  have h4 : (((l.map fldV).take n).length + ((l.map fldV).drop (n + 1)).length) * 40 ≤ 211106232532992 := by rw [List.length_take, List.length_drop, List.length_map]; omega
  have h5 : ((l.map fldV).take l.length) = l.map fldV := List.take_of_length_le (by simp)
  simp only [zr1, z9, List.length_map, Int.le_refl, Int.natCast_nonneg, h1, h0, e1, decide_true, Bool.and_self, cond_true, List.drop_zero, Int.toNat_natCast, h2, h4, h5]; simp only [fldsV, fldV, fldC, cutS, List.map_append, List.map_take, List.map_drop])
theorem zuf (op : Int) : tbl E0 66 [iV op] [] = some ([.bool (fieldS op)], []) := zu5 op (by
  simp only [zkg, zh]
  by_cases h1 : op = 1
  · simp [h1, fieldS]
  · have h1' := bne_t h1
    by_cases h2 : op = 9
    · simp [h2, fieldS]
    · have h2' := bne_t h2
      simp only [h1', h2', cond_true, Option.bind_some, Tok.untok_tok, fieldS, Bool.true_and])
def Few (s : Sch) : Prop := s.forms.length ≤ 1000 ∧ ∀ f ∈ s.forms, f.fields.length ≤ 1000
theorem Few.sml {s : Sch} (h : Few s) : Sml s := ⟨by have := h.1; omega, fun f hf => by have := h.2 f hf; omega⟩
theorem z4g {α : Type} {p : α → Bool} {l : List α} : (∃ (j : Nat) (f : α), firstS p l = (j : Int) ∧ l[j]? = some f ∧ p f = true) ∨ firstS p l = -1 := by
  unfold firstS
  cases h : l.findIdx? p with
  | none => exact .inr rfl
  | some j =>
    obtain ⟨h1, h2, h3⟩ := List.findIdx?_eq_some_iff_getElem.1 h; exact .inl ⟨j, l[j], rfl, List.getElem?_eq_getElem h1, h2⟩
theorem zug (s : Sch) (x : Stp) (hs : Few s) : tbl E0 31 [schV s, stpV x] [] = some ([iV (namesS s x)], []) := zu6 s x (by
  have c := zbc s x.form hs.sml; simp only [zkh, z9, cond_true, za, c, Option.bind_some, u_asC, u_asI, u_asN]
  by_cases h9 : x.op = 9
  · by_cases h : 0 ≤ findS s.forms x.form <;> simp [namesS, h9, h]
  · have h9' : (x.op == 9) = false := by simpa using h9
    rcases z4g (p := fun f : Frm => f.id == x.form) (l := s.forms) with ⟨j, f, e1, e2, e3⟩ | e1
    · have e1 : findS s.forms x.form = (j : Int) := e1
      have hf : f.fields.length ≤ 1000 := hs.2 f (List.mem_of_getElem? e2)
      have a1 := c_yAt f x.field (by omega)
      have a2 := c_yAt f x.f.id (by omega)
      have a3 := c_yAt f x.to (by omega)
      have n1 : ¬ ((j : Int) < 0) := by omega
      simp only [h9', cond_false, e1, n1, decide_false, Int.natCast_nonneg, decide_true, z9, cond_true, nthE, Int.toNat_natCast, List.getElem?_map, e2, Option.map_some, u_asA, u_asC, u_asI, u_asL, u_asN, zh, za, zuf, Option.bind_some, u_asB, a1, a2, a3, zo, List.length_map, z7l]
      have en : namesS s x = (if fieldS x.op && decide (atS f.fields x.field < 0) then 8
        else if (x.op == 1 && decide (0 ≤ atS f.fields x.f.id)) || ((x.op == 6 || x.op == 8) && decide (0 ≤ atS f.fields x.to)) then 9
        else if (x.op == 1 && decide ((f.fields.length : Int) < x.place)) || (x.op == 7 && decide ((f.fields.length : Int) ≤ x.place)) then 3 else 0) := by
        simp only [namesS, h9, if_false, e1, n1, Int.toNat_natCast, e2]
      rw [en]
      have key : ∀ A B : Bool, (bif A then some ([iV 9], []) else bif B then some ([iV 3], []) else some ([iV 0], [])) = (some ([iV (if A = true then 9 else if B = true then 3 else 0)], []) : Option CR) := by
        intro A B
        cases A <;> cases B <;> rfl
      simp only [z30, Option.bind_some, Tok.untok_tok, zfs, zbe, zft, zmz]
      rcases bor (fieldS x.op) with g1 | g1 <;> by_cases g2 : atS f.fields x.field < 0 <;> simp only [g1, g2, decide_true, decide_false, cond_true, cond_false, Option.bind_some, Tok.untok_tok, Bool.and_true, Bool.and_false, Bool.true_and, Bool.false_and, if_true, if_false]
      all_goals try (simp only [Bool.false_eq_true, if_false]; done)
      all_goals simp only [zkc, ge_iff_le, gt_iff_lt, Bool.false_eq_true, if_false]
      all_goals exact key _ _
    · have e1 : findS s.forms x.form = -1 := e1
      simp [h9', e1, namesS, h9])
theorem zuh (f : Fld) (x : Stp) (hf : f.kind = 3 → rgtS f = true) (hx : x.op = 6 → x.a ≠ 0) : tbl E0 33 [fldV f, stpV x] [] = some ([fldsV (typesS f x).1, .bool (typesS f x).2], []) := zu7 f x (by
  have c1 := zk8 f x.n x.s; have c2 := zue f x.f hf; have c3 := zct (scaleS f x.a x.b); simp only [fldV, fldC, stpV, stpC] at c1 c2
  have e4 : x.op = 4 → typesS f x = ([scaleS f x.a x.b], f.kind == 1 && rgtS (scaleS f x.a x.b)) := fun h => by simp [typesS, h]
  have m1 : (if IntKind.i64.wrap (IntKind.i64.wrap (x.a * f.hi) + x.b) < IntKind.i64.wrap (IntKind.i64.wrap (x.a * f.lo) + x.b) then IntKind.i64.wrap (IntKind.i64.wrap (x.a * f.hi) + x.b) else IntKind.i64.wrap (IntKind.i64.wrap (x.a * f.lo) + x.b)) = minS (affS x.a x.b f.lo) (affS x.a x.b f.hi) := rfl
  have m2 : (if IntKind.i64.wrap (IntKind.i64.wrap (x.a * f.lo) + x.b) < IntKind.i64.wrap (IntKind.i64.wrap (x.a * f.hi) + x.b) then IntKind.i64.wrap (IntKind.i64.wrap (x.a * f.hi) + x.b) else IntKind.i64.wrap (IntKind.i64.wrap (x.a * f.lo) + x.b)) = maxS (affS x.a x.b f.lo) (affS x.a x.b f.hi) := rfl
  simp only [fldV, fldC, scaleS] at c3
  by_cases h2 : x.op = 2
  · simp only [z29, h2, beq_self_eq_true, z9, cond_true, za, c1, Option.bind_some, u_asC, u_asB, u_asN]
    simp [typesS, h2]
  · have g2 := beq_f h2
    by_cases h3 : x.op = 3
    · simp only [z29, z7m, h3, g2, beq_self_eq_true, z9, cond_true, cond_false, za, c2, Option.bind_some, u_asC, u_asB, u_asN, z17, z13, (by decide : ((3 : Int) == 2) = false)]
      simp [typesS, h3]
    · have g3 := beq_f h3
      by_cases h4 : x.op = 4
      · rcases bor (f.kind == 1) with k | k
        · simp only [z29, z5l, z5j, z5k, h4, k, beq_self_eq_true, z9, cond_true, cond_false, za, m1, m2, c3, Option.bind_some, u_asC, u_asB, u_asN, z17, z13, (by decide : ((4 : Int) == 2) = false), (by decide : ((4 : Int) == 3) = false)]
          rw [e4 h4, k]; rfl
        · simp only [z29, z5l, z5j, z5k, h4, k, beq_self_eq_true, z9, cond_true, cond_false, za, m1, m2, c3, Option.bind_some, u_asC, u_asB, u_asN, z17, z13, (by decide : ((4 : Int) == 2) = false), (by decide : ((4 : Int) == 3) = false)]
          rw [e4 h4, k]; rfl
      · have g4 := beq_f h4
        by_cases h5 : x.op = 5
        · rcases bor (f.kind == 3) with k | k
          · simp only [z29, h5, k, beq_self_eq_true, z9, zo, cond_true, cond_false, z17, z13, List.length_map, (by decide : ((5 : Int) == 2) = false), (by decide : ((5 : Int) == 3) = false), (by decide : ((5 : Int) == 4) = false)]
            simp [typesS, h5, (by simpa using k : f.kind = 3)]
          · simp only [z29, h5, k, beq_self_eq_true, z9, zo, cond_true, cond_false, z17, z13, List.length_map, (by decide : ((5 : Int) == 2) = false), (by decide : ((5 : Int) == 3) = false), (by decide : ((5 : Int) == 4) = false)]
            simp [typesS, h5, (by simpa using k : f.kind ≠ 3)]
        · have g5 := beq_f h5
          by_cases h6 : x.op = 6
          · have ha : (!(x.a == (0 : Int))) = true := by simpa using hx h6
            rcases bor (f.kind == 1) with k | k
            · simp only [z29, z3y, h6, ha, k, beq_self_eq_true, z9, zo, cond_true, cond_false, z17, z13, (by decide : ((6 : Int) == 2) = false), (by decide : ((6 : Int) == 3) = false), (by decide : ((6 : Int) == 4) = false), (by decide : ((6 : Int) == 5) = false)]
              simp [typesS, h6, (by simpa using k : f.kind = 1), minS]
            · simp only [z29, z3y, h6, ha, k, beq_self_eq_true, z9, zo, cond_true, cond_false, z17, z13, (by decide : ((6 : Int) == 2) = false), (by decide : ((6 : Int) == 3) = false), (by decide : ((6 : Int) == 4) = false), (by decide : ((6 : Int) == 5) = false)]
              simp [typesS, h6, (by simpa using k : f.kind ≠ 1), minS]
          · have g6 := beq_f h6
            by_cases h8 : x.op = 8
            · simp [z29, typesS, h8]
            · simp [z29, typesS, h2, h3, h4, h5, h6, h8])
theorem q32 {n : Nat} (h : n ≤ 3000) : n * 32 ≤ 211106232532992 := by omega
theorem zre (s : Sch) (f : Frm) (v : Int) (hs : Few s) : ∀ (r : List Frm) (i : Nat) (b : Bool) (d : List Frm), s.forms.drop i = r → d.length ≤ 2 * i →
    ltbl E0 35 0 4 [.bool b, iV i] [[iV s.ver, frmsV s.forms], [iV f.id, fldsV f.fields], [iV 0, frmsV []], [iV v, .lst (.own (.O 1005 1)) 2 (d.map frmV)]] =
      some (1, [.bool (doneS f b r)], [[iV f.id, fldsV f.fields], [iV 0, frmsV []], [iV v, .lst (.own (.O 1005 1)) 2 ((d ++ bodyS f b r).map frmV)]]) := by
  intro r; have hl := hs.1
  induction r with
  | nil =>
    intro i b d hr hd
    have h : s.forms.length ≤ i := by simpa using hr
    refine zh7 _ _ _ _ _ _ ?_
    have : ¬ ((i : Int) < s.forms.length) := by omega
    simp [zaw, this, bodyS, doneS]
  | cons g r ih =>
    intro i b d hr hd; obtain ⟨hlt, hget, hr2⟩ := zu hr
    have h2 : (i : Int) < s.forms.length := by omega
    have e1 := zj (i := i) (by omega)
    have q0 : d.length + 1 ≤ 3000 ∧ d.length + 1 + 1 ≤ 3000 := by omega
    have q1 := q32 q0.1; have q2 := q32 q0.2
    have m : ∀ (x : Frm) (d : List Frm), d.map frmV ++ [frmV x] = (d ++ [x]).map frmV := fun x d => by simp
    simp only [frmV, fldsV] at m; refine zh7 _ _ _ _ _ _ ?_; simp only [zaw, zo, List.length_map, h2, decide_true, cond_true, zh, z9, Int.natCast_nonneg, nthE, Int.toNat_natCast, List.getElem?_map, hget, Option.map_some, u_asA, u_asC, u_asI, u_asB, u_asL, u_asN, e1, z13, List.length_cons, List.length_nil, List.length_append, Nat.zero_add]
    cases b with
    | true =>
      simp only [Bool.not_true, cond_false, Option.bind_some, Tok.untok_tok]
      by_cases n : g.id = f.id
      · have n' : (g.id != f.id) = false := by simpa using n
        have h := ih (i + 1) true d hr2 (by omega)
        simp only [frmV, fldsV, frmsV, List.map_nil] at h ⊢; simp only [n', cond_false, h]; simp [bodyS, doneS, n]
      · have n' := bne_t n
        have h := ih (i + 1) true (d ++ [g]) hr2 (by simp; omega)
        simp only [frmV, fldsV, frmsV, List.map_nil] at h ⊢; simp only [n', cond_true, q1, decide_true, m, h]; simp [bodyS, doneS, n]
    | false =>
      simp only [Bool.not_false, cond_true, Option.bind_some, Tok.untok_tok, ge_iff_le]
      by_cases a : f.id ≤ g.id
      · simp only [a, decide_true, cond_true, q1]
        by_cases n : g.id = f.id
        · have n' : (g.id != f.id) = false := by simpa using n
          have h := ih (i + 1) true (d ++ [f]) hr2 (by simp; omega)
          simp only [frmV, fldsV, frmsV, List.map_nil] at h ⊢; simp only [n', cond_false, m, h]; simp [bodyS, doneS, n, a]
        · have n' := bne_t n
          have h := ih (i + 1) true (d ++ [f] ++ [g]) hr2 (by simp; omega)
          simp only [frmV, fldsV, frmsV, List.map_nil] at h ⊢; simp only [n', cond_true, q2, decide_true, m, h]; simp [bodyS, doneS, n, a]
      · simp only [a, decide_false, cond_false]
        by_cases n : g.id = f.id
        · omega
        · have n' := bne_t n
          have h := ih (i + 1) false (d ++ [g]) hr2 (by simp; omega)
          simp only [frmV, fldsV, frmsV, List.map_nil] at h ⊢; simp only [n', cond_true, q1, decide_true, m, h]; simp [bodyS, doneS, n, a]
theorem zui (s : Sch) (f : Frm) (hs : Few s) : tbl E0 35 [schV s, frmV f] [] = some ([schV ⟨s.ver, formsS f f.fields.isEmpty s.forms⟩], []) := zu8 s f (by
  have h := zre s f s.ver hs s.forms 0 f.fields.isEmpty [] rfl (by simp)
  have e : ((f.fields.length : Int) == 0) = f.fields.isEmpty := by cases f.fields <;> simp; omega
  have hb := zd2 f s.forms f.fields.isEmpty; have hl := hs.1
  have q1 : ((bodyS f f.fields.isEmpty s.forms).length + 1) * 32 ≤ 211106232532992 := by omega
  simp only [Int.natCast_zero, List.map_nil, List.nil_append, frmV, fldsV, frmsV] at h; simp only [zki, z9, cond_true, zo, List.length_map, e, ze, h, Option.bind_some, nbeq, decide_true, u_asN, u_asC, u_asI, u_asL, u_asB, zfg, z7i, List.length_cons, List.length_nil, Nat.zero_add, q1]
  rcases bor (doneS f f.fields.isEmpty s.forms) with d | d
  · simp [d, formsS]
  · simp [d, formsS])
end V
namespace V
theorem zy {x : Stp} (h : tRightS x = true) (p : Int) (hp : p ∈ usesS x.op) : fitsS x p = true := ((z3t h).1 p hp).2.1
theorem zbf {x : Stp} (h : tRightS x = true) (o : x.op = 1) : (0 ≤ x.place ∧ x.place ≤ 8) ∧ rgtS x.f = true := by
  have h2 := zy h 2 (by rw [o]; decide)
  have h6 := zy h 6 (by rw [o]; decide)
  simp [fitsS, inS] at h2 h6; exact ⟨h2, h6.1⟩
theorem zfv {x : Stp} (h : tRightS x = true) (o : x.op = 6) : (2 ≤ x.a ∧ x.a ≤ 1048576) ∧ 0 ≤ x.to := by
  have h2 := zy h 4 (by rw [o]; decide)
  have h6 := zy h 3 (by rw [o]; decide)
  simp [fitsS, inS, o] at h2 h6; exact ⟨h2, h6.1.1⟩
theorem zwx {x : Stp} (h : tRightS x = true) (o : x.op = 8) : 0 ≤ x.to := by
  have h6 := zy h 3 (by rw [o]; decide)
  simp [fitsS, inS] at h6; exact h6.1.1
theorem zn2 {x : Stp} (h : tRightS x = true) (o : x.op = 7) : 0 ≤ x.place ∧ x.place ≤ 8 := by
  have h6 := zy h 2 (by rw [o]; decide)
  simpa [fitsS, inS] using h6
theorem zfw {x : Stp} (h : tRightS x = true) (o : x.op = 9) : fineS ⟨x.form, x.fields⟩ = true := by
  have h6 := zy h 9 (by rw [o]; decide)
  simpa [fitsS] using h6
theorem z59 {x : Stp} (h : tRightS x = true) (h10 : x.op ≤ 10) : x.op = 1 ∨ x.op = 2 ∨ x.op = 3 ∨ x.op = 4 ∨ x.op = 5 ∨ x.op = 6 ∨ x.op = 7 ∨ x.op = 8 ∨ x.op = 9 ∨ x.op = 10 := by
  have := (z3t h).2.1; simp only [opsL, List.mem_cons, List.not_mem_nil, or_false] at this; omega
theorem bor' (b : Bool) : b = false ∨ b = true := by cases b <;> simp
theorem zwy (l t : List Fld) (n : Nat) (x : Fld) (hn : n ≤ l.length) : putS (putS l n t) (n + t.length) [x] = putS l n (t ++ [x]) := by
  have e1 : (l.take n ++ t).length = n + t.length := by simp; omega
  unfold putS
  rw [List.take_append_of_le_length (by omega), List.drop_append_of_le_length (by omega), ← e1, List.take_length, List.drop_length]
  simp
theorem z67 (l t : List Fld) (n : Nat) : (putS l n t).length = l.length + t.length := by
  unfold putS; simp; omega
theorem zz5 (s : Sch) (l : List Fld) (n id : Int) (k : Nat) (hn : n = k) (more : List Fld) (hk : k ≤ l.length) (hl : l.length ≤ 500) (hm : more.length ≤ 8) : ∀ (r : List Fld) (i : Nat), more.drop i = r →
    ltbl E0 12 0 17 [iV n, fldsV more, iV i] [[iV s.ver, frmsV s.forms], [iV 0, frmsV []], [iV id, fldsV (putS l k (more.take i))]] =
      some (2, [], [[iV s.ver, frmsV s.forms], [iV 0, frmsV []], [iV id, fldsV (putS l k more)]]) := by
  intro r; subst hn
  induction r with
  | nil =>
    intro i hr
    have h : more.length ≤ i := by simpa using hr
    refine zr3 _ _ _ _ ⟨id, putS l k (more.take i)⟩ ?_
    have : ¬ ((i : Int) < more.length) := by omega
    simp [zkj, this, List.take_of_length_le h]
  | cons f r ih =>
    intro i hr; obtain ⟨hlt, hget, hr2⟩ := zu hr
    have h2 : (i : Int) < more.length := by omega
    have e1 := zj (i := i) (by omega)
    have e2 : IntKind.i64.wrap ((k : Int) + i) = ((k + i : Nat) : Int) := by rw [wrap_i64 _ (by omega) (by omega)]; omega
    have hlen : (more.take i).length = i := by rw [List.length_take]; omega
    have h := ih (i + 1) hr2
    have c := zrd (putS l k (more.take i)) (k + i) f (by rw [z67]; omega) (by rw [z67]; omega)
    have e3 : putS (putS l k (more.take i)) (k + i) [f] = putS l k (more.take (i + 1)) := by
      have := zwy l (more.take i) k f hk; rw [hlen] at this; rw [this, List.take_add_one, hget]; rfl
    rw [e3] at c; refine zr3 _ _ _ _ ⟨id, putS l k (more.take i)⟩ ?_; simp only [fldV, fldC, fldsV, frmsV, List.map_nil] at c h ⊢; simp only [zkj, zo, List.length_map, h2, decide_true, cond_true, z9, Int.natCast_nonneg, nthE, Int.toNat_natCast, List.getElem?_map, hget, Option.map_some, u_asA, u_asC, u_asI, u_asL, u_asN, za, e2, c, Option.bind_some, e1, h]
theorem zz6 (s : Sch) (f : Frm) (hs : Few s) (hf : f.fields.length ≤ 1000) : ltbl E0 12 0 1000028 [] [[iV s.ver, frmsV s.forms], [iV 0, frmsV []], [iV f.id, fldsV f.fields]] =
    some (0, [iV (outS s f).2], [[iV (outS s f).1.ver, frmsV (outS s f).1.forms]]) := by
  have c := zui s f hs; have hb := zd2 f s.forms f.fields.isEmpty; have hl := hs.1
  have mem : ∀ (l : List Frm) (b : Bool), ∀ g ∈ bodyS f b l, g = f ∨ g ∈ l := by
    intro l
    induction l with
    | nil => intro b g hg; simp [bodyS] at hg
    | cons a l ih =>
      intro b g hg; simp only [bodyS, List.mem_append] at hg
      rcases hg with hg | hg | hg
      · split at hg
        · simp at hg; exact .inl hg
        · simp at hg
      · split at hg
        · simp at hg; exact .inr (by simp [hg])
        · simp at hg
      · rcases ih _ g hg with h | h
        · exact .inl h
        · exact .inr (by simp [h])
  have sm : Sml ⟨s.ver, formsS f f.fields.isEmpty s.forms⟩ := by
    refine ⟨?_, fun g hg => ?_⟩
    · have : (formsS f f.fields.isEmpty s.forms).length ≤ 3000 := by
        unfold formsS; rw [List.length_append]
        split <;> simp <;> omega
      exact Nat.le_trans this (by decide)
    · have : g = f ∨ g ∈ s.forms := by
        simp only [formsS, List.mem_append] at hg
        rcases hg with hg | hg
        · exact mem _ _ g hg
        · split at hg
          · simp at hg
          · simp at hg; exact .inl hg
      rcases this with rfl | h
      · exact Nat.le_trans hf (by decide)
      · exact Nat.le_trans (hs.2 g h) (by decide)
  have d := zh4 _ sm; refine zz2 s f ?_; simp only [frmV, fldsV, frmsV, schV] at c d ⊢; simp only [zr2, z9, cond_true, za, c, d, Option.bind_some, u_asC, u_asA, u_asI, u_asL, u_asB, u_asN, outS]
  rcases bor (schS ⟨s.ver, formsS f f.fields.isEmpty s.forms⟩) with b | b
  · simp [b]
  · simp [b, sch0]
theorem names0 {s : Sch} {x : Stp} (h : namesS s x = 0) (h9 : x.op ≠ 9) : ∃ (j : Nat) (g : Frm), findS s.forms x.form = (j : Int) ∧ s.forms[j]? = some g ∧ g.id = x.form ∧ oldS s x = g.fields ∧
    (fieldS x.op = true → ∃ (k : Nat) (f : Fld), atS g.fields x.field = (k : Int) ∧ g.fields[k]? = some f) ∧ (x.op = 1 → x.place ≤ g.fields.length ∧ atS g.fields x.f.id < 0) ∧ (x.op = 7 → x.place < g.fields.length) ∧ (x.op = 6 ∨ x.op = 8 → atS g.fields x.to < 0) := by
  rcases z4g (p := fun f : Frm => f.id == x.form) (l := s.forms) with ⟨j, g, e1, e2, e3⟩ | e1
  · have e1 : findS s.forms x.form = (j : Int) := e1
    refine ⟨j, g, e1, e2, by simpa using e3, by simp [oldS, e1, e2], ?_⟩
    have n1 : ¬ ((j : Int) < 0) := by omega
    simp only [namesS, h9, if_false, e1, n1, Int.toNat_natCast, e2] at h
    have a1 : ¬ ((fieldS x.op && decide (atS g.fields x.field < 0)) = true) := by
      intro a; simp [a] at h
    rw [if_neg a1] at h
    have a2 : ¬ (((x.op == 1 && decide (0 ≤ atS g.fields x.f.id)) || ((x.op == 6 || x.op == 8) && decide (0 ≤ atS g.fields x.to))) = true) := by
      intro a; simp [a] at h
    rw [if_neg a2] at h
    have a3 : ¬ (((x.op == 1 && decide ((g.fields.length : Int) < x.place)) || (x.op == 7 && decide ((g.fields.length : Int) ≤ x.place))) = true) := by
      intro a; simp [a] at h
    refine ⟨fun hf => ?_, fun o => ?_, fun o => ?_, fun o => ?_⟩
    · rcases z4g (p := fun f : Fld => f.id == x.field) (l := g.fields) with ⟨k, f, q1, q2, q3⟩ | q1
      · exact ⟨k, f, q1, q2⟩
      · exfalso
        have q1 : atS g.fields x.field = -1 := q1; apply a1; simp [hf, q1]
    · simp [o] at a2 a3
      omega
    · simp [o] at a3
      omega
    · simp at a2
      have := a2.2 o; omega
  · have e1 : findS s.forms x.form = -1 := e1
    simp [namesS, h9, e1] at h
theorem zfx {l : List Fld} {n : Nat} (h : n < l.length) : (cutS l n).length + 1 = l.length := by
  unfold cutS; simp; omega
theorem z5a {s : Sch} (h : schS s = true) : s.forms.length ≤ 8 ∧ ∀ f ∈ s.forms, f.fields.length ≤ 8 ∧ ∀ x ∈ f.fields, rgtS x = true := by
  simp only [schS, Bool.and_eq_true, decide_eq_true_eq] at h; refine ⟨h.1.2, fun f hf => ?_⟩; have := z3a _ _ h.2 f hf; rw [z3k] at this; exact ⟨this.2.1.2, this.2.2.2.1⟩
theorem zrf (f : Fld) (x : Stp) : (typesS f x).1.length ≤ 2 := by
  unfold typesS
  repeat' split
  all_goals simp
theorem c_zOn (s : Sch) (x : Stp) (hs : Few s) (hx : x.sml) : tbl E0 12 [schV s, stpV x] [] = some ([schV (onS s x).1, iV (onS s x).2], []) := t_zOn s x (by
  have c1 := zh4 s hs.sml; have c2 := zqr x hx; rw [← zqi] at c2; have cn := zug s x hs; have cF := zbc s x.form hs.sml; simp only [schV, stpV, stpC, intsV, frmsV, fldsV] at c1 c2 cn cF
  have gate : onS s x = if !(schS s) || (!(tRightS x) || decide (10 < x.op)) then (sch0, 2) else onS s x := by
    by_cases h : (!(schS s) || (!(tRightS x) || decide (10 < x.op))) = true
    · rw [if_pos h]; unfold onS; rw [if_pos h]
    · rw [if_neg h]
  simp only [s_zOn, z9, cond_true, zh, za, c1, Option.bind_some, u_asC, u_asB, u_asN]
  rcases bor' (schS s) with h1 | h1
  · simp [h1, gate, sch0]
  simp only [h1, Bool.not_true, cond_false, c2, Option.bind_some, u_asC, u_asB, u_asN]
  rcases bor' (tRightS x) with h2 | h2
  · simp [h1, h2, gate, sch0]
  simp only [h2, Bool.not_true, cond_false, Option.bind_some, Tok.untok_tok, gt_iff_lt]
  by_cases h3 : 10 < x.op
  · simp [h1, h2, h3, gate, sch0]
  simp only [h3, decide_false, cond_false, cn, Option.bind_some, u_asC, u_asI, u_asN]
  have g0 : ¬ ((!(schS s) || (!(tRightS x) || decide (10 < x.op))) = true) := by simp [h1, h2, h3]
  by_cases h4 : ¬ (namesS s x = 0)
  · have h4' := bne_t h4
    simp only [h4', cond_true, onS, if_neg g0, ne_eq, h4, not_false_eq_true, if_true, sch0, schV, frmsV, List.map_nil]
  have h4 : namesS s x = 0 := Classical.not_not.1 h4
  have h4' : (namesS s x != 0) = false := by simp [h4]
  simp only [h4', cond_false]; have M := fun (f : Frm) (hf : f.fields.length ≤ 1000) => zz6 s f hs hf; simp only [frmsV, fldsV, List.map_nil] at M
  by_cases h9 : x.op = 9
  · have f9 := zfw h2 h9
    have l9 : x.fields.length ≤ 8 := (zap f9).1
    have q : (0 + (x.fields.map fldV).length) * 40 ≤ 211106232532992 := by rw [List.length_map]; omega
    have m := M ⟨x.form, x.fields⟩ (by simp; omega)
    simp only at m; simp only [h9, beq_self_eq_true, cond_true, q, decide_true, ze, m, Option.bind_some, z3l, nbeq, u_asN, u_asC, u_asI, u_asL, z9]
    have eo : onS s x = outS s ⟨x.form, x.fields⟩ := by unfold onS; rw [if_neg g0, if_neg (by simp [h4]), if_pos h9]
    rw [eo]
  have h9' : (x.op == 9) = false := by simpa using h9
  simp only [h9', cond_false]; obtain ⟨j, g, e1, e2, e3, e4, e5, e6, e7, e8⟩ := names0 h4 h9; have hg : g.fields.length ≤ 8 := ((z5a h1).2 g (List.mem_of_getElem? e2)).1; rw [e1] at cF
  by_cases o1 : x.op = 1
  · obtain ⟨p1, p2⟩ := zbf h2 o1
    have p3 := (e6 o1).1
    obtain ⟨k, hk⟩ : ∃ k : Nat, x.place = (k : Int) := ⟨x.place.toNat, by omega⟩
    have c := zrd g.fields k x.f (by omega) (by omega)
    have m := M ⟨x.form, putS g.fields k [x.f]⟩ (by rw [z67]; simp; omega)
    simp only [fldsV, fldV, fldC] at c; simp only at m; simp only [o1, beq_self_eq_true, cond_true, za, cF, Option.bind_some, u_asC, u_asI, u_asN, u_asA, u_asL, Int.natCast_nonneg, decide_true, nthE, Int.toNat_natCast, List.getElem?_map, e2, Option.map_some, hk, c, ze, m, z3l, nbeq, z9]
    have eo : onS s x = outS s ⟨x.form, putS g.fields k [x.f]⟩ := by unfold onS; rw [if_neg g0, if_neg (by simp [h4]), if_neg h9, if_pos o1, e4, hk, Int.toNat_natCast]
    rw [eo]
  have o1' : (x.op == 1) = false := by simpa using o1
  simp only [o1', cond_false]
  by_cases o10 : x.op = 10
  · have m := M ⟨x.form, []⟩ (by simp)
    simp only [List.map_nil] at m; simp only [o10, beq_self_eq_true, cond_true, ze, m, Option.bind_some, z3l, nbeq, u_asN, u_asC, u_asI, u_asL, z9, decide_true]
    have eo : onS s x = outS s ⟨x.form, []⟩ := by unfold onS; rw [if_neg g0, if_neg (by simp [h4]), if_neg h9, if_neg o1, if_pos o10]
    rw [eo]
  have o10' : (x.op == 10) = false := by simpa using o10
  have hfield : fieldS x.op = true := by simp [fieldS, o1, h9, o10]
  obtain ⟨k, f, q1, q2⟩ := e5 hfield; have hk : k < g.fields.length := (List.getElem?_eq_some_iff.1 q2).1; have hf : rgtS f = true := ((z5a h1).2 g (List.mem_of_getElem? e2)).2 f (List.mem_of_getElem? q2)
  have cA := c_yAt ⟨0, g.fields⟩ x.field (by simp; omega)
  simp only [frmV, fldsV, q1] at cA
  have cT := zuh f x (fun _ => hf) (fun o6 => by have := zfv h2 o6; omega)
  have cC := zz4 g.fields k hk (by omega)
  have hC := zfx hk; have hT := zrf f x; simp only [fldV, fldC, stpV, stpC, intsV, fldsV] at cT cC; simp only [o10', cond_false, za, cF, cA, Option.bind_some, u_asC, u_asI, u_asN, u_asA, u_asL, Int.natCast_nonneg, decide_true, nthE, Int.toNat_natCast, List.getElem?_map, e2, q2, Option.map_some, cT, cond_true, u_asB, z9]
  have eo : onS s x = if (typesS f x).2 then (if (newS g.fields x (typesS f x).1).isEmpty then (sch0, 7) else outS s ⟨x.form, newS g.fields x (typesS f x).1⟩) else (sch0, 17) := by
    simp only [onS, if_neg g0, ne_eq, h4, not_true_eq_false, if_false, h9, o1, o10, e4, q1, Int.toNat_natCast, q2]
  rw [eo]
  rcases bor' ((typesS f x).2) with t | t
  · simp [t, sch0]
  simp only [t, Bool.not_true, cond_false, za, cC, Option.bind_some, u_asC, u_asL, u_asN, z9, cond_true, if_true]; have fin : ∀ (n : Nat), n ≤ (cutS g.fields k).length → newS g.fields x (typesS f x).1 = putS (cutS g.fields k) n (typesS f x).1 →
      ltbl E0 12 0 17 [iV n, .lst .ro 5 ((typesS f x).1.map fldV), iV 0] [[iV s.ver, .lst .ro 2 (s.forms.map frmV)], [iV 0, .lst .ro 2 []], [iV x.form, .lst .ro 5 ((cutS g.fields k).map fldV)]] =
        some (2, [], [[iV s.ver, .lst .ro 2 (s.forms.map frmV)], [iV 0, .lst .ro 2 []], [iV x.form, .lst .ro 5 ((newS g.fields x (typesS f x).1).map fldV)]]) := by
    intro n hn e
    have h := zz5 s (cutS g.fields k) (n : Int) x.form n rfl (typesS f x).1 hn (by omega) (by omega) (typesS f x).1 0 rfl
    have z : putS (cutS g.fields k) n ((typesS f x).1.take 0) = cutS g.fields k := by simp [putS]
    rw [z] at h; rw [e]
    simpa only [Int.natCast_zero, fldsV, frmsV, List.map_nil] using h
  have fm := M ⟨x.form, newS g.fields x (typesS f x).1⟩ (by
    unfold newS; rw [z67, q1, Int.toNat_natCast]
    omega)
  have tail : ∀ (j0 : Nat) (a : List AV) (b : List (List AV)), (j0, a, b) = (2, [], [[iV s.ver, AV.lst .ro 2 (s.forms.map frmV)], [iV 0, AV.lst .ro 2 []], [iV x.form, AV.lst .ro 5 ((newS g.fields x (typesS f x).1).map fldV)]]) →
      z8s (OA (tbl E0) (ltbl E0 12 0)) s x (fun r o => some (r, o)) j0 a b = some ([schV (if (newS g.fields x (typesS f x).1).isEmpty then (sch0, 7) else outS s ⟨x.form, newS g.fields x (typesS f x).1⟩).1, iV (if (newS g.fields x (typesS f x).1).isEmpty then (sch0, 7) else outS s ⟨x.form, newS g.fields x (typesS f x).1⟩).2], []) := by
    intro j0 a b e; injection e with a1 e; injection e with a2 a3; subst a1 a2 a3; simp only [z8s, nbeq, decide_true, cond_true, u_asN, u_asC, u_asI, u_asL, zo, List.length_map]
    cases hN : newS g.fields x (typesS f x).1 with
    | nil => simp [sch0]
    | cons y l =>
      have z : (((y :: l).length : Int) == 0) = false := by simp; omega
      rw [hN] at fm; simp only [z, cond_false, ze, fm, Option.bind_some, z3l, nbeq, decide_true, cond_true, u_asN, u_asC, u_asI, u_asL, z9]; simp [schV, frmsV]
  by_cases o7 : x.op = 7
  · have p := zn2 h2 o7
    have p2 := e7 o7
    obtain ⟨n, hn⟩ : ∃ n : Nat, x.place = (n : Int) := ⟨x.place.toNat, by omega⟩
    have h := fin n (by omega) (by simp only [newS, o7, if_true, hn, Int.toNat_natCast, q1])
    simp only [o7, beq_self_eq_true, cond_true, ze, hn, h, Option.bind_some]; exact tail _ _ _ rfl
  · have o7' : (x.op == 7) = false := by simpa using o7
    have h := fin k (by omega) (by simp only [newS, o7, if_false, Int.toNat_natCast, q1])
    simp only [o7', cond_false, ze, h, Option.bind_some]; exact tail _ _ _ rfl)
theorem zb1 {s : Sch} {f : Frm} (h : (outS s f).2 = 0) : schS (outS s f).1 = true ∧ (outS s f).1 = ⟨s.ver, formsS f f.fields.isEmpty s.forms⟩ := by
  unfold outS at h ⊢
  split at h
  · rename_i c; rw [if_pos c]; exact ⟨c, rfl⟩
  · simp at h
theorem z2a {s : Sch} {x : Stp} (h : (onS s x).2 = 0) : ∃ f : Frm, f.id = x.form ∧ onS s x = outS s f ∧ (x.op ≠ 10 → f.fields.isEmpty = false) ∧ schS s = true ∧ namesS s x = 0 ∧ tRightS x = true ∧ x.op ≤ 10 := by
  by_cases g0 : (!(schS s) || (!(tRightS x) || decide (10 < x.op))) = true
  · unfold onS at h; rw [if_pos g0] at h; simp at h
  · have g1 : schS s = true ∧ tRightS x = true ∧ x.op ≤ 10 := by
      simp at g0
      exact ⟨g0.1, g0.2.1, by omega⟩
    by_cases h4 : namesS s x = 0
    · by_cases h9 : x.op = 9
      · have eo : onS s x = outS s ⟨x.form, x.fields⟩ := by unfold onS; rw [if_neg g0, if_neg (by simp [h4]), if_pos h9]
        refine ⟨_, rfl, eo, fun _ => ?_, g1.1, h4, g1.2.1, g1.2.2⟩; have f9 := zfw g1.2.1 h9; rw [z3k] at f9; have := f9.2.1.1
        cases hx : x.fields with
        | nil => simp [hx] at this
        | cons a l => rfl
      · by_cases o1 : x.op = 1
        · have eo : onS s x = outS s ⟨x.form, putS (oldS s x) x.place.toNat [x.f]⟩ := by unfold onS; rw [if_neg g0, if_neg (by simp [h4]), if_neg h9, if_pos o1]
          exact ⟨_, rfl, eo, fun _ => by simp [putS], g1.1, h4, g1.2.1, g1.2.2⟩
        · by_cases o10 : x.op = 10
          · have eo : onS s x = outS s ⟨x.form, []⟩ := by unfold onS; rw [if_neg g0, if_neg (by simp [h4]), if_neg h9, if_neg o1, if_pos o10]
            exact ⟨_, rfl, eo, fun h => absurd o10 h, g1.1, h4, g1.2.1, g1.2.2⟩
          · unfold onS at h ⊢
            rw [if_neg g0, if_neg (by simp [h4]), if_neg h9, if_neg o1, if_neg o10] at h ⊢
            split at h
            · simp at h
            · rename_i g hg
              split at h
              · rename_i t
                rw [if_pos t]
                split at h
                · simp at h
                · rename_i e
                  rw [if_neg e]
                  exact ⟨_, rfl, rfl, fun _ => by simpa using e, g1.1, h4, g1.2.1, g1.2.2⟩
              · simp at h
    · unfold onS at h
      rw [if_neg g0, if_pos h4] at h; exact absurd h h4
theorem z8w {s : Sch} {x : Stp} (h : (onS s x).2 = 0) : schS (onS s x).1 = true := by
  obtain ⟨f, _, e, _⟩ := z2a h; rw [e] at h ⊢; exact (zb1 h).1
theorem zrg {s : Sch} (h : schS s = true) : Few s := by
  have := z5a h
  exact ⟨by omega, fun f hf => by have := (this.2 f hf).1; omega⟩
end V
end Go.Proofs.YtgkiakemfcbgiaaGreat
