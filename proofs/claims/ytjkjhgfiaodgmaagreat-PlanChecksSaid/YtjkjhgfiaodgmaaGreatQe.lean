/- Part 5 of the proof that: The steps from any schema to any other one, by any links, or why there are none, are as the document says. -/
import Derived.Test.YtjkjhgfiaodgmaaGreatQd
set_option linter.unusedVariables false
set_option linter.unusedSimpArgs false
namespace Go.Proofs.YtjkjhgfiaodgmaaGreat.V
open Go
open AV (int lst agg str bool ref clo)
open List (map)
def z64 {α : Type} (A : Alg α) (b : List AV) (x : Fld) (e : Int) (kc : List AV → List (Nat × List AV) → α) : α :=
  A.call 59 [ref 0 0, iV x.id] [(0, [lst (.own (.E 0 0)) 1 b, iV e])] fun l0 l1 => asC A l1 fun x2 l3 => bif (x2.1.beq 0) then (asC A x2.2 fun v4 l5 => asOwn A 1 v4 fun x6 l7 => aI A l5 fun n10 l9 => asN A l9 (asN A l0 (asN A l3 (A.call 59 [ref 0 0, iV x.kind] [(0, [lst (.own (.E 0 0)) 1 l7, iV n10])] fun l11 l12 => asC A l12 fun x13 l14 => bif (x13.1.beq 0) then (asC A x13.2 fun v15 l16 => asOwn A 1 v15 fun x17 l18 => aI A l16 fun n21 l20 => asN A l20 (asN A l11 (asN A l14 (bif (x.kind == (1 : Int)) then (A.call 107 [ref 0 0, iV x.lo] [(0, [lst (.own (.E 0 0)) 1 l18, iV n21])] fun l22 l23 => asC A l23 fun x24 l25 => bif (x24.1.beq 0) then (asC A x24.2 fun v26 l27 => asOwn A 1 v26 fun x28 l29 => aI A l27 fun n32 l31 => asN A l31 (asN A l22 (asN A l25 (A.call 107 [ref 0 0, iV x.hi] [(0, [lst (.own (.E 0 0)) 1 l29, iV n32])] fun l33 l34 => asC A l34 fun x35 l36 => bif (x35.1.beq 0) then (asC A x35.2 fun v37 l38 => asOwn A 1 v37 fun x39 l40 => aI A l38 fun n43 l42 => asN A l42 (asN A l33 (asN A l36 (kc [] [(0, [lst (.own (.E 0 0)) 1 l40, iV n43])])))) else A.fail)))) else A.fail) else (bif (x.kind == (3 : Int)) then (A.call 59 [ref 0 0, iV x.most] [(0, [lst (.own (.E 0 0)) 1 l18, iV n21])] fun l44 l45 => asC A l45 fun x46 l47 => bif (x46.1.beq 0) then (asC A x46.2 fun v48 l49 => asOwn A 1 v48 fun x50 l51 => aI A l49 fun n54 l53 => asN A l53 (asN A l44 (asN A l47 (kc [] [(0, [lst (.own (.E 0 0)) 1 l51, iV n54])])))) else A.fail) else (bif (x.kind == (4 : Int)) then (A.call 59 [ref 0 0, iV x.most] [(0, [lst (.own (.E 0 0)) 1 l18, iV n21])] fun l55 l56 => asC A l56 fun x57 l58 => bif (x57.1.beq 0) then (asC A x57.2 fun v59 l60 => asOwn A 1 v59 fun x61 l62 => aI A l60 fun n65 l64 => asN A l64 (asN A l55 (asN A l58 (kc [] [(0, [lst (.own (.E 0 0)) 1 l62, iV n65])])))) else A.fail) else (kc [] [(0, [lst (.own (.E 0 0)) 1 l18, iV n21])]))))))) else A.fail)))) else A.fail
def zda {α : Type} (A : Alg α) (s : Sch) (kc : List AV → List (Nat × List AV) → α) : α :=
  A.callx 11 [agg [iV s.ver, lst .ro 2 (map frmV s.forms)]] fun l0 => aB A l0 fun b3 l2 => asN A l2 (bif (!b3) then (kc [lst .ro 1 [], iV 2] []) else (A.call 58 [] [] fun l4 l5 => asC A l4 fun v6 l7 => asRef0 A v6 fun o8 => bif (o8.beq 64) then (asC A l5 fun x9 l10 => bif (x9.1.beq 64) then (asC A x9.2 fun v11 l12 => asOwn A 1 v11 fun x13 l14 => aI A l12 fun n17 l16 => asN A l16 (asN A l7 (asN A l10 (A.call 59 [ref 0 0, iV s.ver] [(0, [lst (.own (.E 0 0)) 1 l14, iV n17])] fun l18 l19 => asC A l19 fun x20 l21 => bif (x20.1.beq 0) then (asC A x20.2 fun v22 l23 => asOwn A 1 v22 fun x24 l25 => aI A l23 fun n28 l27 => asN A l27 (asN A l18 (asN A l21 (A.call 59 [ref 0 0, iV (↑(map frmV s.forms).length : Int)] [(0, [lst (.own (.E 0 0)) 1 l25, iV n28])] fun l29 l30 => asC A l30 fun x31 l32 => bif (x31.1.beq 0) then (asC A x31.2 fun v33 l34 => asOwn A 1 v33 fun x35 l36 => aI A l34 fun n39 l38 => asN A l38 (asN A l29 (asN A l32 (A.loop 7 [lst .ro 2 (map frmV s.forms), iV (↑(map frmV s.forms).length : Int), iV 0] [[lst (.own (.O 1012 0)) 1 l36, iV n39]] fun j40 l41 l42 => bif (j40.beq 1) then (asN A l41 (asC A l42 fun l43 l44 => asC A l43 fun v45 l46 => asOwn A 1 v45 fun x47 l48 => bif (x47.beq (.O (1012 : Nat) (0 : Nat))) then (aI A l46 fun n51 l50 => asN A l50 (asN A l44 (A.call 61 [ref 0 0] [(0, [lst (.own (.E 0 0)) 1 l48, iV n51])] fun l52 l53 => asC A l53 fun x54 l55 => bif (x54.1.beq 0) then (asC A x54.2 fun v56 l57 => asOwn A 1 v56 fun x58 l59 => aI A l57 fun n62 l61 => asN A l61 (aL A 1 l52 fun l65 l64 => aI A l64 fun n68 l67 => asN A l67 (asN A l55 (kc [lst .ro 1 l65, iV n68] [])))) else A.fail))) else A.fail)) else A.fail)))) else A.fail)))) else A.fail)))) else A.fail) else A.fail))
def zaw {α : Type} (A : Alg α) (l : List Frm) (b : List AV) (m : Int) (i : Int) (e : Int) (next : List AV → List (List AV) → α) (kc : Nat → List AV → List (List AV) → α) : α :=
  bif (decide (i < m)) then (A.chk (decide ((0 : Int) ≤ i)) (nthE A (map frmV l) i.toNat fun v0 => asA A v0 fun l1 => aI A l1 fun n4 l3 => aL A 5 l3 fun l7 l6 => asN A l6 (A.call 59 [ref 0 0, iV n4] [(0, [lst (.own (.E 0 0)) 1 b, iV e])] fun l8 l9 => asC A l9 fun x10 l11 => bif (x10.1.beq 0) then (asC A x10.2 fun v12 l13 => asOwn A 1 v12 fun x14 l15 => aI A l13 fun n18 l17 => asN A l17 (asN A l8 (asN A l11 (A.call 59 [ref 0 0, iV (↑l7.length : Int)] [(0, [lst (.own (.E 0 0)) 1 l15, iV n18])] fun l19 l20 => asC A l20 fun x21 l22 => bif (x21.1.beq 0) then (asC A x21.2 fun v23 l24 => asOwn A 1 v23 fun x25 l26 => aI A l24 fun n29 l28 => asN A l28 (asN A l19 (asN A l22 (A.loop 12 [lst .ro 2 (map frmV l), iV m, iV i, lst .ro 5 l7, iV (↑l7.length : Int), iV 0] [[lst (.own (.O 1012 0)) 1 l26, iV n29]] fun j30 l31 l32 => bif (j30.beq 3) then (aL A 2 l31 fun l35 l34 => aI A l34 fun n38 l37 => aI A l37 fun n41 l40 => asN A l40 (asC A l32 fun l42 l43 => asC A l42 fun v44 l45 => asOwn A 1 v44 fun x46 l47 => bif (x46.beq (.O (1012 : Nat) (0 : Nat))) then (aI A l45 fun n50 l49 => asN A l49 (asN A l43 (next [lst .ro 2 l35, iV n38, iV (IntKind.i64.wrap (n41 + (1 : Int)))] [[lst (.own (.O 1012 0)) 1 l47, iV n50]]))) else A.fail)) else A.fail)))) else A.fail)))) else A.fail))) else (kc 1 [] [[lst (.own (.O 1012 0)) 1 b, iV e]])
def zax {α : Type} (A : Alg α) (l : List Frm) (fs : List Fld) (b : List AV) (m : Int) (i : Int) (n : Int) (k : Int) (e : Int) (next : List AV → List (List AV) → α) (kc : Nat → List AV → List (List AV) → α) : α :=
  bif (decide (k < n)) then (A.chk (decide ((0 : Int) ≤ k)) (nthE A (map fldV fs) k.toNat fun v0 => asA A v0 fun l1 => aI A l1 fun n4 l3 => aI A l3 fun n7 l6 => aI A l6 fun n10 l9 => aI A l9 fun n13 l12 => aI A l12 fun n16 l15 => asN A l15 (A.call 82 [ref 0 0, agg [iV n4, iV n7, iV n10, iV n13, iV n16]] [(0, [lst (.own (.E 0 0)) 1 b, iV e])] fun l17 l18 => asC A l18 fun x19 l20 => bif (x19.1.beq 0) then (asC A x19.2 fun v21 l22 => asOwn A 1 v21 fun x23 l24 => aI A l22 fun n27 l26 => asN A l26 (asN A l17 (asN A l20 (next [lst .ro 2 (map frmV l), iV m, iV i, lst .ro 5 (map fldV fs), iV n, iV (IntKind.i64.wrap (k + (1 : Int)))] [[lst (.own (.O 1012 0)) 1 l24, iV n27]])))) else A.fail))) else (kc 3 [lst .ro 2 (map frmV l), iV m, iV i] [[lst (.own (.O 1012 0)) 1 b, iV e]])
theorem zwa (b : List AV) (x : Fld) (e : Int) {r : CR} (h : z64 (OA (tbl E0) (ltbl E0 82 0)) b x e (fun r o => some (r, o)) = some r) : tbl E0 82 [.ref 0 0, fldV x] (penA b e) = some r :=
  tblF Tryz.func82 h
theorem zwb (s : Sch) {r : CR} (h : zda (OA (tbl E0) (ltbl E0 56 0)) s (fun r o => some (r, o)) = some r) : tbl E0 56 [schV s] [] = some r :=
  tblF Tryz.func56 h
theorem zhi (l : List Frm) (b : List AV) (m i e : Int) {r : LR} (h : zaw (OA (tbl E0) (ltbl E0 56 0)) l b m i e (fun vs os => ltbl E0 56 0 7 vs os) (fun j vs os => some (j, vs, os)) = some r) : ltbl E0 56 0 7 [frmsV l, iV m, iV i] [[.lst (.own (.O 1012 0)) 1 b, iV e]] = some r :=
  ltblF Tryz.func56 h
theorem zhj (l : List Frm) (fs : List Fld) (b : List AV) (m i n k e : Int) {r : LR} (h : zax (OA (tbl E0) (ltbl E0 56 0)) l fs b m i n k e (fun vs os => ltbl E0 56 0 12 vs os) (fun j vs os => some (j, vs, os)) = some r) : ltbl E0 56 0 12 [frmsV l, iV m, iV i, fldsV fs, iV n, iV k] [[.lst (.own (.O 1012 0)) 1 b, iV e]] = some r :=
  ltblF Tryz.func56 h
end Go.Proofs.YtjkjhgfiaodgmaaGreat.V
namespace Go.Proofs.YtjkjhgfiaodgmaaGreat.V
open Go
structure Lnk where
  fr : Int
  to : Sch
  on : List Stp
  back : List Stp
  deriving DecidableEq
abbrev lnkC (x : Lnk) : List AV := [.int .i64 x.fr, .int .i64 x.to.ver, frmsV x.to.forms, stpsV x.on, stpsV x.back]
abbrev lnkV (x : Lnk) : AV := AV.agg (lnkC x)
abbrev lnksV (l : List Lnk) : AV := AV.lst .ro 5 (l.map lnkV)
abbrev bytesV (b : List UInt8) : AV := AV.lst .ro 1 (encB b)
def rightsS (l : List Stp) : Bool := decide (l.length ≤ 40) && l.all tRightS
def lnkS (x : Lnk) : Bool := decide (1 ≤ x.fr) && (decide (x.fr ≤ 65535) && (schS x.to && (x.to.ver != x.fr && (rightsS x.on && rightsS x.back))))
def Lnk.ok (x : Lnk) : Prop := i64 x.fr ∧ x.to.ok ∧ (∀ s ∈ x.on, s.ok) ∧ ∀ s ∈ x.back, s.ok
def txtB (s : List UInt8) : List UInt8 := cnt s.length ++ s
def lnkB (x : Lnk) : List UInt8 := cnt x.fr.toNat ++ (txtB (schB x.to) ++ (txtB (lstB x.on) ++ txtB (lstB x.back)))
end Go.Proofs.YtjkjhgfiaodgmaaGreat.V
namespace Go.Proofs.YtjkjhgfiaodgmaaGreat.V
open Go
structure Man where
  ver : Int
  sch : Sch
  links : List Lnk
  img : Int
  deriving DecidableEq
def Man.ok (x : Man) : Prop := i64 x.ver ∧ x.sch.ok ∧ (∀ l ∈ x.links, l.ok) ∧ i64 x.img
end Go.Proofs.YtjkjhgfiaodgmaaGreat.V
namespace Go.Proofs.YtjkjhgfiaodgmaaGreat.V
open Go
open AV (int lst agg str bool ref clo)
open List (map)
def zl7 {α : Type} (A : Alg α) (x : Lnk) (kc : List AV → List (Nat × List AV) → α) : α :=
  A.loop 2 [iV 0] [[iV x.fr, iV x.to.ver, lst .ro 2 (map frmV x.to.forms), lst .ro 16 (map stpV x.on), lst .ro 16 (map stpV x.back)]] fun j0 l1 l2 => bif (j0.beq 0) then (aB A l1 fun b5 l4 => asN A l4 (asN A l2 (kc [bool b5] []))) else (bif (j0.beq 1) then (asN A l1 (asC A l2 fun l6 l7 => aI A l6 fun n10 l9 => aI A l9 fun n13 l12 => aL A 2 l12 fun l16 l15 => aL A 16 l15 fun l19 l18 => aL A 16 l18 fun l22 l21 => asN A l21 (asN A l7 (A.join (fun x23 => bif (decide ((↑l16.length : Int) > (40 : Int))) then (x23 true) else (A.callx 21 [lst .ro 16 l19] fun l24 => aB A l24 fun b27 l26 => asN A l26 (bif b27 then (x23 true) else (A.callx 21 [lst .ro 16 l22] fun l28 => aB A l28 fun b31 l30 => asN A l30 (x23 b31))))) fun b32 => kc [bool b32] [])))) else A.fail)
def z6t {α : Type} (A : Alg α) (x : Lnk) (i : Int) (next : List AV → List (List AV) → α) (kc : Nat → List AV → List (List AV) → α) : α :=
  A.join (fun x0 => bif (decide (i < (↑(map frmV x.to.forms).length : Int))) then (x0 (decide (i < (41 : Int)))) else (x0 false)) fun b1 => bif b1 then (A.chk (decide ((0 : Int) ≤ i)) (nthE A (map frmV x.to.forms) i.toNat fun v2 => asA A v2 fun l3 => aI A l3 fun n6 l5 => aL A 5 l5 fun l9 l8 => asN A l8 (bif (decide ((↑l9.length : Int) > (40 : Int))) then (kc 0 [bool true] []) else (next [iV (IntKind.i64.wrap (i + (1 : Int)))] [[iV x.fr, iV x.to.ver, lst .ro 2 (map frmV x.to.forms), lst .ro 16 (map stpV x.on), lst .ro 16 (map stpV x.back)]])))) else (kc 1 [] [[iV x.fr, iV x.to.ver, lst .ro 2 (map frmV x.to.forms), lst .ro 16 (map stpV x.on), lst .ro 16 (map stpV x.back)]])
def zl8 {α : Type} (A : Alg α) (x : Lnk) (kc : List AV → List (Nat × List AV) → α) : α :=
  A.join (fun x0 => bif (decide (x.fr < (1 : Int))) then (x0 true) else (bif (decide (x.fr > (65535 : Int))) then (x0 true) else (x0 (x.fr == x.to.ver)))) fun b1 => bif b1 then (kc [bool false] []) else (A.callx 38 [agg [iV x.fr, iV x.to.ver, lst .ro 2 (map frmV x.to.forms), lst .ro 16 (map stpV x.on), lst .ro 16 (map stpV x.back)]] fun l2 => aL A 1 l2 fun l5 l4 => aI A l4 fun n8 l7 => asN A l7 (kc [bool (n8 == (0 : Int))] []))
def zhk {α : Type} (A : Alg α) (x : Lnk) (kc : List AV → List (Nat × List AV) → α) : α :=
  A.join (fun x0 => bif (decide (x.fr ≥ (1 : Int))) then (bif (decide (x.fr ≤ (65535 : Int))) then (A.callx 14 [agg [iV x.to.ver, lst .ro 2 (map frmV x.to.forms)]] fun l1 => aB A l1 fun b4 l3 => asN A l3 (bif b4 then (bif (x.to.ver != x.fr) then (A.callx 32 [lst .ro 16 (map stpV x.on)] fun l5 => aI A l5 fun n8 l7 => asN A l7 (bif (n8 == (0 : Int)) then (A.callx 32 [lst .ro 16 (map stpV x.back)] fun l9 => aI A l9 fun n12 l11 => asN A l11 (x0 (n12 == (0 : Int)))) else (x0 false))) else (x0 false)) else (x0 false))) else (x0 false)) else (x0 false)) fun b13 => kc [bool b13] []
def zl9 {α : Type} (A : Alg α) (x : Lnk) (kc : List AV → List (Nat × List AV) → α) : α :=
  A.callx 56 [agg [iV x.to.ver, lst .ro 2 (map frmV x.to.forms)]] fun l0 => aL A 1 l0 fun l3 l2 => aI A l2 fun n6 l5 => asN A l5 (A.callx 57 [lst .ro 16 (map stpV x.on)] fun l7 => aL A 1 l7 fun l10 l9 => aI A l9 fun n13 l12 => asN A l12 (A.callx 57 [lst .ro 16 (map stpV x.back)] fun l14 => aL A 1 l14 fun l17 l16 => aI A l16 fun n20 l19 => asN A l19 (A.join (fun x21 => bif (n6 != (0 : Int)) then (x21 true) else (bif (n13 != (0 : Int)) then (x21 true) else (bif (n20 != (0 : Int)) then (x21 true) else (bif (decide (x.fr < (1 : Int))) then (x21 true) else (bif (decide (x.fr > (65535 : Int))) then (x21 true) else (x21 (x.fr == x.to.ver))))))) fun b22 => bif b22 then (kc [lst .ro 1 [], iV 2] []) else (A.call 58 [] [] fun l23 l24 => asC A l23 fun v25 l26 => asRef0 A v25 fun o27 => bif (o27.beq 64) then (asC A l24 fun x28 l29 => bif (x28.1.beq 64) then (asC A x28.2 fun v30 l31 => asOwn A 1 v30 fun x32 l33 => aI A l31 fun n36 l35 => asN A l35 (asN A l26 (asN A l29 (A.call 59 [ref 0 0, iV x.fr] [(0, [lst (.own (.E 0 0)) 1 l33, iV n36])] fun l37 l38 => asC A l38 fun x39 l40 => bif (x39.1.beq 0) then (asC A x39.2 fun v41 l42 => asOwn A 1 v41 fun x43 l44 => aI A l42 fun n47 l46 => asN A l46 (asN A l37 (asN A l40 (A.loop 10 [lst .ro 1 [lst .ro 1 l3, lst .ro 1 l10, lst .ro 1 l17], iV (↑[lst .ro (nat_lit 1) l3, lst .ro (nat_lit 1) l10, lst .ro (nat_lit 1) l17].length : Int), iV 0] [[lst (.own (.O 1061 0)) 1 l44, iV n47]] fun j48 l49 l50 => bif (j48.beq 1) then (asN A l49 (asC A l50 fun l51 l52 => asC A l51 fun v53 l54 => asOwn A 1 v53 fun x55 l56 => bif (x55.beq (.O (1061 : Nat) (0 : Nat))) then (aI A l54 fun n59 l58 => asN A l58 (asN A l52 (A.call 61 [ref 0 0] [(0, [lst (.own (.E 0 0)) 1 l56, iV n59])] fun l60 l61 => asC A l61 fun x62 l63 => bif (x62.1.beq 0) then (asC A x62.2 fun v64 l65 => asOwn A 1 v64 fun x66 l67 => aI A l65 fun n70 l69 => asN A l69 (aL A 1 l60 fun l73 l72 => aI A l72 fun n76 l75 => asN A l75 (asN A l63 (kc [lst .ro 1 l73, iV n76] [])))) else A.fail))) else A.fail)) else A.fail)))) else A.fail)))) else A.fail) else A.fail))))
def zay {α : Type} (A : Alg α) (l : List (List UInt8)) (b : List AV) (m : Int) (i : Int) (e : Int) (next : List AV → List (List AV) → α) (kc : Nat → List AV → List (List AV) → α) : α :=
  bif (decide (i < m)) then (A.chk (decide ((0 : Int) ≤ i)) (nthE A (map bytesV l) i.toNat fun v0 => asL A 1 v0 fun l1 => orFail A (bytesOf l1) fun l2 => A.call 60 [ref 0 0, str l2] [(0, [lst (.own (.E 0 0)) 1 b, iV e])] fun l3 l4 => asC A l4 fun x5 l6 => bif (x5.1.beq 0) then (asC A x5.2 fun v7 l8 => asOwn A 1 v7 fun x9 l10 => aI A l8 fun n13 l12 => asN A l12 (asN A l3 (asN A l6 (next [lst .ro 1 (map bytesV l), iV m, iV (IntKind.i64.wrap (i + (1 : Int)))] [[lst (.own (.O 1061 0)) 1 l10, iV n13]])))) else A.fail)) else (kc 1 [] [[lst (.own (.O 1061 0)) 1 b, iV e]])
theorem zwc (x : Lnk) {r : CR} (h : zl7 (OA (tbl E0) (ltbl E0 9 0)) x (fun r o => some (r, o)) = some r) : tbl E0 9 [lnkV x] [] = some r :=
  tblF Tryz.func9 h
theorem zhl (x : Lnk) (i : Int) {r : LR} (h : z6t (OA (tbl E0) (ltbl E0 9 0)) x i (fun vs os => ltbl E0 9 0 2 vs os) (fun j vs os => some (j, vs, os)) = some r) : ltbl E0 9 0 2 [iV i] [lnkC x] = some r :=
  ltblF Tryz.func9 h
theorem zwd (x : Lnk) {r : CR} (h : zl8 (OA (tbl E0) (ltbl E0 24 0)) x (fun r o => some (r, o)) = some r) : tbl E0 24 [lnkV x] [] = some r :=
  tblF Tryz.func24 h
theorem zse (x : Lnk) {r : CR} (h : zhk (OA (tbl E0) (ltbl E0 16 0)) x (fun r o => some (r, o)) = some r) : tbl E0 16 [lnkV x] [] = some r :=
  tblF Tryz.func16 h
theorem zwe (x : Lnk) {r : CR} (h : zl9 (OA (tbl E0) (ltbl E0 38 0)) x (fun r o => some (r, o)) = some r) : tbl E0 38 [lnkV x] [] = some r :=
  tblF Tryz.func38 h
theorem zhm (l : List (List UInt8)) (b : List AV) (m i e : Int) {r : LR} (h : zay (OA (tbl E0) (ltbl E0 38 0)) l b m i e (fun vs os => ltbl E0 38 0 10 vs os) (fun j vs os => some (j, vs, os)) = some r) : ltbl E0 38 0 10 [.lst .ro 1 (l.map bytesV), iV m, iV i] [[.lst (.own (.O 1061 0)) 1 b, iV e]] = some r :=
  ltblF Tryz.func38 h
end Go.Proofs.YtjkjhgfiaodgmaaGreat.V
namespace Go.Proofs.YtjkjhgfiaodgmaaGreat.V
open Go
def outW (i : Nat) (v : Int) : List (Int × Int) → List (Nat × Int)
  | [] => []
  | (a, b) :: r => if a = v then (i, b) :: outW (i + 1) v r else outW (i + 1) v r
abbrev Wy := List Nat × Int
def pW (l : List (Int × Int)) : Nat → Int → List Wy
  | 0, v => [([], v)]
  | n + 1, v => (outW 0 v l).flatMap fun p => (pW l n p.2).map fun q => (p.1 :: q.1, q.2)
def extW (l : List (Int × Int)) (q : Wy) : List Wy := (outW 0 q.2 l).map fun p => (q.1 ++ [p.1], p.2)
theorem zok (l : List (Int × Int)) : ∀ (n : Nat) (v : Int), pW l (n + 1) v = (pW l n v).flatMap (extW l)
  | 0, v => by
    have : ∀ p : Nat × Int, (pW l 0 p.2).map (fun q => (p.1 :: q.1, q.2)) = [([p.1], p.2)] := fun p => rfl; simp only [pW, extW, List.flatMap_cons, List.flatMap_nil, List.append_nil, List.map_cons, List.map_nil, List.nil_append]; rw [← List.map_eq_flatMap]
  | n + 1, v => by
    rw [pW]; have ih := fun u => zok l n u
    have e : (fun p : Nat × Int => (pW l (n + 1) p.2).map fun q => (p.1 :: q.1, q.2)) = fun p => ((pW l n p.2).map fun q => (p.1 :: q.1, q.2)).flatMap (extW l) := by
      funext p; rw [ih p.2, List.map_flatMap, List.flatMap_map]
      congr 1
      funext q; simp [extW]
    rw [e, pW, List.flatMap_assoc]
def dfsW (l : List (Int × Int)) (goal : Int) : Nat → Int → Option (List Nat)
  | 0, v => if v = goal then some [] else none
  | n + 1, v => (outW 0 v l).findSome? fun p => (dfsW l goal n p.2).map (p.1 :: ·)
def fndW (g : Int) (I : List Wy) : Option Wy := I.find? fun q => decide (q.2 = g)
theorem zol (l : List (Int × Int)) (g : Int) : ∀ (n : Nat) (v : Int), dfsW l g n v = (fndW g (pW l n v)).map (·.1)
  | 0, v => by
    unfold dfsW pW fndW
    by_cases h : v = g <;> simp [h]
  | n + 1, v => by
    unfold dfsW pW fndW; rw [List.find?_flatMap]
    have e : ∀ L : List (Nat × Int), (L.findSome? fun p => (dfsW l g n p.2).map (p.1 :: ·)) = (L.findSome? fun p => ((pW l n p.2).map fun q => (p.1 :: q.1, q.2)).find? fun q => decide (q.2 = g)).map (·.1) := by
      intro L
      induction L with
      | nil => rfl
      | cons p L ih =>
        rw [List.findSome?_cons, List.findSome?_cons, zol l g n p.2, List.find?_map]; unfold fndW; have e2 : ((fun q : Wy => decide (q.2 = g)) ∘ fun q : Wy => (p.1 :: q.1, q.2)) = fun q => decide (q.2 = g) := rfl; rw [e2]
        cases List.find? (fun q : Wy => decide (q.2 = g)) (pW l n p.2) with
        | none => exact ih
        | some q => rfl
    exact e _
def endsW (D : List Wy) : List Int := D.map (·.2)
def addW (D : List Wy) : List Wy → List Wy
  | [] => D
  | q :: r => addW (if (endsW D).contains q.2 then D else D ++ [q]) r
theorem z51 : ∀ (I J : List Wy) (D : List Wy), addW D (I ++ J) = addW (addW D I) J
  | [], J, D => rfl
  | q :: r, J, D => z51 r J _
theorem zom : ∀ (I D : List Wy), (∀ q ∈ I, q.2 ∈ endsW D) → addW D I = D
  | [], D, h => rfl
  | q :: r, D, h => by
    have h1 := h q (by simp)
    rw [addW, if_pos (by simpa using h1)]
    exact zom r D fun q hq => h q (by simp [hq])
theorem zez : ∀ (I D : List Wy) (e : Int), e ∈ endsW D ∨ (∃ q ∈ I, q.2 = e) → e ∈ endsW (addW D I)
  | [], D, e, h => by
    rcases h with h | ⟨q, hq, _⟩
    · exact h
    · simp at hq
  | q :: r, D, e, h => by
    rw [addW]; apply zez r
    rcases h with h | ⟨p, hp, he⟩
    · left
      split
      · exact h
      · simp [endsW] at h ⊢; exact .inl h
    · rcases List.mem_cons.1 hp with rfl | hp
      · left
        split
        · rename_i c; rw [← he]; simpa using c
        · simp [endsW, he]
      · exact .inr ⟨p, hp, he⟩
theorem zhn (g : Int) : ∀ (I D : List Wy), fndW g (addW D I) = (fndW g D).or (fndW g I)
  | [], D => by simp [addW, fndW]
  | q :: r, D => by
    rw [addW, zhn g r]
    by_cases hg : q.2 = g
    · have e1 : fndW g (q :: r) = some q := by simp [fndW, hg]
      rw [e1]
      split
      · rename_i c
        have : ∃ p, fndW g D = some p := by
          have c' : q.2 ∈ endsW D := by simpa using c
          obtain ⟨p, hp, he⟩ := List.mem_map.1 c'
          cases hf : fndW g D with
          | some p => exact ⟨p, rfl⟩
          | none =>
            exfalso; have := List.find?_eq_none.1 hf p hp; simp at this; exact this (he.trans hg)
        obtain ⟨p, hp⟩ := this
        rw [hp]; rfl
      · have e2 : fndW g (D ++ [q]) = (fndW g D).or (some q) := by simp [fndW, List.find?_append, hg]
        rw [e2]
        cases fndW g D <;> rfl
    · have e1 : fndW g (q :: r) = fndW g r := by simp [fndW, hg]
      rw [e1]
      split
      · rfl
      · have e2 : fndW g (D ++ [q]) = fndW g D := by simp [fndW, List.find?_append, hg]
        rw [e2]
def ddW (C : List Int) : List Wy → List Wy
  | [] => []
  | q :: r => if C.contains q.2 then ddW C r else q :: ddW (C ++ [q.2]) r
theorem zdb : ∀ (I D : List Wy), addW D I = D ++ ddW (endsW D) I
  | [], D => by simp [addW, ddW]
  | q :: r, D => by
    rw [addW, ddW]
    split
    · exact zdb r D
    · rw [zdb r]
      simp [endsW]
theorem zsf {l : List (Int × Int)} {q q' : Wy} (h : q.2 = q'.2) {p : Wy} (hp : p ∈ extW l q) : ∃ p' ∈ extW l q', p'.2 = p.2 := by
  simp only [extW, List.mem_map] at hp ⊢; obtain ⟨x, hx, rfl⟩ := hp
  exact ⟨_, ⟨x, by rw [← h]; exact hx, rfl⟩, rfl⟩
theorem zaz (l : List (Int × Int)) : ∀ (I : List Wy) (C : List Int) (D : List Wy), (∀ q : Wy, q.2 ∈ C → ∀ p ∈ extW l q, p.2 ∈ endsW D) → addW D ((ddW C I).flatMap (extW l)) = addW D (I.flatMap (extW l))
  | [], C, D, h => rfl
  | q :: r, C, D, h => by
    rw [ddW, List.flatMap_cons, z51]
    split
    · rename_i c
      rw [zom (extW l q) D (h q (by simpa using c))]
      exact zaz l r C D h
    · rw [List.flatMap_cons, z51]
      refine zaz l r _ _ ?_; intro q' hq' p hp; apply zez
      rcases List.mem_append.1 hq' with hq' | hq'
      · exact .inl (h q' hq' p hp)
      · have e : q'.2 = q.2 := by simpa using hq'
        obtain ⟨p', h1, h2⟩ := zsf e hp; exact .inr ⟨p', h1, h2⟩
def layW (l : List (Int × Int)) (v : Int) : Nat → List Wy
  | 0 => [([], v)]
  | n + 1 => addW [] ((layW l v n).flatMap (extW l))
theorem zon (l : List (Int × Int)) (v : Int) : ∀ n : Nat, layW l v n = addW [] (pW l n v)
  | 0 => rfl
  | n + 1 => by
    rw [layW, zon l v n, zok, zdb (pW l n v) [], List.nil_append]
    exact zaz l _ _ _ (fun q hq => by simp [endsW] at hq)
theorem zwf (l : List (Int × Int)) (g v : Int) (n : Nat) : (fndW g (layW l v n)).map (·.1) = dfsW l g n v := by
  rw [zon, zhn, zol]; simp [fndW]
def intN (k : Nat) : AV := .int .i64 (k : Int)
abbrev natsV (w : List Nat) : AV := .lst .ro 1 (w.map intN)
abbrev wysL (d : List Wy) : List AV := d.map fun q => natsV q.1
abbrev endL (d : List Wy) : List AV := d.map fun q => AV.int .i64 q.2
end Go.Proofs.YtjkjhgfiaodgmaaGreat.V
namespace Go.Proofs.YtjkjhgfiaodgmaaGreat.V
open Go
open AV (int lst agg str bool ref clo)
open List (map)
-- folds: dbl
-- folds: cse
noncomputable def zg2 {α : Type} (A : Alg α) (l : List Lnk) (g : Int) (v : Int) (n : Int) (kc : List AV → List (Nat × List AV) → α) : α :=
  bif (n == (0 : Int)) then (kc [lst .ro 1 [], bool (v == g)] []) else (A.loop 4 [iV v, iV n, lst .ro 5 (map lnkV l), iV (↑(map lnkV l).length : Int), iV 0] [[lst .ro 5 (map lnkV l), iV g]] fun j0 l1 l2 => bif (j0.beq 0) then (aL A 1 l1 fun l5 l4 => aB A l4 fun b8 l7 => asN A l7 (asN A l2 (kc [lst .ro 1 l5, bool b8] []))) else (bif (j0.beq 1) then (asN A l1 (asN A l2 (kc [lst .ro 1 [], bool false] []))) else A.fail))
noncomputable def z65 {α : Type} (A : Alg α) (l : List Lnk) (g : Int) (v : Int) (n : Int) (m : Int) (i : Int) (next : List AV → List (List AV) → α) (kc : Nat → List AV → List (List AV) → α) : α :=
  bif (decide (i < m)) then (A.chk (decide ((0 : Int) ≤ i)) (nthE A (map lnkV l) i.toNat fun v0 => asA A v0 fun l1 => aI A l1 fun n4 l3 => aI A l3 fun n7 l6 => aL A 2 l6 fun l10 l9 => aL A 16 l9 fun l13 l12 => aL A 16 l12 fun l16 l15 => asN A l15 (bif (n4 != v) then (next [iV v, iV n, lst .ro 5 (map lnkV l), iV m, iV (IntKind.i64.wrap (i + (1 : Int)))] [[lst .ro 5 (map lnkV l), iV g]]) else (A.callx 22 [agg [lst .ro 5 (map lnkV l), iV g], iV n7, iV (IntKind.i64.wrap (n - (1 : Int)))] fun l17 => aL A 1 l17 fun l20 l19 => aB A l19 fun b23 l22 => asN A l22 (bif b23 then (A.chk (decide (([iV i].length + l20.length) * 8 ≤ 211106232532992)) (kc 0 [lst .ro 1 ((iV i) :: l20), bool true] [])) else (next [iV v, iV n, lst .ro 5 (map lnkV l), iV m, iV (IntKind.i64.wrap (i + (1 : Int)))] [[lst .ro 5 (map lnkV l), iV g]])))))) else (kc 1 [] [])
noncomputable def zla {α : Type} (A : Alg α) (l : List Lnk) (a : Int) (b : Int) (kc : List AV → List (Nat × List AV) → α) : α :=
  bif (decide ((↑(map lnkV l).length : Int) > (8 : Int))) then (kc [lst .ro 1 [], iV 7] []) else (A.loop 4 [lst .ro 5 (map lnkV l), iV a, iV b, iV (IntKind.i64.wrap ((↑(map lnkV l).length : Int) + (1 : Int))), iV 0] [] fun j0 l1 l2 => bif (j0.beq 0) then (aL A 1 l1 fun l5 l4 => aI A l4 fun n8 l7 => asN A l7 (asN A l2 (kc [lst .ro 1 l5, iV n8] []))) else (bif (j0.beq 1) then (asN A l1 (asN A l2 (kc [lst .ro 1 [], iV 19] []))) else A.fail))
noncomputable def zbj {α : Type} (A : Alg α) (l : List Lnk) (a : Int) (b : Int) (m : Int) (i : Int) (next : List AV → List (List AV) → α) (kc : Nat → List AV → List (List AV) → α) : α :=
  bif (decide (i < m)) then (A.callx 22 [agg [lst .ro 5 (map lnkV l), iV b], iV a, iV i] fun l0 => aL A 1 l0 fun l3 l2 => aB A l2 fun b6 l5 => asN A l5 (bif b6 then (kc 0 [lst .ro 1 l3, iV 0] []) else (next [lst .ro 5 (map lnkV l), iV a, iV b, iV m, iV (IntKind.i64.wrap (i + (1 : Int)))] []))) else (kc 1 [] [])
noncomputable def zsg {α : Type} (A : Alg α) (l : List Wy) (n : Int) (kc : List AV → List (Nat × List AV) → α) : α :=
  A.loop 2 [lst .ro 1 (endL l), iV n, iV 0] [] fun j0 l1 l2 => bif (j0.beq 0) then (aB A l1 fun b5 l4 => asN A l4 (asN A l2 (kc [bool b5] []))) else (bif (j0.beq 1) then (asN A l1 (asN A l2 (kc [bool false] []))) else A.fail)
noncomputable def zbk {α : Type} (A : Alg α) (l : List Wy) (n : Int) (i : Int) (next : List AV → List (List AV) → α) (kc : Nat → List AV → List (List AV) → α) : α :=
  bif (decide (i < (↑(endL l).length : Int))) then (A.chk (decide ((0 : Int) ≤ i)) (nthE A (endL l) i.toNat fun v0 => asI A .i64 v0 fun n1 => bif (n1 == n) then (kc 0 [bool true] []) else (next [lst .ro 1 (endL l), iV n, iV (IntKind.i64.wrap (i + (1 : Int)))] []))) else (kc 1 [] [])
noncomputable def zlb {α : Type} (A : Alg α) (l : List Lnk) (a : Int) (b : Int) (kc : List AV → List (Nat × List AV) → α) : α :=
  bif (decide ((↑(map lnkV l).length : Int) > (8 : Int))) then (kc [lst .ro 1 [], iV 7] []) else (A.loop 6 [lst .ro 5 (map lnkV l), iV b, lst .ro 1 [lst .ro 1 []], lst .ro 1 [iV a], iV 0] [] fun j0 l1 l2 => bif (j0.beq 0) then (aL A 1 l1 fun l5 l4 => aI A l4 fun n8 l7 => asN A l7 (asN A l2 (kc [lst .ro 1 l5, iV n8] []))) else (bif (j0.beq 1) then (asN A l1 (asN A l2 (kc [lst .ro 1 [], iV 19] []))) else A.fail))
noncomputable def zbl {α : Type} (A : Alg α) (l : List Lnk) (b : Int) (w : List Wy) (k : Int) (next : List AV → List (List AV) → α) (kc : Nat → List AV → List (List AV) → α) : α :=
  bif (decide (k ≤ (↑(map lnkV l).length : Int))) then (A.loop 11 [lst .ro 5 (map lnkV l), iV b, lst .ro 1 (wysL w), lst .ro 1 (endL w), iV k, lst (.own (.L 11)) 1 [], lst (.own (.L 12)) 1 [], iV 0] [] fun j0 l1 l2 => bif (j0.beq 0) then (aL A 1 l1 fun l5 l4 => aI A l4 fun n8 l7 => asN A l7 (asN A l2 (kc 0 [lst .ro 1 l5, iV n8] []))) else (bif (j0.beq 3) then (aL A 5 l1 fun l11 l10 => aI A l10 fun n14 l13 => aI A l13 fun n17 l16 => asC A l16 fun v18 l19 => asOwn A 1 v18 fun x20 l21 => bif (x20.beq (.L (11 : Nat))) then (asC A l19 fun v22 l23 => asOwn A 1 v22 fun x24 l25 => bif (x24.beq (.L (12 : Nat))) then (asN A l23 (asN A l2 (next [lst .ro 5 l11, iV n14, lst .ro 1 l21, lst .ro 1 l25, iV (IntKind.i64.wrap (n17 + (1 : Int)))] []))) else A.fail) else A.fail) else A.fail)) else (kc 1 [] [])
noncomputable def zbm {α : Type} (A : Alg α) (l : List Lnk) (b : Int) (w : List Wy) (d : List Wy) (k : Int) (i : Int) (next : List AV → List (List AV) → α) (kc : Nat → List AV → List (List AV) → α) : α :=
  bif (decide (i < (↑(wysL w).length : Int))) then (A.chk (decide ((0 : Int) ≤ i)) (nthE A (endL w) i.toNat fun v0 => asI A .i64 v0 fun n1 => bif (n1 == b) then (A.chk (decide ((0 : Int) ≤ i)) (nthE A (wysL w) i.toNat fun v2 => asL A 1 v2 fun l3 => kc 0 [lst .ro 1 l3, iV 0] [])) else (A.loop 16 [lst .ro 5 (map lnkV l), iV b, lst .ro 1 (wysL w), lst .ro 1 (endL w), iV k, lst (.own (.L 11)) 1 (wysL d), lst (.own (.L 12)) 1 (endL d), iV i, iV 0] [] fun j4 l5 l6 => bif (j4.beq 5) then (aL A 5 l5 fun l9 l8 => aI A l8 fun n12 l11 => aL A 1 l11 fun l15 l14 => aL A 1 l14 fun l18 l17 => aI A l17 fun n21 l20 => asC A l20 fun v22 l23 => asOwn A 1 v22 fun x24 l25 => bif (x24.beq (.L (11 : Nat))) then (asC A l23 fun v26 l27 => asOwn A 1 v26 fun x28 l29 => bif (x28.beq (.L (12 : Nat))) then (aI A l27 fun n32 l31 => asN A l31 (asN A l6 (next [lst .ro 5 l9, iV n12, lst .ro 1 l15, lst .ro 1 l18, iV n21, lst (.own (.L 11)) 1 l25, lst (.own (.L 12)) 1 l29, iV (IntKind.i64.wrap (n32 + (1 : Int)))] []))) else A.fail) else A.fail) else A.fail))) else (kc 3 [lst .ro 5 (map lnkV l), iV b, iV k, lst (.own (.L 11)) 1 (wysL d), lst (.own (.L 12)) 1 (endL d)] [])
noncomputable def z7m {α : Type} (A : Alg α) (l : List Lnk) (b : Int) (w : List Wy) (d : List Wy) (k : Int) (i : Int) (j : Int) (next : List AV → List (List AV) → α) (kc : Nat → List AV → List (List AV) → α) : α :=
  bif (decide (j < (↑(map lnkV l).length : Int))) then (A.chk (decide ((0 : Int) ≤ j)) (nthE A (map lnkV l) j.toNat fun v0 => asA A v0 fun l1 => aI A l1 fun n4 l3 => aI A l3 fun n7 l6 => aL A 2 l6 fun l10 l9 => aL A 16 l9 fun l13 l12 => aL A 16 l12 fun l16 l15 => asN A l15 (A.chk (decide ((0 : Int) ≤ i)) (nthE A (endL w) i.toNat fun v17 => asI A .i64 v17 fun n18 => bif (n4 == n18) then (A.chk (decide ((0 : Int) ≤ j)) (nthE A (map lnkV l) j.toNat fun v19 => asA A v19 fun l20 => aI A l20 fun n23 l22 => aI A l22 fun n26 l25 => aL A 2 l25 fun l29 l28 => aL A 16 l28 fun l32 l31 => aL A 16 l31 fun l35 l34 => asN A l34 (A.callx 31 [lst .ro 1 (endL d), iV n26] fun l36 => aB A l36 fun b39 l38 => asN A l38 (bif (!b39) then (A.chk (decide ((0 : Int) ≤ i)) (nthE A (wysL w) i.toNat fun v40 => asL A 1 v40 fun l41 => A.chk (decide (((0 : Nat) + l41.length) * 8 ≤ 211106232532992)) (A.chk (decide ((l41.length + [iV j].length) * 8 ≤ 211106232532992)) (A.chk (decide (((wysL d).length + [lst .ro (nat_lit 1) (l41 ++ [iV j])].length) * 24 ≤ 211106232532992)) (A.chk (decide ((0 : Int) ≤ j)) (nthE A (map lnkV l) j.toNat fun v42 => asA A v42 fun l43 => aI A l43 fun n46 l45 => aI A l45 fun n49 l48 => aL A 2 l48 fun l52 l51 => aL A 16 l51 fun l55 l54 => aL A 16 l54 fun l58 l57 => asN A l57 (A.chk (decide (((endL d).length + [iV n49].length) * 8 ≤ 211106232532992)) (next [lst .ro 5 (map lnkV l), iV b, lst .ro 1 (wysL w), lst .ro 1 (endL w), iV k, lst (.own (.L 11)) 1 (wysL d ++ [lst .ro (nat_lit 1) (l41 ++ [iV j])]), lst (.own (.L 12)) 1 (endL d ++ [iV n49]), iV i, iV (IntKind.i64.wrap (j + (1 : Int)))] [])))))))) else (next [lst .ro 5 (map lnkV l), iV b, lst .ro 1 (wysL w), lst .ro 1 (endL w), iV k, lst (.own (.L 11)) 1 (wysL d), lst (.own (.L 12)) 1 (endL d), iV i, iV (IntKind.i64.wrap (j + (1 : Int)))] []))))) else (next [lst .ro 5 (map lnkV l), iV b, lst .ro 1 (wysL w), lst .ro 1 (endL w), iV k, lst (.own (.L 11)) 1 (wysL d), lst (.own (.L 12)) 1 (endL d), iV i, iV (IntKind.i64.wrap (j + (1 : Int)))] []))))) else (kc 5 [lst .ro 5 (map lnkV l), iV b, lst .ro 1 (wysL w), lst .ro 1 (endL w), iV k, lst (.own (.L 11)) 1 (wysL d), lst (.own (.L 12)) 1 (endL d), iV i] [])
theorem zoo (l : List Lnk) (g v n : Int) {r : CR} (h : zg2 (OA (tbl E0) (ltbl E0 22 0)) l g v n (fun r o => some (r, o)) = some r) : tbl E0 22 [.agg [lnksV l, iV g], iV v, iV n] [] = some r :=
  tblF Tryz.func22 h
theorem zlc (l : List Lnk) (g v n m i : Int) {r : LR} (h : z65 (OA (tbl E0) (ltbl E0 22 0)) l g v n m i (fun vs os => ltbl E0 22 0 4 vs os) (fun j vs os => some (j, vs, os)) = some r) : ltbl E0 22 0 4 [iV v, iV n, lnksV l, iV m, iV i] [[lnksV l, iV g]] = some r :=
  ltblF Tryz.func22 h
theorem z117 (l : List Lnk) (a b : Int) {r : CR} (h : zla (OA (tbl E0) (ltbl E0 10 0)) l a b (fun r o => some (r, o)) = some r) : tbl E0 10 [lnksV l, iV a, iV b] [] = some r :=
  tblF Tryz.func10 h
theorem zop (l : List Lnk) (a b m i : Int) {r : LR} (h : zbj (OA (tbl E0) (ltbl E0 10 0)) l a b m i (fun vs os => ltbl E0 10 0 4 vs os) (fun j vs os => some (j, vs, os)) = some r) : ltbl E0 10 0 4 [lnksV l, iV a, iV b, iV m, iV i] [] = some r :=
  ltblF Tryz.func10 h
theorem z118 (l : List Wy) (n : Int) {r : CR} (h : zsg (OA (tbl E0) (ltbl E0 31 0)) l n (fun r o => some (r, o)) = some r) : tbl E0 31 [.lst .ro 1 (endL l), iV n] [] = some r :=
  tblF Tryz.func31 h
theorem zoq (l : List Wy) (n i : Int) {r : LR} (h : zbk (OA (tbl E0) (ltbl E0 31 0)) l n i (fun vs os => ltbl E0 31 0 2 vs os) (fun j vs os => some (j, vs, os)) = some r) : ltbl E0 31 0 2 [.lst .ro 1 (endL l), iV n, iV i] [] = some r :=
  ltblF Tryz.func31 h
theorem z119 (l : List Lnk) (a b : Int) {r : CR} (h : zlb (OA (tbl E0) (ltbl E0 15 0)) l a b (fun r o => some (r, o)) = some r) : tbl E0 15 [lnksV l, iV a, iV b] [] = some r :=
  tblF Tryz.func15 h
theorem zor (l : List Lnk) (b : Int) (w : List Wy) (k : Int) {r : LR} (h : zbl (OA (tbl E0) (ltbl E0 15 0)) l b w k (fun vs os => ltbl E0 15 0 6 vs os) (fun j vs os => some (j, vs, os)) = some r) : ltbl E0 15 0 6 [lnksV l, iV b, .lst .ro 1 (wysL w), .lst .ro 1 (endL w), iV k] [] = some r :=
  ltblF Tryz.func15 h
theorem zos (l : List Lnk) (b : Int) (w d : List Wy) (k i : Int) {r : LR} (h : zbm (OA (tbl E0) (ltbl E0 15 0)) l b w d k i (fun vs os => ltbl E0 15 0 11 vs os) (fun j vs os => some (j, vs, os)) = some r) : ltbl E0 15 0 11 [lnksV l, iV b, .lst .ro 1 (wysL w), .lst .ro 1 (endL w), iV k, .lst (.own (.L 11)) 1 (wysL d), .lst (.own (.L 12)) 1 (endL d), iV i] [] = some r :=
  ltblF Tryz.func15 h
theorem zot (l : List Lnk) (b : Int) (w d : List Wy) (k i j : Int) {r : LR} (h : z7m (OA (tbl E0) (ltbl E0 15 0)) l b w d k i j (fun vs os => ltbl E0 15 0 16 vs os) (fun j vs os => some (j, vs, os)) = some r) : ltbl E0 15 0 16 [lnksV l, iV b, .lst .ro 1 (wysL w), .lst .ro 1 (endL w), iV k, .lst (.own (.L 11)) 1 (wysL d), .lst (.own (.L 12)) 1 (endL d), iV i, iV j] [] = some r :=
  ltblF Tryz.func15 h
end Go.Proofs.YtjkjhgfiaodgmaaGreat.V
namespace Go.Proofs.YtjkjhgfiaodgmaaGreat.V
open Go
open AV (int lst agg str bool ref clo)
open List (map)
-- folds: dbl
-- folds: cse
noncomputable def zou {α : Type} (A : Alg α) (s : Sch) (x : Lnk) (kc : List AV → List (Nat × List AV) → α) : α :=
  A.callx 24 [agg [iV x.fr, iV x.to.ver, lst .ro 2 (map frmV x.to.forms), lst .ro 16 (map stpV x.on), lst .ro 16 (map stpV x.back)]] fun l0 => aB A l0 fun b3 l2 => asN A l2 (bif (!b3) then (kc [agg [iV s.ver, lst .ro 2 (map frmV s.forms)], iV 2] []) else (A.callx 25 [agg [iV s.ver, lst .ro 2 (map frmV s.forms)], lst .ro 16 (map stpV x.on), lst .ro 16 (map stpV x.back)] fun l4 => aI A l4 fun n7 l6 => aI A l6 fun n10 l9 => asN A l9 (bif (n10 != (0 : Int)) then (kc [agg [iV s.ver, lst .ro 2 (map frmV s.forms)], iV n10] []) else (A.callx 26 [agg [iV s.ver, lst .ro 2 (map frmV s.forms)], lst .ro 16 (map stpV x.on)] fun l11 => aA A l11 fun l14 l13 => aI A l14 fun n17 l16 => aL A 2 l16 fun l20 l19 => asN A l19 (aI A l13 fun n23 l22 => aI A l22 fun n26 l25 => asN A l25 (A.join (fun x27 => bif (n26 == (0 : Int)) then (A.callx 13 [agg [iV x.to.ver, lst .ro 2 l20], agg [iV x.to.ver, lst .ro 2 (map frmV x.to.forms)]] fun l28 => aB A l28 fun b31 l30 => asN A l30 (x27 (!b31))) else (x27 false)) fun b32 => bif b32 then (kc [agg [iV x.to.ver, lst .ro 2 l20], iV 17] []) else (kc [agg [iV x.to.ver, lst .ro 2 l20], iV n26] [])))))))
noncomputable def zho {α : Type} (A : Alg α) (s : Sch) (l : List Lnk) (t : Sch) (kc : List AV → List (Nat × List AV) → α) : α :=
  A.join (fun x0 => A.callx 11 [agg [iV s.ver, lst .ro 2 (map frmV s.forms)]] fun l1 => aB A l1 fun b4 l3 => asN A l3 (bif (!b4) then (x0 true) else (A.callx 11 [agg [iV t.ver, lst .ro 2 (map frmV t.forms)]] fun l5 => aB A l5 fun b8 l7 => asN A l7 (x0 (!b8))))) fun b9 => bif b9 then (kc [lst .ro 16 [], iV 2] []) else (A.callx 10 [lst .ro 5 (map lnkV l), iV s.ver, iV t.ver] fun l10 => aL A 1 l10 fun l13 l12 => aI A l12 fun n16 l15 => asN A l15 (bif (n16 != (0 : Int)) then (kc [lst .ro 16 [], iV n16] []) else (A.loop 8 [lst .ro 5 (map lnkV l), lst (.own (.L 10)) 16 [], lst .ro 1 l13, iV (↑l13.length : Int), iV 0] [[iV s.ver, lst .ro 2 (map frmV s.forms)], [iV t.ver, lst .ro 2 (map frmV t.forms)]] fun j17 l18 l19 => bif (j17.beq 0) then (aL A 16 l18 fun l22 l21 => aI A l21 fun n25 l24 => asN A l24 (asN A l19 (kc [lst .ro 16 l22, iV n25] []))) else (bif (j17.beq 1) then (asC A l18 fun v26 l27 => asOwn A 16 v26 fun x28 l29 => bif (x28.beq (.L (10 : Nat))) then (asN A l27 (asC A l19 fun l30 l31 => aI A l30 fun n34 l33 => aL A 2 l33 fun l37 l36 => asN A l36 (asC A l31 fun l38 l39 => aI A l38 fun n42 l41 => aL A 2 l41 fun l45 l44 => asN A l44 (asN A l39 (A.callx 13 [agg [iV n34, lst .ro 2 l37], agg [iV n42, lst .ro 2 l45]] fun l46 => aB A l46 fun b49 l48 => asN A l48 (bif (!b49) then (kc [lst .ro 16 [], iV 17] []) else (bif (decide ((↑l29.length : Int) > (200 : Int))) then (kc [lst .ro 16 [], iV 7] []) else (kc [lst .ro 16 l29, iV 0] [])))))))) else A.fail) else A.fail))))
noncomputable def z3t {α : Type} (A : Alg α) (l : List Lnk) (d : List Stp) (w : List Nat) (m : Int) (i : Int) (s : Sch) (t : Sch) (next : List AV → List (List AV) → α) (kc : Nat → List AV → List (List AV) → α) (n6 : Int) (n9 : Int) (l12 : List AV) (l15 : List AV) (l18 : List AV) (n1 : Int) : α :=
  A.callx 12 [agg [iV s.ver, lst .ro 2 (map frmV s.forms)], agg [iV n6, iV n9, lst .ro 2 l12, lst .ro 16 l15, lst .ro 16 l18]] fun l19 => aA A l19 fun l22 l21 => aI A l22 fun n25 l24 => aL A 2 l24 fun l28 l27 => asN A l27 (aI A l21 fun n31 l30 => asN A l30 (bif (n31 != (0 : Int)) then (kc 0 [lst .ro 16 [], iV n31] []) else (A.chk (decide ((0 : Int) ≤ n1)) (nthE A (map lnkV l) n1.toNat fun v32 => asA A v32 fun l33 => aI A l33 fun n36 l35 => aI A l35 fun n39 l38 => aL A 2 l38 fun l42 l41 => aL A 16 l41 fun l45 l44 => aL A 16 l44 fun l48 l47 => asN A l47 (A.chk (decide (((map stpV d).length + l45.length) * 168 ≤ 211106232532992)) (next [lst .ro 5 (map lnkV l), lst (.own (.L 10)) 16 (map stpV d ++ l45), lst .ro 1 (map intN w), iV m, iV (IntKind.i64.wrap (i + (1 : Int)))] [[iV n25, lst .ro 2 l28], [iV t.ver, lst .ro 2 (map frmV t.forms)]]))))))
noncomputable def z5k {α : Type} (A : Alg α) (l : List Lnk) (d : List Stp) (w : List Nat) (m : Int) (i : Int) (s : Sch) (t : Sch) (next : List AV → List (List AV) → α) (kc : Nat → List AV → List (List AV) → α) : α :=
  bif (decide (i < m)) then (A.chk (decide ((0 : Int) ≤ i)) (nthE A (map intN w) i.toNat fun v0 => asI A .i64 v0 fun n1 => A.chk (decide ((0 : Int) ≤ n1)) (nthE A (map lnkV l) n1.toNat fun v2 => asA A v2 fun l3 => aI A l3 fun n6 l5 => aI A l5 fun n9 l8 => aL A 2 l8 fun l12 l11 => aL A 16 l11 fun l15 l14 => aL A 16 l14 fun l18 l17 => asN A l17 (A.both (dbl A (z3t A l d w m i s t next kc n6 n9 l12 l15 l18 n1)) (z3t A l d w m i s t next kc n6 n9 l12 l15 l18 n1))))) else (kc 1 [lst (.own (.L 10)) 16 (map stpV d)] [[iV s.ver, lst .ro 2 (map frmV s.forms)], [iV t.ver, lst .ro 2 (map frmV t.forms)]])
noncomputable def zhp {α : Type} (A : Alg α) (s : Sch) (l : List Lnk) (t : Sch) (kc : List AV → List (Nat × List AV) → α) : α :=
  A.join (fun x0 => A.callx 14 [agg [iV s.ver, lst .ro 2 (map frmV s.forms)]] fun l1 => aB A l1 fun b4 l3 => asN A l3 (bif (!b4) then (x0 true) else (A.callx 14 [agg [iV t.ver, lst .ro 2 (map frmV t.forms)]] fun l5 => aB A l5 fun b8 l7 => asN A l7 (x0 (!b8))))) fun b9 => bif b9 then (kc [lst .ro 16 [], iV 2] []) else (A.callx 15 [lst .ro 5 (map lnkV l), iV s.ver, iV t.ver] fun l10 => aL A 1 l10 fun l13 l12 => aI A l12 fun n16 l15 => asN A l15 (bif (n16 != (0 : Int)) then (kc [lst .ro 16 [], iV n16] []) else (A.loop 8 [lst .ro 5 (map lnkV l), lst .ro 1 l13, lst (.own (.L 10)) 16 [], iV 0] [[iV s.ver, lst .ro 2 (map frmV s.forms)], [iV t.ver, lst .ro 2 (map frmV t.forms)]] fun j17 l18 l19 => bif (j17.beq 0) then (aL A 16 l18 fun l22 l21 => aI A l21 fun n25 l24 => asN A l24 (asN A l19 (kc [lst .ro 16 l22, iV n25] []))) else (bif (j17.beq 1) then (asC A l18 fun v26 l27 => asOwn A 16 v26 fun x28 l29 => bif (x28.beq (.L (10 : Nat))) then (asN A l27 (asC A l19 fun l30 l31 => aI A l30 fun n34 l33 => aL A 2 l33 fun l37 l36 => asN A l36 (asC A l31 fun l38 l39 => aI A l38 fun n42 l41 => aL A 2 l41 fun l45 l44 => asN A l44 (asN A l39 (A.callx 19 [agg [iV n34, lst .ro 2 l37], agg [iV n42, lst .ro 2 l45]] fun l46 => aB A l46 fun b49 l48 => asN A l48 (bif (!b49) then (kc [lst .ro 16 [], iV 17] []) else (bif (decide ((↑l29.length : Int) > (200 : Int))) then (kc [lst .ro 16 [], iV 7] []) else (kc [lst .ro 16 l29, iV 0] [])))))))) else A.fail) else A.fail))))
noncomputable def z8j {α : Type} (A : Alg α) (l : List Lnk) (w : List Nat) (d : List Stp) (i : Int) (s : Sch) (t : Sch) (next : List AV → List (List AV) → α) (kc : Nat → List AV → List (List AV) → α) : α :=
  bif (decide (i < (↑(map intN w).length : Int))) then (A.chk (decide ((0 : Int) ≤ i)) (nthE A (map intN w) i.toNat fun v0 => asI A .i64 v0 fun n1 => A.chk (decide ((0 : Int) ≤ n1)) (nthE A (map lnkV l) n1.toNat fun v2 => asA A v2 fun l3 => aI A l3 fun n6 l5 => aI A l5 fun n9 l8 => aL A 2 l8 fun l12 l11 => aL A 16 l11 fun l15 l14 => aL A 16 l14 fun l18 l17 => asN A l17 (A.callx 16 [agg [iV n6, iV n9, lst .ro 2 l12, lst .ro 16 l15, lst .ro 16 l18]] fun l19 => aB A l19 fun b22 l21 => asN A l21 (bif (!b22) then (kc 0 [lst .ro 16 [], iV 2] []) else (A.callx 17 [agg [iV s.ver, lst .ro 2 (map frmV s.forms)], lst .ro 16 l15, lst .ro 16 l18] fun l23 => aI A l23 fun n26 l25 => aI A l25 fun n29 l28 => asN A l28 (bif (n29 != (0 : Int)) then (kc 0 [lst .ro 16 [], iV n29] []) else (A.callx 18 [agg [iV s.ver, lst .ro 2 (map frmV s.forms)], lst .ro 16 l15] fun l30 => aA A l30 fun l33 l32 => aI A l33 fun n36 l35 => aL A 2 l35 fun l39 l38 => asN A l38 (aI A l32 fun n42 l41 => aI A l41 fun n45 l44 => asN A l44 (A.callx 19 [agg [iV n9, lst .ro 2 l39], agg [iV n9, lst .ro 2 l12]] fun l46 => aB A l46 fun b49 l48 => asN A l48 (bif (!b49) then (kc 0 [lst .ro 16 [], iV 17] []) else (A.chk (decide (((map stpV d).length + l15.length) * 168 ≤ 211106232532992)) (next [lst .ro 5 (map lnkV l), lst .ro 1 (map intN w), lst (.own (.L 10)) 16 (map stpV d ++ l15), iV (IntKind.i64.wrap (i + (1 : Int)))] [[iV n9, lst .ro 2 l39], [iV t.ver, lst .ro 2 (map frmV t.forms)]]))))))))))))) else (kc 1 [lst (.own (.L 10)) 16 (map stpV d)] [[iV s.ver, lst .ro 2 (map frmV s.forms)], [iV t.ver, lst .ro 2 (map frmV t.forms)]])
noncomputable def zsi {α : Type} (A : Alg α) (s : Sch) (t : Sch) (l : List Lnk) (kc : List AV → List (Nat × List AV) → α) : α :=
  A.loop 2 [lst .ro 5 (map lnkV l), iV 0] [[iV s.ver, lst .ro 2 (map frmV s.forms)], [iV t.ver, lst .ro 2 (map frmV t.forms)]] fun j0 l1 l2 => bif (j0.beq 0) then (aB A l1 fun b5 l4 => asN A l4 (asN A l2 (kc [bool b5] []))) else (bif (j0.beq 1) then (aL A 5 l1 fun l8 l7 => asN A l7 (asC A l2 fun l9 l10 => aI A l9 fun n13 l12 => aL A 2 l12 fun l16 l15 => asN A l15 (asC A l10 fun l17 l18 => aI A l17 fun n21 l20 => aL A 2 l20 fun l24 l23 => asN A l23 (asN A l18 (A.join (fun x25 => bif (decide ((↑l8.length : Int) > (12 : Int))) then (x25 true) else (A.callx 9 [agg [iV 0, iV n13, lst .ro 2 l16, lst .ro 16 [], lst .ro 16 []]] fun l26 => aB A l26 fun b29 l28 => asN A l28 (bif b29 then (x25 true) else (A.callx 9 [agg [iV 0, iV n21, lst .ro 2 l24, lst .ro 16 [], lst .ro 16 []]] fun l30 => aB A l30 fun b33 l32 => asN A l32 (x25 b33))))) fun b34 => kc [bool b34] []))))) else A.fail)
noncomputable def zbn {α : Type} (A : Alg α) (s : Sch) (t : Sch) (l : List Lnk) (i : Int) (next : List AV → List (List AV) → α) (kc : Nat → List AV → List (List AV) → α) : α :=
  A.join (fun x0 => bif (decide (i < (↑(map lnkV l).length : Int))) then (x0 (decide (i < (13 : Int)))) else (x0 false)) fun b1 => bif b1 then (A.chk (decide ((0 : Int) ≤ i)) (nthE A (map lnkV l) i.toNat fun v2 => asA A v2 fun l3 => aI A l3 fun n6 l5 => aI A l5 fun n9 l8 => aL A 2 l8 fun l12 l11 => aL A 16 l11 fun l15 l14 => aL A 16 l14 fun l18 l17 => asN A l17 (A.callx 9 [agg [iV n6, iV n9, lst .ro 2 l12, lst .ro 16 l15, lst .ro 16 l18]] fun l19 => aB A l19 fun b22 l21 => asN A l21 (bif b22 then (kc 0 [bool true] []) else (next [lst .ro 5 (map lnkV l), iV (IntKind.i64.wrap (i + (1 : Int)))] [[iV s.ver, lst .ro 2 (map frmV s.forms)], [iV t.ver, lst .ro 2 (map frmV t.forms)]]))))) else (kc 1 [lst .ro 5 (map lnkV l)] [[iV s.ver, lst .ro 2 (map frmV s.forms)], [iV t.ver, lst .ro 2 (map frmV t.forms)]])
noncomputable def z66 {α : Type} (A : Alg α) (s : Sch) (l : List Lnk) (t : Sch) (kc : List AV → List (Nat × List AV) → α) : α :=
  A.callx 4 [agg [iV s.ver, lst .ro 2 (map frmV s.forms)], agg [iV t.ver, lst .ro 2 (map frmV t.forms)], lst .ro 5 (map lnkV l)] fun l0 => aB A l0 fun b3 l2 => asN A l2 (bif b3 then (A.callx 5 [] fun l4 => aB A l4 fun b7 l6 => asN A l6 (kc [bool b7] [])) else (A.callx 6 [agg [iV s.ver, lst .ro 2 (map frmV s.forms)], lst .ro 5 (map lnkV l), agg [iV t.ver, lst .ro 2 (map frmV t.forms)]] fun l8 => aL A 16 l8 fun l11 l10 => aI A l10 fun n14 l13 => asN A l13 (A.callx 7 [agg [iV s.ver, lst .ro 2 (map frmV s.forms)], lst .ro 5 (map lnkV l), agg [iV t.ver, lst .ro 2 (map frmV t.forms)]] fun l15 => aL A 16 l15 fun l18 l17 => aI A l17 fun n21 l20 => asN A l20 (A.join (fun x22 => A.callx 8 [lst .ro 16 l11, lst .ro 16 l18] fun l23 => aB A l23 fun b26 l25 => asN A l25 (bif b26 then (bif (n14 == n21) then (A.callx 5 [] fun l27 => aB A l27 fun b30 l29 => asN A l29 (x22 b30)) else (x22 false)) else (x22 false))) fun b31 => kc [bool b31] []))))
theorem zz5 (s : Sch) (x : Lnk) {r : CR} (h : zou (OA (tbl E0) (ltbl E0 12 0)) s x (fun r o => some (r, o)) = some r) : tbl E0 12 [schV s, lnkV x] [] = some r :=
  tblF Tryz.func12 h
theorem zsj (s : Sch) (l : List Lnk) (t : Sch) {r : CR} (h : zho (OA (tbl E0) (ltbl E0 6 0)) s l t (fun r o => some (r, o)) = some r) : tbl E0 6 [schV s, lnksV l, schV t] [] = some r :=
  tblF Tryz.func6 h
theorem zf1 (l : List Lnk) (d : List Stp) (w : List Nat) (m i : Int) (s t : Sch) {r : LR} (h : z5k (OA (tbl E0) (ltbl E0 6 0)) l d w m i s t (fun vs os => ltbl E0 6 0 8 vs os) (fun j vs os => some (j, vs, os)) = some r) : ltbl E0 6 0 8 [lnksV l, .lst (.own (.L 10)) 16 (d.map stpV), natsV w, iV m, iV i] [[iV s.ver, frmsV s.forms], [iV t.ver, frmsV t.forms]] = some r :=
  ltblF Tryz.func6 h
theorem zsk (s : Sch) (l : List Lnk) (t : Sch) {r : CR} (h : zhp (OA (tbl E0) (ltbl E0 7 0)) s l t (fun r o => some (r, o)) = some r) : tbl E0 7 [schV s, lnksV l, schV t] [] = some r :=
  tblF Tryz.func7 h
theorem zf2 (l : List Lnk) (w : List Nat) (d : List Stp) (i : Int) (s t : Sch) {r : LR} (h : z8j (OA (tbl E0) (ltbl E0 7 0)) l w d i s t (fun vs os => ltbl E0 7 0 8 vs os) (fun j vs os => some (j, vs, os)) = some r) : ltbl E0 7 0 8 [lnksV l, natsV w, .lst (.own (.L 10)) 16 (d.map stpV), iV i] [[iV s.ver, frmsV s.forms], [iV t.ver, frmsV t.forms]] = some r :=
  ltblF Tryz.func7 h
theorem z11a (s t : Sch) (l : List Lnk) {r : CR} (h : zsi (OA (tbl E0) (ltbl E0 4 0)) s t l (fun r o => some (r, o)) = some r) : tbl E0 4 [schV s, schV t, lnksV l] [] = some r :=
  tblF Tryz.func4 h
theorem zov (s t : Sch) (l : List Lnk) (i : Int) {r : LR} (h : zbn (OA (tbl E0) (ltbl E0 4 0)) s t l i (fun vs os => ltbl E0 4 0 2 vs os) (fun j vs os => some (j, vs, os)) = some r) : ltbl E0 4 0 2 [lnksV l, iV i] [[iV s.ver, frmsV s.forms], [iV t.ver, frmsV t.forms]] = some r :=
  ltblF Tryz.func4 h
theorem zld (s : Sch) (l : List Lnk) (t : Sch) {r : CR} (h : z66 (OA (tbl E0) (ltbl E0 3 0)) s l t (fun r o => some (r, o)) = some r) : tbl E0 3 [schV s, lnksV l, schV t] [] = some r :=
  tblF Tryz.func3 h
end Go.Proofs.YtjkjhgfiaodgmaaGreat.V
namespace Go.Proofs.YtjkjhgfiaodgmaaGreat.V
open Go
open AV (int lst agg str bool ref clo)
open List (map)
-- folds: dbl
-- folds: cse
noncomputable def zle {α : Type} (A : Alg α) (f : Fld) (g : Fld) (kc : List AV → List (Nat × List AV) → α) : α :=
  A.callx 71 [agg [iV f.id, iV f.kind, iV f.lo, iV f.hi, iV f.most]] fun l0 => aI A l0 fun n3 l2 => aI A l2 fun n6 l5 => aI A l5 fun n9 l8 => aB A l8 fun b12 l11 => asN A l11 (A.callx 71 [agg [iV g.id, iV g.kind, iV g.lo, iV g.hi, iV g.most]] fun l13 => aI A l13 fun n16 l15 => aI A l15 fun n19 l18 => aI A l18 fun n22 l21 => aB A l21 fun b25 l24 => asN A l24 (A.join (fun x26 => bif b12 then (bif b25 then (bif (f.kind == g.kind) then (bif (decide (n16 ≤ n3)) then (bif (decide (n6 ≤ n19)) then (x26 (decide (n9 ≤ n22))) else (x26 false)) else (x26 false)) else (x26 false)) else (x26 false)) else (x26 false)) fun b27 => kc [bool b27] []))
noncomputable def zsl {α : Type} (A : Alg α) (l : List Fld) (n : Int) (f : Fld) (kc : List AV → List (Nat × List AV) → α) : α :=
  A.chk (decide ((0 : Int) ≤ (0 : Int)) && decide ((0 : Int) ≤ n) && decide (n ≤ (↑(map fldV l).length : Int)) && decide ((↑(map fldV l).length : Int) ≤ (↑(map fldV l).length : Int))) (A.chk (decide (((0 : Nat) + (List.drop (0 : Nat) (List.take n.toNat (map fldV l))).length) * 40 ≤ 211106232532992)) (A.chk (decide ((0 : Int) ≤ n) && decide (n ≤ (↑(map fldV l).length : Int)) && decide ((↑(map fldV l).length : Int) ≤ (↑(map fldV l).length : Int)) && decide ((↑(map fldV l).length : Int) ≤ (↑(map fldV l).length : Int))) (A.chk (decide (((List.drop (0 : Nat) (List.take n.toNat (map fldV l))).length + [agg [iV f.id, iV f.kind, iV f.lo, iV f.hi, iV f.most]].length) * 40 ≤ 211106232532992)) (A.chk (decide (((List.drop (0 : Nat) (List.take n.toNat (map fldV l)) ++ [agg [iV f.id, iV f.kind, iV f.lo, iV f.hi, iV f.most]]).length + (List.drop n.toNat (List.take (↑(map fldV l).length : Int).toNat (map fldV l))).length) * 40 ≤ 211106232532992)) (kc [lst .ro 5 (List.drop (0 : Nat) (List.take n.toNat (map fldV l)) ++ [agg [iV f.id, iV f.kind, iV f.lo, iV f.hi, iV f.most]] ++ List.drop n.toNat (List.take (↑(map fldV l).length : Int).toNat (map fldV l)))] [])))))
noncomputable def zsm {α : Type} (A : Alg α) (l : List Fld) (n : Int) (kc : List AV → List (Nat × List AV) → α) : α :=
  A.chk (decide ((0 : Int) ≤ (0 : Int)) && decide ((0 : Int) ≤ n) && decide (n ≤ (↑(map fldV l).length : Int)) && decide ((↑(map fldV l).length : Int) ≤ (↑(map fldV l).length : Int))) (A.chk (decide ((0 : Int) ≤ IntKind.i64.wrap (n + (1 : Int))) && decide (IntKind.i64.wrap (n + (1 : Int)) ≤ (↑(map fldV l).length : Int)) && decide ((↑(map fldV l).length : Int) ≤ (↑(map fldV l).length : Int)) && decide ((↑(map fldV l).length : Int) ≤ (↑(map fldV l).length : Int))) (A.chk (decide (((0 : Nat) + (List.drop (0 : Nat) (List.take n.toNat (map fldV l))).length) * 40 ≤ 211106232532992)) (A.chk (decide (((List.drop (0 : Nat) (List.take n.toNat (map fldV l))).length + (List.drop (IntKind.i64.wrap (n + (1 : Int))).toNat (List.take (↑(map fldV l).length : Int).toNat (map fldV l))).length) * 40 ≤ 211106232532992)) (kc [lst .ro 5 (List.drop (0 : Nat) (List.take n.toNat (map fldV l)) ++ List.drop (IntKind.i64.wrap (n + (1 : Int))).toNat (List.take (↑(map fldV l).length : Int).toNat (map fldV l)))] []))))
noncomputable def zlf {α : Type} (A : Alg α) (op : Int) (kc : List AV → List (Nat × List AV) → α) : α :=
  A.join (fun x0 => bif (op != (1 : Int)) then (bif (op != (9 : Int)) then (x0 (op != (10 : Int))) else (x0 false)) else (x0 false)) fun b1 => kc [bool b1] []
noncomputable def z78 {α : Type} (A : Alg α) (s : Sch) (x : Stp) (kc : List AV → List (Nat × List AV) → α) (n8 : Int) (l11 : List AV) (x22 : Bool → α) : α :=
  bif (x.op == (6 : Int)) then (A.callx 45 [agg [iV n8, lst .ro 5 l11], iV x.to] fun l27 => aI A l27 fun n30 l29 => asN A l29 (x22 (decide (n30 ≥ (0 : Int))))) else (bif (x.op == (8 : Int)) then (A.callx 45 [agg [iV n8, lst .ro 5 l11], iV x.to] fun l31 => aI A l31 fun n34 l33 => asN A l33 (x22 (decide (n34 ≥ (0 : Int))))) else (x22 false))
noncomputable def zlg {α : Type} (A : Alg α) (s : Sch) (x : Stp) (kc : List AV → List (Nat × List AV) → α) : α :=
  A.callx 51 [agg [iV s.ver, lst .ro 2 (map frmV s.forms)], iV x.form] fun l0 => aI A l0 fun n3 l2 => asN A l2 (bif (x.op == (9 : Int)) then (bif (decide (n3 ≥ (0 : Int))) then (kc [iV 9] []) else (kc [iV 0] [])) else (bif (decide (n3 < (0 : Int))) then (kc [iV 8] []) else (A.chk (decide ((0 : Int) ≤ n3)) (nthE A (map frmV s.forms) n3.toNat fun v4 => asA A v4 fun l5 => aI A l5 fun n8 l7 => aL A 5 l7 fun l11 l10 => asN A l10 (A.join (fun x12 => A.callx 79 [iV x.op] fun l13 => aB A l13 fun b16 l15 => asN A l15 (bif b16 then (A.callx 45 [agg [iV n8, lst .ro 5 l11], iV x.field] fun l17 => aI A l17 fun n20 l19 => asN A l19 (x12 (decide (n20 < (0 : Int))))) else (x12 false))) fun b21 => bif b21 then (kc [iV 8] []) else (A.join (fun x22 => bif (x.op == (1 : Int)) then (A.callx 45 [agg [iV n8, lst .ro 5 l11], iV x.f.id] fun l23 => aI A l23 fun n26 l25 => asN A l25 (bif (decide (n26 ≥ (0 : Int))) then (x22 true) else (z78 A s x kc n8 l11 x22))) else (z78 A s x kc n8 l11 x22)) fun b43 => bif b43 then (kc [iV 9] []) else (A.join (fun x44 => bif (x.op == (1 : Int)) then (bif (decide (x.place > (↑l11.length : Int))) then (x44 true) else (bif (x.op == (7 : Int)) then (x44 (decide (x.place ≥ (↑l11.length : Int)))) else (x44 false))) else (bif (x.op == (7 : Int)) then (x44 (decide (x.place ≥ (↑l11.length : Int)))) else (x44 false))) fun b45 => bif b45 then (kc [iV 3] []) else (kc [iV 0] []))))))))
noncomputable def z3p {α : Type} (A : Alg α) (f : Fld) (x : Stp) (kc : List AV → List (Nat × List AV) → α)  : α :=
  A.both (bif (f.kind == (1 : Int)) then (kc [lst .ro 5 [agg [iV f.id, iV 1, iV 0, iV (IntKind.i64.wrap (f.hi.tdiv x.a)), iV 0], agg [iV x.to, iV 1, iV 0, iV (if IntKind.i64.wrap (x.a - (1 : Int)) < f.hi then IntKind.i64.wrap (x.a - (1 : Int)) else f.hi), iV 0]], bool (f.lo == (0 : Int))] []) else (kc [lst .ro 5 [agg [iV f.id, iV 1, iV 0, iV (IntKind.i64.wrap (f.hi.tdiv x.a)), iV 0], agg [iV x.to, iV 1, iV 0, iV (if IntKind.i64.wrap (x.a - (1 : Int)) < f.hi then IntKind.i64.wrap (x.a - (1 : Int)) else f.hi), iV 0]], bool false] [])) (bif (f.kind == (1 : Int)) then (dbl A (kc [lst .ro 5 [agg [iV f.id, iV 1, iV 0, iV (IntKind.i64.wrap (f.hi.tdiv x.a)), iV 0], agg [iV x.to, iV 1, iV 0, iV (if IntKind.i64.wrap (x.a - (1 : Int)) < f.hi then IntKind.i64.wrap (x.a - (1 : Int)) else f.hi), iV 0]], bool (f.lo == (0 : Int))] [])) else (kc [lst .ro 5 [agg [iV f.id, iV 1, iV 0, iV (IntKind.i64.wrap (f.hi.tdiv x.a)), iV 0], agg [iV x.to, iV 1, iV 0, iV (if IntKind.i64.wrap (x.a - (1 : Int)) < f.hi then IntKind.i64.wrap (x.a - (1 : Int)) else f.hi), iV 0]], bool false] []))
noncomputable def z52 {α : Type} (A : Alg α) (f : Fld) (x : Stp) (kc : List AV → List (Nat × List AV) → α)  : α :=
  kc [lst .ro 5 [agg [iV f.id, iV 1, iV (if IntKind.i64.wrap (IntKind.i64.wrap (x.a * f.hi) + x.b) < IntKind.i64.wrap (IntKind.i64.wrap (x.a * f.lo) + x.b) then IntKind.i64.wrap (IntKind.i64.wrap (x.a * f.hi) + x.b) else IntKind.i64.wrap (IntKind.i64.wrap (x.a * f.lo) + x.b)), iV (if IntKind.i64.wrap (IntKind.i64.wrap (x.a * f.lo) + x.b) < IntKind.i64.wrap (IntKind.i64.wrap (x.a * f.hi) + x.b) then IntKind.i64.wrap (IntKind.i64.wrap (x.a * f.hi) + x.b) else IntKind.i64.wrap (IntKind.i64.wrap (x.a * f.lo) + x.b)), iV 0]], bool false] []
noncomputable def z53 {α : Type} (A : Alg α) (f : Fld) (x : Stp) (kc : List AV → List (Nat × List AV) → α) (b27 : Bool) : α :=
  kc [lst .ro 5 [agg [iV f.id, iV 1, iV (if IntKind.i64.wrap (IntKind.i64.wrap (x.a * f.hi) + x.b) < IntKind.i64.wrap (IntKind.i64.wrap (x.a * f.lo) + x.b) then IntKind.i64.wrap (IntKind.i64.wrap (x.a * f.hi) + x.b) else IntKind.i64.wrap (IntKind.i64.wrap (x.a * f.lo) + x.b)), iV (if IntKind.i64.wrap (IntKind.i64.wrap (x.a * f.lo) + x.b) < IntKind.i64.wrap (IntKind.i64.wrap (x.a * f.hi) + x.b) then IntKind.i64.wrap (IntKind.i64.wrap (x.a * f.hi) + x.b) else IntKind.i64.wrap (IntKind.i64.wrap (x.a * f.lo) + x.b)), iV 0]], bool b27] []
noncomputable def z54 {α : Type} (A : Alg α) (f : Fld) (x : Stp) (kc : List AV → List (Nat × List AV) → α)  : α :=
  A.callx 44 [agg [iV f.id, iV 1, iV (if IntKind.i64.wrap (IntKind.i64.wrap (x.a * f.hi) + x.b) < IntKind.i64.wrap (IntKind.i64.wrap (x.a * f.lo) + x.b) then IntKind.i64.wrap (IntKind.i64.wrap (x.a * f.hi) + x.b) else IntKind.i64.wrap (IntKind.i64.wrap (x.a * f.lo) + x.b)), iV (if IntKind.i64.wrap (IntKind.i64.wrap (x.a * f.lo) + x.b) < IntKind.i64.wrap (IntKind.i64.wrap (x.a * f.hi) + x.b) then IntKind.i64.wrap (IntKind.i64.wrap (x.a * f.hi) + x.b) else IntKind.i64.wrap (IntKind.i64.wrap (x.a * f.lo) + x.b)), iV 0]] fun l16 => aB A l16 fun b19 l18 => asN A l18 (z53 A f x kc b19)
noncomputable def z79 {α : Type} (A : Alg α) (f : Fld) (x : Stp) (kc : List AV → List (Nat × List AV) → α)  : α :=
  A.callx 80 [agg [iV f.id, iV f.kind, iV f.lo, iV f.hi, iV f.most], agg [iV x.f.id, iV x.f.kind, iV x.f.lo, iV x.f.hi, iV x.f.most]] fun l4 => aB A l4 fun b7 l6 => asN A l6 (kc [lst .ro 5 [agg [iV x.f.id, iV x.f.kind, iV x.f.lo, iV x.f.hi, iV x.f.most]], bool b7] [])
noncomputable def z24 {α : Type} (A : Alg α) (f : Fld) (x : Stp) (kc : List AV → List (Nat × List AV) → α) : α :=
  bif (x.op == (2 : Int)) then (A.callx 78 [agg [iV f.id, iV f.kind, iV f.lo, iV f.hi, iV f.most], agg [iV x.n, str x.s]] fun l0 => aB A l0 fun b3 l2 => asN A l2 (kc [lst .ro 5 [], bool b3] [])) else (bif (x.op == (3 : Int)) then (A.both (z79 A f x kc) (A.both (z79 A f x kc) (A.callx 80 [agg [iV f.id, iV f.kind, iV f.lo, iV f.hi, iV f.most], agg [iV x.f.id, iV x.f.kind, iV x.f.lo, iV x.f.hi, iV x.f.most]] fun l12 => aB A l12 fun b15 l14 => asN A l14 (kc [lst .ro 5 [agg [iV x.f.id, iV x.f.kind, iV x.f.lo, iV x.f.hi, iV x.f.most]], bool b15] [])))) else (bif (x.op == (4 : Int)) then (A.both (bif (f.kind == (1 : Int)) then (z54 A f x kc) else (z52 A f x kc)) (bif (f.kind == (1 : Int)) then (A.both (z54 A f x kc) (A.callx 44 [agg [iV f.id, iV 1, iV (if IntKind.i64.wrap (IntKind.i64.wrap (x.a * f.hi) + x.b) < IntKind.i64.wrap (IntKind.i64.wrap (x.a * f.lo) + x.b) then IntKind.i64.wrap (IntKind.i64.wrap (x.a * f.hi) + x.b) else IntKind.i64.wrap (IntKind.i64.wrap (x.a * f.lo) + x.b)), iV (if IntKind.i64.wrap (IntKind.i64.wrap (x.a * f.lo) + x.b) < IntKind.i64.wrap (IntKind.i64.wrap (x.a * f.hi) + x.b) then IntKind.i64.wrap (IntKind.i64.wrap (x.a * f.hi) + x.b) else IntKind.i64.wrap (IntKind.i64.wrap (x.a * f.lo) + x.b)), iV 0]] fun l24 => aB A l24 fun b27 l26 => asN A l26 (z53 A f x kc b27))) else (dbl A (z52 A f x kc)))) else (bif (x.op == (5 : Int)) then (A.both (A.both (bif (f.kind == (3 : Int)) then (kc [lst .ro 5 [agg [iV f.id, iV 3, iV 0, iV 0, iV x.a]], bool (f.most == (↑(map (fun n => iV n) x.t).length : Int))] []) else (kc [lst .ro 5 [agg [iV f.id, iV 3, iV 0, iV 0, iV x.a]], bool false] [])) (bif (f.kind == (3 : Int)) then (dbl A (kc [lst .ro 5 [agg [iV f.id, iV 3, iV 0, iV 0, iV x.a]], bool (f.most == (↑(map (fun n => iV n) x.t).length : Int))] [])) else (kc [lst .ro 5 [agg [iV f.id, iV 3, iV 0, iV 0, iV x.a]], bool false] []))) (bif (f.kind == (3 : Int)) then (A.both (dbl A (kc [lst .ro 5 [agg [iV f.id, iV 3, iV 0, iV 0, iV x.a]], bool (f.most == (↑(map (fun n => iV n) x.t).length : Int))] [])) (kc [lst .ro 5 [agg [iV f.id, iV 3, iV 0, iV 0, iV x.a]], bool (f.most == (↑(map (fun n => iV n) x.t).length : Int))] [])) else (kc [lst .ro 5 [agg [iV f.id, iV 3, iV 0, iV 0, iV x.a]], bool false] []))) else (bif (x.op == (6 : Int)) then (A.both (dbl A (A.chk (!x.a == (0 : Int)) (z3p A f x kc))) (A.both (A.chk (!x.a == (0 : Int)) (dbl A (z3p A f x kc))) (dbl A (A.chk (!x.a == (0 : Int)) (z3p A f x kc))))) else (bif (x.op == (8 : Int)) then (kc [lst .ro 5 [agg [iV x.to, iV f.kind, iV f.lo, iV f.hi, iV f.most]], bool true] []) else (kc [lst .ro 5 [agg [iV f.id, iV f.kind, iV f.lo, iV f.hi, iV f.most]], bool true] []))))))
noncomputable def zlh {α : Type} (A : Alg α) (s : Sch) (f : Frm) (kc : List AV → List (Nat × List AV) → α) : α :=
  A.loop 4 [bool ((↑(map fldV f.fields).length : Int) == (0 : Int)), iV 0] [[iV s.ver, lst .ro 2 (map frmV s.forms)], [iV f.id, lst .ro 5 (map fldV f.fields)], [iV 0, lst .ro 2 []], [iV s.ver, lst (.own (.O 1005 1)) 2 []]] fun j0 l1 l2 => bif (j0.beq 1) then (aB A l1 fun b5 l4 => asN A l4 (asC A l2 fun l6 l7 => aI A l6 fun n10 l9 => aL A 5 l9 fun l13 l12 => asN A l12 (asC A l7 fun l14 l15 => aI A l14 fun n18 l17 => aL A 2 l17 fun l21 l20 => asN A l20 (asC A l15 fun l22 l23 => aI A l22 fun n26 l25 => asC A l25 fun v27 l28 => asOwn A 2 v27 fun x29 l30 => bif (x29.beq (.O (1005 : Nat) (1 : Nat))) then (asN A l28 (asN A l23 (bif (!b5) then (A.chk (decide ((l30.length + [agg [iV n10, lst .ro (nat_lit 5) l13]].length) * 32 ≤ 211106232532992)) (kc [agg [iV n26, lst .ro 2 (l30 ++ [agg [iV n10, lst .ro (nat_lit 5) l13]])]] [])) else (kc [agg [iV n26, lst .ro 2 l30]] [])))) else A.fail)))) else A.fail
noncomputable def zb0 {α : Type} (A : Alg α) (s : Sch) (f : Frm) (b : Bool) (i : Int) (v : Int) (d : List Frm) (next : List AV → List (List AV) → α) (kc : Nat → List AV → List (List AV) → α) : α :=
  bif (decide (i < (↑(map frmV s.forms).length : Int))) then (A.join (fun x0 => bif (!b) then (A.chk (decide ((0 : Int) ≤ i)) (nthE A (map frmV s.forms) i.toNat fun v1 => asA A v1 fun l2 => aI A l2 fun n5 l4 => aL A 5 l4 fun l8 l7 => asN A l7 (x0 (decide (n5 ≥ f.id))))) else (x0 false)) fun b9 => bif b9 then (A.chk (decide (((map frmV d).length + [agg [iV f.id, lst .ro (nat_lit 5) (map fldV f.fields)]].length) * 32 ≤ 211106232532992)) (A.chk (decide ((0 : Int) ≤ i)) (nthE A (map frmV s.forms) i.toNat fun v10 => asA A v10 fun l11 => aI A l11 fun n14 l13 => aL A 5 l13 fun l17 l16 => asN A l16 (bif (n14 != f.id) then (A.chk (decide ((0 : Int) ≤ i)) (nthE A (map frmV s.forms) i.toNat fun v18 => asA A v18 fun l19 => aI A l19 fun n22 l21 => aL A 5 l21 fun l25 l24 => asN A l24 (dbl A (A.chk (decide (((map frmV d ++ [agg [iV f.id, lst .ro (nat_lit 5) (map fldV f.fields)]]).length + [agg [iV n22, lst .ro (nat_lit 5) l25]].length) * 32 ≤ 211106232532992)) (next [bool true, iV (IntKind.i64.wrap (i + (1 : Int)))] [[iV s.ver, lst .ro 2 (map frmV s.forms)], [iV f.id, lst .ro 5 (map fldV f.fields)], [iV 0, lst .ro 2 []], [iV v, lst (.own (.O 1005 1)) 2 (map frmV d ++ [agg [iV f.id, lst .ro (nat_lit 5) (map fldV f.fields)]] ++ [agg [iV n22, lst .ro (nat_lit 5) l25]])]]))))) else (next [bool true, iV (IntKind.i64.wrap (i + (1 : Int)))] [[iV s.ver, lst .ro 2 (map frmV s.forms)], [iV f.id, lst .ro 5 (map fldV f.fields)], [iV 0, lst .ro 2 []], [iV v, lst (.own (.O 1005 1)) 2 (map frmV d ++ [agg [iV f.id, lst .ro (nat_lit 5) (map fldV f.fields)]])]]))))) else (A.chk (decide ((0 : Int) ≤ i)) (nthE A (map frmV s.forms) i.toNat fun v26 => asA A v26 fun l27 => aI A l27 fun n30 l29 => aL A 5 l29 fun l33 l32 => asN A l32 (bif (n30 != f.id) then (A.chk (decide ((0 : Int) ≤ i)) (nthE A (map frmV s.forms) i.toNat fun v34 => asA A v34 fun l35 => aI A l35 fun n38 l37 => aL A 5 l37 fun l41 l40 => asN A l40 (dbl A (A.chk (decide (((map frmV d).length + [agg [iV n38, lst .ro (nat_lit 5) l41]].length) * 32 ≤ 211106232532992)) (next [bool b, iV (IntKind.i64.wrap (i + (1 : Int)))] [[iV s.ver, lst .ro 2 (map frmV s.forms)], [iV f.id, lst .ro 5 (map fldV f.fields)], [iV 0, lst .ro 2 []], [iV v, lst (.own (.O 1005 1)) 2 (map frmV d ++ [agg [iV n38, lst .ro (nat_lit 5) l41]])]]))))) else (next [bool b, iV (IntKind.i64.wrap (i + (1 : Int)))] [[iV s.ver, lst .ro 2 (map frmV s.forms)], [iV f.id, lst .ro 5 (map fldV f.fields)], [iV 0, lst .ro 2 []], [iV v, lst (.own (.O 1005 1)) 2 (map frmV d)]]))))) else (kc 1 [bool b] [[iV f.id, lst .ro 5 (map fldV f.fields)], [iV 0, lst .ro 2 []], [iV v, lst (.own (.O 1005 1)) 2 (map frmV d)]])
noncomputable def z39 {α : Type} (A : Alg α) (s : Sch) (x : Stp) (kc : List AV → List (Nat × List AV) → α) (j14 : Nat) (l15 : List AV) (l16 : List (List AV)) : α :=
  bif (j14.beq 0) then (aI A l15 fun n19 l18 => asN A l18 (asC A l16 fun l20 l21 => aI A l20 fun n24 l23 => aL A 2 l23 fun l27 l26 => asN A l26 (asN A l21 (kc [agg [iV n24, lst .ro 2 l27], iV n19] [])))) else A.fail
noncomputable def z8k {α : Type} (A : Alg α) (s : Sch) (x : Stp) (kc : List AV → List (Nat × List AV) → α) (j116 : Nat) (l117 : List AV) (l118 : List (List AV)) : α :=
  bif (j116.beq 2) then (asN A l117 (asC A l118 fun l119 l120 => aI A l119 fun n123 l122 => aL A 2 l122 fun l126 l125 => asN A l125 (asC A l120 fun l127 l128 => aI A l127 fun n131 l130 => aL A 2 l130 fun l134 l133 => asN A l133 (asC A l128 fun l135 l136 => aI A l135 fun n139 l138 => aL A 5 l138 fun l142 l141 => asN A l141 (asN A l136 (bif ((↑l142.length : Int) == (0 : Int)) then (kc [agg [iV 0, lst .ro 2 []], iV 7] []) else (A.loop 1000028 [] [[iV n123, lst .ro 2 l126], [iV n131, lst .ro 2 l134], [iV n139, lst .ro 5 l142]] fun j143 l144 l145 => z39 A s x kc j143 l144 l145))))))) else A.fail
noncomputable def s_zOn {α : Type} (A : Alg α) (s : Sch) (x : Stp) (kc : List AV → List (Nat × List AV) → α) : α :=
  A.join (fun x0 => A.callx 14 [agg [iV s.ver, lst .ro 2 (map frmV s.forms)]] fun l1 => aB A l1 fun b4 l3 => asN A l3 (bif (!b4) then (x0 true) else (A.callx 47 [agg [iV x.op, iV x.form, iV x.field, iV x.place, iV x.to, iV x.a, iV x.b, iV x.f.id, iV x.f.kind, iV x.f.lo, iV x.f.hi, iV x.f.most, iV x.n, str x.s, lst .ro 1 (map (fun n => iV n) x.t), lst .ro 5 (map fldV x.fields)]] fun l5 => aB A l5 fun b8 l7 => asN A l7 (bif (!b8) then (x0 true) else (x0 (decide (x.op > (10 : Int)))))))) fun b9 => bif b9 then (kc [agg [iV 0, lst .ro 2 []], iV 2] []) else (A.callx 49 [agg [iV s.ver, lst .ro 2 (map frmV s.forms)], agg [iV x.op, iV x.form, iV x.field, iV x.place, iV x.to, iV x.a, iV x.b, iV x.f.id, iV x.f.kind, iV x.f.lo, iV x.f.hi, iV x.f.most, iV x.n, str x.s, lst .ro 1 (map (fun n => iV n) x.t), lst .ro 5 (map fldV x.fields)]] fun l10 => aI A l10 fun n13 l12 => asN A l12 (bif (n13 != (0 : Int)) then (kc [agg [iV 0, lst .ro 2 []], iV n13] []) else (bif (x.op == (9 : Int)) then (A.chk (decide (((0 : Nat) + (map fldV x.fields).length) * 40 ≤ 211106232532992)) (A.loop 1000028 [] [[iV s.ver, lst .ro 2 (map frmV s.forms)], [iV 0, lst .ro 2 []], [iV x.form, lst .ro 5 (map fldV x.fields)]] fun j14 l15 l16 => z39 A s x kc j14 l15 l16)) else (bif (x.op == (1 : Int)) then (A.callx 51 [agg [iV s.ver, lst .ro 2 (map frmV s.forms)], iV x.form] fun l28 => aI A l28 fun n31 l30 => asN A l30 (A.chk (decide ((0 : Int) ≤ n31)) (nthE A (map frmV s.forms) n31.toNat fun v32 => asA A v32 fun l33 => aI A l33 fun n36 l35 => aL A 5 l35 fun l39 l38 => asN A l38 (A.callx 50 [lst .ro 5 l39, iV x.place, agg [iV x.f.id, iV x.f.kind, iV x.f.lo, iV x.f.hi, iV x.f.most]] fun l40 => aL A 5 l40 fun l43 l42 => asN A l42 (A.loop 1000028 [] [[iV s.ver, lst .ro 2 (map frmV s.forms)], [iV 0, lst .ro 2 []], [iV x.form, lst .ro 5 l43]] fun j44 l45 l46 => z39 A s x kc j44 l45 l46))))) else (bif (x.op == (10 : Int)) then (A.loop 1000028 [] [[iV s.ver, lst .ro 2 (map frmV s.forms)], [iV 0, lst .ro 2 []], [iV x.form, lst .ro 5 []]] fun j58 l59 l60 => z39 A s x kc j58 l59 l60) else (A.callx 51 [agg [iV s.ver, lst .ro 2 (map frmV s.forms)], iV x.form] fun l72 => aI A l72 fun n75 l74 => asN A l74 (A.chk (decide ((0 : Int) ≤ n75)) (nthE A (map frmV s.forms) n75.toNat fun v76 => asA A v76 fun l77 => aI A l77 fun n80 l79 => aL A 5 l79 fun l83 l82 => asN A l82 (A.callx 45 [agg [iV 0, lst .ro 5 l83], iV x.field] fun l84 => aI A l84 fun n87 l86 => asN A l86 (A.chk (decide ((0 : Int) ≤ n87)) (nthE A l83 n87.toNat fun v88 => asA A v88 fun l89 => aI A l89 fun n92 l91 => aI A l91 fun n95 l94 => aI A l94 fun n98 l97 => aI A l97 fun n101 l100 => aI A l100 fun n104 l103 => asN A l103 (A.callx 52 [agg [iV n92, iV n95, iV n98, iV n101, iV n104], agg [iV x.op, iV x.form, iV x.field, iV x.place, iV x.to, iV x.a, iV x.b, iV x.f.id, iV x.f.kind, iV x.f.lo, iV x.f.hi, iV x.f.most, iV x.n, str x.s, lst .ro 1 (map (fun n => iV n) x.t), lst .ro 5 (map fldV x.fields)]] fun l105 => aL A 5 l105 fun l108 l107 => aB A l107 fun b111 l110 => asN A l110 (bif (!b111) then (kc [agg [iV 0, lst .ro 2 []], iV 17] []) else (A.callx 53 [lst .ro 5 l83, iV n87] fun l112 => aL A 5 l112 fun l115 l114 => asN A l114 (bif (x.op == (7 : Int)) then (A.loop 17 [iV x.place, lst .ro 5 l108, iV 0] [[iV s.ver, lst .ro 2 (map frmV s.forms)], [iV 0, lst .ro 2 []], [iV x.form, lst .ro 5 l115]] fun j116 l117 l118 => z8k A s x kc j116 l117 l118) else (A.loop 17 [iV n87, lst .ro 5 l108, iV 0] [[iV s.ver, lst .ro 2 (map frmV s.forms)], [iV 0, lst .ro 2 []], [iV x.form, lst .ro 5 l115]] fun j157 l158 l159 => z8k A s x kc j157 l158 l159))))))))))))))))
noncomputable def zli {α : Type} (A : Alg α) (s : Sch) (n : Int) (l : List Fld) (i : Int) (f : Frm) (next : List AV → List (List AV) → α) (kc : Nat → List AV → List (List AV) → α) : α :=
  bif (decide (i < (↑(map fldV l).length : Int))) then (A.chk (decide ((0 : Int) ≤ i)) (nthE A (map fldV l) i.toNat fun v0 => asA A v0 fun l1 => aI A l1 fun n4 l3 => aI A l3 fun n7 l6 => aI A l6 fun n10 l9 => aI A l9 fun n13 l12 => aI A l12 fun n16 l15 => asN A l15 (A.callx 50 [lst .ro 5 (map fldV f.fields), iV (IntKind.i64.wrap (n + i)), agg [iV n4, iV n7, iV n10, iV n13, iV n16]] fun l17 => aL A 5 l17 fun l20 l19 => asN A l19 (next [iV n, lst .ro 5 (map fldV l), iV (IntKind.i64.wrap (i + (1 : Int)))] [[iV s.ver, lst .ro 2 (map frmV s.forms)], [iV 0, lst .ro 2 []], [iV f.id, lst .ro 5 l20]])))) else (kc 2 [] [[iV s.ver, lst .ro 2 (map frmV s.forms)], [iV 0, lst .ro 2 []], [iV f.id, lst .ro 5 (map fldV f.fields)]])
noncomputable def zsn {α : Type} (A : Alg α) (s : Sch) (f : Frm) (next : List AV → List (List AV) → α) (kc : Nat → List AV → List (List AV) → α) : α :=
  A.callx 54 [agg [iV s.ver, lst .ro 2 (map frmV s.forms)], agg [iV f.id, lst .ro 5 (map fldV f.fields)]] fun l0 => aA A l0 fun l3 l2 => aI A l3 fun n6 l5 => aL A 2 l5 fun l9 l8 => asN A l8 (asN A l2 (A.callx 14 [agg [iV n6, lst .ro 2 l9]] fun l10 => aB A l10 fun b13 l12 => asN A l12 (bif (!b13) then (kc 0 [iV 7] [[iV 0, lst .ro 2 []]]) else (kc 0 [iV 0] [[iV n6, lst .ro 2 l9]]))))
noncomputable def zso {α : Type} (A : Alg α) (s : Sch) (l : List Stp) (kc : List AV → List (Nat × List AV) → α) : α :=
  A.loop 2 [lst .ro 16 (map stpV l), iV 0] [[iV s.ver, lst .ro 2 (map frmV s.forms)], [iV 0, lst .ro 2 []]] fun j0 l1 l2 => bif (j0.beq 0) then (aI A l1 fun n5 l4 => aI A l4 fun n8 l7 => asN A l7 (asC A l2 fun l9 l10 => aI A l9 fun n13 l12 => aL A 2 l12 fun l16 l15 => asN A l15 (asN A l10 (kc [agg [iV n13, lst .ro 2 l16], iV n5, iV n8] [])))) else (bif (j0.beq 1) then (asN A l1 (asC A l2 fun l17 l18 => aI A l17 fun n21 l20 => aL A 2 l20 fun l24 l23 => asN A l23 (asC A l18 fun l25 l26 => aI A l25 fun n29 l28 => aL A 2 l28 fun l32 l31 => asN A l31 (asN A l26 (kc [agg [iV n21, lst .ro 2 l24], iV 0, iV 0] []))))) else A.fail)
noncomputable def z8l {α : Type} (A : Alg α) (l : List Stp) (s : Sch) (i : Int) (next : List AV → List (List AV) → α) (kc : Nat → List AV → List (List AV) → α) (n4 : Int) (n7 : Int) (n10 : Int) (n13 : Int) (n16 : Int) (n19 : Int) (n22 : Int) (n25 : Int) (n28 : Int) (n31 : Int) (n34 : Int) (n37 : Int) (n40 : Int) (l43 : List UInt8) (l46 : List AV) (l49 : List AV) : α :=
  A.callx 34 [agg [iV s.ver, lst .ro 2 (map frmV s.forms)], agg [iV n4, iV n7, iV n10, iV n13, iV n16, iV n19, iV n22, iV n25, iV n28, iV n31, iV n34, iV n37, iV n40, str l43, lst .ro 1 l46, lst .ro 5 l49]] fun l50 => aA A l50 fun l53 l52 => aI A l53 fun n56 l55 => aL A 2 l55 fun l59 l58 => asN A l58 (aI A l52 fun n62 l61 => asN A l61 (bif (n62 != (0 : Int)) then (kc 0 [iV i, iV n62] [[iV 0, lst .ro 2 []]]) else (next [lst .ro 16 (map stpV l), iV (IntKind.i64.wrap (i + (1 : Int)))] [[iV n56, lst .ro 2 l59], [iV 0, lst .ro 2 []]])))
noncomputable def zg3 {α : Type} (A : Alg α) (l : List Stp) (s : Sch) (i : Int) (next : List AV → List (List AV) → α) (kc : Nat → List AV → List (List AV) → α) : α :=
  bif (decide (i < (↑(map stpV l).length : Int))) then (A.chk (decide ((0 : Int) ≤ i)) (nthE A (map stpV l) i.toNat fun v0 => asA A v0 fun l1 => aI A l1 fun n4 l3 => aI A l3 fun n7 l6 => aI A l6 fun n10 l9 => aI A l9 fun n13 l12 => aI A l12 fun n16 l15 => aI A l15 fun n19 l18 => aI A l18 fun n22 l21 => aI A l21 fun n25 l24 => aI A l24 fun n28 l27 => aI A l27 fun n31 l30 => aI A l30 fun n34 l33 => aI A l33 fun n37 l36 => aI A l36 fun n40 l39 => aS A l39 fun l43 l42 => aL A 1 l42 fun l46 l45 => aL A 5 l45 fun l49 l48 => asN A l48 (A.both (dbl A (z8l A l s i next kc n4 n7 n10 n13 n16 n19 n22 n25 n28 n31 n34 n37 n40 l43 l46 l49)) (z8l A l s i next kc n4 n7 n10 n13 n16 n19 n22 n25 n28 n31 n34 n37 n40 l43 l46 l49)))) else (kc 1 [] [[iV s.ver, lst .ro 2 (map frmV s.forms)], [iV 0, lst .ro 2 []]])
theorem zwg (f g : Fld) {r : CR} (h : zle (OA (tbl E0) (ltbl E0 80 0)) f g (fun r o => some (r, o)) = some r) : tbl E0 80 [fldV f, fldV g] [] = some r :=
  tblF Tryz.func80 h
theorem z11b (l : List Fld) (n : Int) (f : Fld) {r : CR} (h : zsl (OA (tbl E0) (ltbl E0 50 0)) l n f (fun r o => some (r, o)) = some r) : tbl E0 50 [fldsV l, iV n, fldV f] [] = some r :=
  tblF Tryz.func50 h
theorem z11c (l : List Fld) (n : Int) {r : CR} (h : zsm (OA (tbl E0) (ltbl E0 53 0)) l n (fun r o => some (r, o)) = some r) : tbl E0 53 [fldsV l, iV n] [] = some r :=
  tblF Tryz.func53 h
theorem zwh (op : Int) {r : CR} (h : zlf (OA (tbl E0) (ltbl E0 79 0)) op (fun r o => some (r, o)) = some r) : tbl E0 79 [iV op] [] = some r :=
  tblF Tryz.func79 h
theorem zwi (s : Sch) (x : Stp) {r : CR} (h : zlg (OA (tbl E0) (ltbl E0 49 0)) s x (fun r o => some (r, o)) = some r) : tbl E0 49 [schV s, stpV x] [] = some r :=
  tblF Tryz.func49 h
theorem zwj (f : Fld) (x : Stp) {r : CR} (h : z24 (OA (tbl E0) (ltbl E0 52 0)) f x (fun r o => some (r, o)) = some r) : tbl E0 52 [fldV f, stpV x] [] = some r :=
  tblF Tryz.func52 h
theorem zwk (s : Sch) (f : Frm) {r : CR} (h : zlh (OA (tbl E0) (ltbl E0 54 0)) s f (fun r o => some (r, o)) = some r) : tbl E0 54 [schV s, frmV f] [] = some r :=
  tblF Tryz.func54 h
theorem zhq (s : Sch) (f : Frm) (b : Bool) (i v : Int) (d : List Frm) {r : LR} (h : zb0 (OA (tbl E0) (ltbl E0 54 0)) s f b i v d (fun vs os => ltbl E0 54 0 4 vs os) (fun j vs os => some (j, vs, os)) = some r) : ltbl E0 54 0 4 [.bool b, iV i] [[iV s.ver, frmsV s.forms], [iV f.id, fldsV f.fields], [iV 0, frmsV []], [iV v, .lst (.own (.O 1005 1)) 2 (d.map frmV)]] = some r :=
  ltblF Tryz.func54 h
theorem t_zOn (s : Sch) (x : Stp) {r : CR} (h : s_zOn (OA (tbl E0) (ltbl E0 34 0)) s x (fun r o => some (r, o)) = some r) : tbl E0 34 [schV s, stpV x] [] = some r :=
  tblF Tryz.func34 h
theorem zsp (s : Sch) (n : Int) (l : List Fld) (i : Int) (f : Frm) {r : LR} (h : zli (OA (tbl E0) (ltbl E0 34 0)) s n l i f (fun vs os => ltbl E0 34 0 17 vs os) (fun j vs os => some (j, vs, os)) = some r) : ltbl E0 34 0 17 [iV n, fldsV l, iV i] [[iV s.ver, frmsV s.forms], [iV 0, frmsV []], [iV f.id, fldsV f.fields]] = some r :=
  ltblF Tryz.func34 h
theorem z11d (s : Sch) (f : Frm) {r : LR} (h : zsn (OA (tbl E0) (ltbl E0 34 0)) s f (fun vs os => ltbl E0 34 0 1000028 vs os) (fun j vs os => some (j, vs, os)) = some r) : ltbl E0 34 0 1000028 [] [[iV s.ver, frmsV s.forms], [iV 0, frmsV []], [iV f.id, fldsV f.fields]] = some r :=
  ltblF Tryz.func34 h
theorem z11e (s : Sch) (l : List Stp) {r : CR} (h : zso (OA (tbl E0) (ltbl E0 18 0)) s l (fun r o => some (r, o)) = some r) : tbl E0 18 [schV s, stpsV l] [] = some r :=
  tblF Tryz.func18 h
theorem zow (l : List Stp) (s : Sch) (i : Int) {r : LR} (h : zg3 (OA (tbl E0) (ltbl E0 18 0)) l s i (fun vs os => ltbl E0 18 0 2 vs os) (fun j vs os => some (j, vs, os)) = some r) : ltbl E0 18 0 2 [stpsV l, iV i] [[iV s.ver, frmsV s.forms], [iV 0, frmsV []]] = some r :=
  ltblF Tryz.func18 h
end Go.Proofs.YtjkjhgfiaodgmaaGreat.V
namespace Go.Proofs.YtjkjhgfiaodgmaaGreat.V
open Go
open AV (int lst agg str bool ref clo)
open List (map)
abbrev fldsU (l : List Fld) : AV := AV.lst .uq 5 (l.map fldV)
abbrev frmsU (l : List Frm) : AV := AV.lst .uq 2 (l.map frmV)
abbrev madO (x : Stp) (v : Int) (l : List Frm) (p e : Int) : List AV := [iV x.op, iV x.form, iV x.field, iV x.place, iV x.to, iV x.a, iV x.b, iV x.f.id, iV x.f.kind, iV x.f.lo, iV x.f.hi, iV x.f.most, iV x.n, .str x.s, intsV x.t, fldsV x.fields, iV v, frmsU l, iV p, iV e]
-- folds: dbl
-- folds: cse
-- fold madO x V L P E := [iV x.op, iV x.form, iV x.field, iV x.place, iV x.to, iV x.a, iV x.b, iV x.f.id, iV x.f.kind, iV x.f.lo, iV x.f.hi, iV x.f.most, iV x.n, str x.s, lst .ro 1 (map (fun n => iV n) x.t), lst .ro 5 (map fldV x.fields), iV V, lst .uq 2 (map frmV L), iV P, iV E]
noncomputable def zdc {α : Type} (A : Alg α) (l : List Fld) (kc : List AV → List (Nat × List AV) → α) : α :=
  nilEq A Md.ro (map fldV l) fun b0 => bif b0 then (kc [lst .uq 5 []] []) else (A.chk (decide (((0 : Nat) + (map fldV l).length) * 40 ≤ 211106232532992)) (bif (([] ++ map fldV l).all AV.flat) then (kc [lst .uq 5 (map fldV l)] []) else A.fail))
noncomputable def zhr {α : Type} (A : Alg α) (s : Sch) (kc : List AV → List (Nat × List AV) → α) : α :=
  A.loop 3 [lst .ro 2 (map frmV s.forms), iV (↑(map frmV s.forms).length : Int), iV 0] [[iV 0, lst .ro 2 []], [iV s.ver, lst .uq 2 []]] fun j0 l1 l2 => bif (j0.beq 1) then (asN A l1 (asC A l2 fun l3 l4 => aI A l3 fun n7 l6 => aL A 2 l6 fun l10 l9 => asN A l9 (asC A l4 fun l11 l12 => aI A l11 fun n15 l14 => aU A 2 l14 fun l18 l17 => asN A l17 (asN A l12 (bif (l18.all AV.flat) then (kc [agg [iV n15, lst .uq 2 l18]] []) else A.fail))))) else A.fail
noncomputable def z8m {α : Type} (A : Alg α) (l : List Frm) (v : Int) (d : List Frm) (m : Int) (i : Int) (next : List AV → List (List AV) → α) (kc : Nat → List AV → List (List AV) → α) : α :=
  bif (decide (i < m)) then (A.chk (decide ((0 : Int) ≤ i)) (nthE A (map frmV l) i.toNat fun v0 => asA A v0 fun l1 => aI A l1 fun n4 l3 => aL A 5 l3 fun l7 l6 => asN A l6 (A.both (A.call 65 [lst .ro 5 l7] [] fun l8 l9 => aU A 5 l8 fun l12 l11 => asN A l11 (asN A l9 (bif (l12.all AV.flat) then (A.chk (decide (((map frmV d).length + [agg [iV n4, lst .ro (nat_lit 5) l12]].length) * 32 ≤ 211106232532992)) (bif ((map frmV d ++ [agg [iV n4, lst .ro (nat_lit 5) l12]]).all AV.flat) then (next [lst .ro 2 (map frmV l), iV m, iV (IntKind.i64.wrap (i + (1 : Int)))] [[iV 0, lst .ro 2 []], [iV v, lst .uq 2 (map frmV d ++ [agg [iV n4, lst .ro (nat_lit 5) l12]])]]) else A.fail)) else A.fail))) (A.call 65 [lst .ro 5 l7] [] fun l13 l14 => aU A 5 l13 fun l17 l16 => asN A l16 (asN A l14 (bif (l17.all AV.flat) then (dbl A (A.chk (decide (((map frmV d).length + [agg [iV n4, lst .ro (nat_lit 5) l17]].length) * 32 ≤ 211106232532992)) (bif ((map frmV d ++ [agg [iV n4, lst .ro (nat_lit 5) l17]]).all AV.flat) then (next [lst .ro 2 (map frmV l), iV m, iV (IntKind.i64.wrap (i + (1 : Int)))] [[iV 0, lst .ro 2 []], [iV v, lst .uq 2 (map frmV d ++ [agg [iV n4, lst .ro (nat_lit 5) l17]])]]) else A.fail))) else A.fail)))))) else (bif ((map frmV d).all AV.flat) then (kc 1 [] [[iV 0, lst .ro 2 []], [iV v, lst .uq 2 (map frmV d)]]) else A.fail)
noncomputable def zox {α : Type} (A : Alg α) (x : Stp) (v : Int) (l : List Frm) (p : Int) (e : Int) (kc : List AV → List (Nat × List AV) → α) : α :=
  bif (fitI [((0 : Nat), (madO x v l p e))] && [ref (0 : Nat) (0 : Nat)].all fitA && nodupN (map (fun x => x.fst) (oshOf T0 (0 : Nat) [ref (0 : Nat) (0 : Nat)] Go.Proofs.Tryz.f93.params.toList)) && (oshOf T0 (0 : Nat) [ref (0 : Nat) (0 : Nat)] Go.Proofs.Tryz.f93.params.toList).all fun p => p.fst.blt (64 : Nat)) then (bif ((map frmV l).all AV.flat) then (A.loop 2 [] [(madO x v l 0 e)] fun j0 l1 l2 => bif (j0.beq 1) then (asN A l1 (asC A l2 fun l3 l4 => aI A l3 fun n7 l6 => aI A l6 fun n10 l9 => aI A l9 fun n13 l12 => aI A l12 fun n16 l15 => aI A l15 fun n19 l18 => aI A l18 fun n22 l21 => aI A l21 fun n25 l24 => aI A l24 fun n28 l27 => aI A l27 fun n31 l30 => aI A l30 fun n34 l33 => aI A l33 fun n37 l36 => aI A l36 fun n40 l39 => aI A l39 fun n43 l42 => aS A l42 fun l46 l45 => aL A 1 l45 fun l49 l48 => aL A 5 l48 fun l52 l51 => aI A l51 fun n55 l54 => aU A 2 l54 fun l58 l57 => aI A l57 fun n61 l60 => aI A l60 fun n64 l63 => asN A l63 (asN A l4 (A.join (fun x65 => bif (decide (n61 < (↑l58.length : Int))) then (A.chk (decide ((0 : Int) ≤ n61) && decide (n61 < (↑l58.length : Int))) (nthE A l58 n61.toNat fun v66 => nthE A v66.cells 0 fun v67 => bin A (TD.mk (TK.int IntKind.i64) 1 8 [iV 0] (Sh.int IntKind.i64) []) BinOp.eql v67 (iV n10) fun v68 => asB A v68 fun b69 => x65 b69)) else (x65 false)) fun b70 => bif (l58.all AV.flat) then (kc [bool b70] [(0, [iV n7, iV n10, iV n13, iV n16, iV n19, iV n22, iV n25, iV n28, iV n31, iV n34, iV n37, iV n40, iV n43, str l46, lst .ro 1 l49, lst .ro 5 l52, iV n55, lst .uq 2 l58, iV n61, iV n64])]) else A.fail)))) else A.fail) else A.fail) else A.fail
noncomputable def zdd {α : Type} (A : Alg α) (x : Stp) (v : Int) (l : List Frm) (p : Int) (e : Int) (next : List AV → List (List AV) → α) (kc : Nat → List AV → List (List AV) → α) : α :=
  A.join (fun x0 => bif (decide (p < (↑(map frmV l).length : Int))) then (A.chk (decide ((0 : Int) ≤ p) && decide (p < (↑(map frmV l).length : Int))) (nthE A (map frmV l) p.toNat fun v1 => nthE A v1.cells 0 fun v2 => bin A (TD.mk (TK.int IntKind.i64) 1 8 [iV 0] (Sh.int IntKind.i64) []) BinOp.lss v2 (iV x.form) fun v3 => asB A v3 fun b4 => x0 b4)) else (x0 false)) fun b5 => bif b5 then (bif ((map frmV l).all AV.flat) then (next [] [(madO x v l (IntKind.i64.wrap (p + (1 : Int))) e)]) else A.fail) else (bif ((map frmV l).all AV.flat) then (kc 1 [] [(madO x v l p e)]) else A.fail)
noncomputable def z1y {α : Type} (A : Alg α) (x : Stp) (v : Int) (l : List Frm) (p : Int) (e : Int) (kc : List AV → List (Nat × List AV) → α) (j72 : Nat) (l73 : List AV) (l74 : List (List AV)) : α :=
  bif (j72.beq 0) then (aI A l73 fun n77 l76 => asN A l76 (asC A l74 fun l78 l79 => aI A l78 fun n82 l81 => aI A l81 fun n85 l84 => aI A l84 fun n88 l87 => aI A l87 fun n91 l90 => aI A l90 fun n94 l93 => aI A l93 fun n97 l96 => aI A l96 fun n100 l99 => aI A l99 fun n103 l102 => aI A l102 fun n106 l105 => aI A l105 fun n109 l108 => aI A l108 fun n112 l111 => aI A l111 fun n115 l114 => aI A l114 fun n118 l117 => aS A l117 fun l121 l120 => aL A 1 l120 fun l124 l123 => aL A 5 l123 fun l127 l126 => aI A l126 fun n130 l129 => aU A 2 l129 fun l133 l132 => aI A l132 fun n136 l135 => aI A l135 fun n139 l138 => asN A l138 (asN A l79 (bif (l133.all AV.flat) then (kc [iV n77] [(0, [iV n82, iV n85, iV n88, iV n91, iV n94, iV n97, iV n100, iV n103, iV n106, iV n109, iV n112, iV n115, iV n118, str l121, lst .ro 1 l124, lst .ro 5 l127, iV n130, lst .uq 2 l133, iV n136, iV n139])]) else A.fail)))) else A.fail
noncomputable def z55 {α : Type} (A : Alg α) (x : Stp) (v : Int) (l : List Frm) (p : Int) (e : Int) (kc : List AV → List (Nat × List AV) → α) (l57 : List AV) (n18 : Int) (n6 : Int) (n9 : Int) (n12 : Int) (n15 : Int) (n21 : Int) (n24 : Int) (n27 : Int) (n30 : Int) (n33 : Int) (n36 : Int) (n39 : Int) (n42 : Int) (l45 : List UInt8) (l48 : List AV) (l51 : List AV) (n54 : Int) (n60 : Int) (n71 : Int) (v67 : AV) : α :=
  bif (l57.all AV.flat) then (A.loop 1000020 [iV n18] [[iV n6, iV n9, iV n12, iV n15, iV n18, iV n21, iV n24, iV n27, iV n30, iV n33, iV n36, iV n39, iV n42, str l45, lst .ro 1 l48, lst .ro 5 l51, iV n54, lst .uq 2 l57, iV n60, iV n71], (map AV.dem1 (setAt ((tabAt T0 (E0.an (67 : Nat) (0 : Nat))).ty (61 : Nat)).zero (0 : Nat) (List.take (2 : Nat) (List.drop (0 : Nat) v67.cells))))] fun j140 l141 l142 => z1y A x v l p e kc j140 l141 l142) else A.fail
noncomputable def z3q {α : Type} (A : Alg α) (x : Stp) (v : Int) (l : List Frm) (p : Int) (e : Int) (kc : List AV → List (Nat × List AV) → α) (l57 : List AV) (n60 : Int) (n12 : Int) (n6 : Int) (n27 : Int) (n9 : Int) (n15 : Int) (n18 : Int) (n21 : Int) (n24 : Int) (n30 : Int) (n33 : Int) (n36 : Int) (n39 : Int) (n42 : Int) (l45 : List UInt8) (l48 : List AV) (l51 : List AV) (n54 : Int) : α :=
  nthE A l57 n60.toNat fun v67 => A.chk (Nat.ble (2 : Nat) v67.cells.length) (A.chk ((List.take (2 : Nat) (List.drop (0 : Nat) v67.cells)).length.beq (2 : Nat)) (A.chk (((0 : Nat) + (List.take (2 : Nat) (List.drop (0 : Nat) v67.cells)).length).ble (2 : Nat)) (bif ((map AV.dem1 (setAt ((tabAt T0 (E0.an (67 : Nat) (0 : Nat))).ty (61 : Nat)).zero (0 : Nat) (List.take (2 : Nat) (List.drop (0 : Nat) v67.cells)))).all AV.flat1) then (A.chk (Nat.ble (2 : Nat) (map AV.dem1 (setAt ((tabAt T0 (E0.an (67 : Nat) (0 : Nat))).ty (61 : Nat)).zero (0 : Nat) (List.take (2 : Nat) (List.drop (0 : Nat) v67.cells)))).length) (bif ([agg (demSL [Sh.int IntKind.i64, Sh.lst (5 : Nat)] (List.take ((tabAt T0 (E0.an (67 : Nat) (0 : Nat))).ty (61 : Nat)).size (List.drop (0 : Nat) (map AV.dem1 (setAt ((tabAt T0 (E0.an (67 : Nat) (0 : Nat))).ty (61 : Nat)).zero (0 : Nat) (List.take ((tabAt T0 (E0.an (67 : Nat) (0 : Nat))).ty (61 : Nat)).size (List.drop (0 : Nat) v67.cells))))))), iV n12].all AV.flat && [agg (List.take (2 : Nat) (List.drop (0 : Nat) (map AV.dem1 (setAt ((tabAt T0 (E0.an (67 : Nat) (0 : Nat))).ty (61 : Nat)).zero (0 : Nat) (List.take (2 : Nat) (List.drop (0 : Nat) v67.cells)))))), iV n12].length.beq (2 : Nat)) then (A.callx 94 [agg (demSL [Sh.int IntKind.i64, Sh.lst (5 : Nat)] (List.take (2 : Nat) (List.drop (0 : Nat) (map AV.dem1 (setAt ((tabAt T0 (E0.an (67 : Nat) (0 : Nat))).ty (61 : Nat)).zero (0 : Nat) (List.take (2 : Nat) (List.drop (0 : Nat) v67.cells))))))), iV n12] fun l68 => aI A l68 fun n71 l70 => asN A l70 (bif (n6 == (1 : Int)) then (bif (l57.all AV.flat) then (A.loop 1000020 [iV n27] [[iV n6, iV n9, iV n12, iV n15, iV n18, iV n21, iV n24, iV n27, iV n30, iV n33, iV n36, iV n39, iV n42, str l45, lst .ro 1 l48, lst .ro 5 l51, iV n54, lst .uq 2 l57, iV n60, iV n15], (map AV.dem1 (setAt ((tabAt T0 (E0.an (67 : Nat) (0 : Nat))).ty (61 : Nat)).zero (0 : Nat) (List.take (2 : Nat) (List.drop (0 : Nat) v67.cells))))] fun j72 l73 l74 => z1y A x v l p e kc j72 l73 l74) else A.fail) else (bif (n6 == (6 : Int)) then (z55 A x v l p e kc l57 n18 n6 n9 n12 n15 n21 n24 n27 n30 n33 n36 n39 n42 l45 l48 l51 n54 n60 n71 v67) else (bif (n6 == (8 : Int)) then (z55 A x v l p e kc l57 n18 n6 n9 n12 n15 n21 n24 n27 n30 n33 n36 n39 n42 l45 l48 l51 n54 n60 n71 v67) else (bif (n6 == (10 : Int)) then (bif (l57.all AV.flat) then (A.loop 1000020 [iV (-1)] [[iV n6, iV n9, iV n12, iV n15, iV n18, iV n21, iV n24, iV n27, iV n30, iV n33, iV n36, iV n39, iV n42, str l45, lst .ro 1 l48, lst .ro 5 l51, iV n54, lst .uq 2 l57, iV n60, iV 0], (map AV.dem1 (setAt ((tabAt T0 (E0.an (67 : Nat) (0 : Nat))).ty (61 : Nat)).zero (0 : Nat) (List.take (2 : Nat) (List.drop (0 : Nat) v67.cells))))] fun j276 l277 l278 => z1y A x v l p e kc j276 l277 l278) else A.fail) else (bif (l57.all AV.flat) then (A.loop 1000020 [iV (-1)] [[iV n6, iV n9, iV n12, iV n15, iV n18, iV n21, iV n24, iV n27, iV n30, iV n33, iV n36, iV n39, iV n42, str l45, lst .ro 1 l48, lst .ro 5 l51, iV n54, lst .uq 2 l57, iV n60, iV n71], (map AV.dem1 (setAt ((tabAt T0 (E0.an (67 : Nat) (0 : Nat))).ty (61 : Nat)).zero (0 : Nat) (List.take (2 : Nat) (List.drop (0 : Nat) v67.cells))))] fun j344 l345 l346 => z1y A x v l p e kc j344 l345 l346) else A.fail)))))) else A.fail)) else A.fail)))
noncomputable def z7a {α : Type} (A : Alg α) (x : Stp) (v : Int) (l : List Frm) (p : Int) (e : Int) (kc : List AV → List (Nat × List AV) → α) (n60 : Int) (l57 : List AV) (n12 : Int) (n6 : Int) (n27 : Int) (n9 : Int) (n15 : Int) (n18 : Int) (n21 : Int) (n24 : Int) (n30 : Int) (n33 : Int) (n36 : Int) (n39 : Int) (n42 : Int) (l45 : List UInt8) (l48 : List AV) (l51 : List AV) (n54 : Int) : α :=
  A.both (A.both (A.chk (decide ((0 : Int) ≤ n60) && decide (n60 < (↑l57.length : Int))) (dbl A (z3q A x v l p e kc l57 n60 n12 n6 n27 n9 n15 n18 n21 n24 n30 n33 n36 n39 n42 l45 l48 l51 n54))) (A.chk (decide ((0 : Int) ≤ n60) && decide (n60 < (↑l57.length : Int))) (z3q A x v l p e kc l57 n60 n12 n6 n27 n9 n15 n18 n21 n24 n30 n33 n36 n39 n42 l45 l48 l51 n54))) (A.chk (decide ((0 : Int) ≤ n60) && decide (n60 < (↑l57.length : Int))) (z3q A x v l p e kc l57 n60 n12 n6 n27 n9 n15 n18 n21 n24 n30 n33 n36 n39 n42 l45 l48 l51 n54))
noncomputable def z8n {α : Type} (A : Alg α) (x : Stp) (v : Int) (l : List Frm) (p : Int) (e : Int) (kc : List AV → List (Nat × List AV) → α) : α :=
  bif (fitI [((0 : Nat), (madO x v l p e))] && [ref (0 : Nat) (0 : Nat)].all fitA && nodupN (map (fun x => x.fst) (oshOf T0 (0 : Nat) [ref (0 : Nat) (0 : Nat)] Go.Proofs.Tryz.f67.params.toList)) && (oshOf T0 (0 : Nat) [ref (0 : Nat) (0 : Nat)] Go.Proofs.Tryz.f67.params.toList).all fun p => p.fst.blt (64 : Nat)) then (bif ((map frmV l).all AV.flat) then (A.call 93 [ref 0 0] [(0, (madO x v l p e))] fun l0 l1 => asC A l1 fun x2 l3 => bif (x2.1.beq 0) then (aI A x2.2 fun n6 l5 => aI A l5 fun n9 l8 => aI A l8 fun n12 l11 => aI A l11 fun n15 l14 => aI A l14 fun n18 l17 => aI A l17 fun n21 l20 => aI A l20 fun n24 l23 => aI A l23 fun n27 l26 => aI A l26 fun n30 l29 => aI A l29 fun n33 l32 => aI A l32 fun n36 l35 => aI A l35 fun n39 l38 => aI A l38 fun n42 l41 => aS A l41 fun l45 l44 => aL A 1 l44 fun l48 l47 => aL A 5 l47 fun l51 l50 => aI A l50 fun n54 l53 => aU A 2 l53 fun l57 l56 => aI A l56 fun n60 l59 => aI A l59 fun n63 l62 => asN A l62 (aB A l0 fun b66 l65 => asN A l65 (asN A l3 (bif (n6 == (9 : Int)) then (bif b66 then (bif (l57.all AV.flat) then (kc [iV 9] [(0, [iV n6, iV n9, iV n12, iV n15, iV n18, iV n21, iV n24, iV n27, iV n30, iV n33, iV n36, iV n39, iV n42, str l45, lst .ro 1 l48, lst .ro 5 l51, iV n54, lst .uq 2 l57, iV n60, iV n63])]) else A.fail) else (bif (l57.all AV.flat) then (kc [iV 0] [(0, [iV n6, iV n9, iV n12, iV n15, iV n18, iV n21, iV n24, iV n27, iV n30, iV n33, iV n36, iV n39, iV n42, str l45, lst .ro 1 l48, lst .ro 5 l51, iV n54, lst .uq 2 l57, iV n60, iV n63])]) else A.fail)) else (bif (!b66) then (bif (l57.all AV.flat) then (kc [iV 8] [(0, [iV n6, iV n9, iV n12, iV n15, iV n18, iV n21, iV n24, iV n27, iV n30, iV n33, iV n36, iV n39, iV n42, str l45, lst .ro 1 l48, lst .ro 5 l51, iV n54, lst .uq 2 l57, iV n60, iV n63])]) else A.fail) else (A.both (z7a A x v l p e kc n60 l57 n12 n6 n27 n9 n15 n18 n21 n24 n30 n33 n36 n39 n42 l45 l48 l51 n54) (A.both (z7a A x v l p e kc n60 l57 n12 n6 n27 n9 n15 n18 n21 n24 n30 n33 n36 n39 n42 l45 l48 l51 n54) (dbl A (A.chk (decide ((0 : Int) ≤ n60) && decide (n60 < (↑l57.length : Int))) (z3q A x v l p e kc l57 n60 n12 n6 n27 n9 n15 n18 n21 n24 n30 n33 n36 n39 n42 l45 l48 l51 n54)))))))))) else A.fail) else A.fail) else A.fail
noncomputable def zhs {α : Type} (A : Alg α) (x : Stp) (v : Int) (l : List Frm) (p : Int) (e : Int) (g : Frm) (n : Int) (next : List AV → List (List AV) → α) (kc : Nat → List AV → List (List AV) → α) : α :=
  bif (decide (e < (0 : Int))) then (bif ((map frmV l).all AV.flat) then (kc 0 [iV 8] [(madO x v l p e)]) else A.fail) else (A.join (fun x0 => bif (decide (n ≥ (0 : Int))) then (A.callx 94 [agg [iV g.id, lst .ro 5 (map fldV g.fields)], iV n] fun l1 => aI A l1 fun n4 l3 => asN A l3 (x0 (decide (n4 ≥ (0 : Int))))) else (x0 false)) fun b5 => bif b5 then (bif ((map frmV l).all AV.flat) then (kc 0 [iV 9] [(madO x v l p e)]) else A.fail) else (A.join (fun x6 => bif (x.op == (1 : Int)) then (x6 (decide (x.place > (↑(map fldV g.fields).length : Int)))) else (x6 false)) fun b7 => bif b7 then (bif ((map frmV l).all AV.flat) then (kc 0 [iV 3] [(madO x v l p e)]) else A.fail) else (A.join (fun x8 => bif (x.op == (7 : Int)) then (x8 (decide (x.place ≥ (↑(map fldV g.fields).length : Int)))) else (x8 false)) fun b9 => bif b9 then (bif ((map frmV l).all AV.flat) then (kc 0 [iV 3] [(madO x v l p e)]) else A.fail) else (bif ((map frmV l).all AV.flat) then (kc 0 [iV 0] [(madO x v l p e)]) else A.fail))))
noncomputable def zht {α : Type} (A : Alg α) (x : Stp) (v : Int) (l : List Frm) (p : Int) (e : Int) (kc : List AV → List (Nat × List AV) → α) : α :=
  bif (fitI [((0 : Nat), (madO x v l p e))] && [ref (0 : Nat) (0 : Nat)].all fitA && nodupN (map (fun x => x.fst) (oshOf T0 (0 : Nat) [ref (0 : Nat) (0 : Nat)] Go.Proofs.Tryz.f97.params.toList)) && (oshOf T0 (0 : Nat) [ref (0 : Nat) (0 : Nat)] Go.Proofs.Tryz.f97.params.toList).all fun p => p.fst.blt (64 : Nat)) then (A.chk (decide ((0 : Int) ≤ p) && decide (p < (↑(map frmV l).length : Int))) (nthE A (map frmV l) p.toNat fun v0 => nthE A v0.cells 1 fun v1 => bif ((map frmV l).all AV.flat) then (exp0 A (Sh.lst 5) (Nm.R 0) v1 (updN (ofN (nmsA (0 : Nat) [ref (0 : Nat) (0 : Nat)] ++ nmsI [((0 : Nat), (madO x v l p e))])) (Nm.E ((0 : Nat), (madO x v l p e)).fst (17 : Nat)) Cs.dead) fun v2 x3 => kc [v2] [(0, (madO x v l p e))]) else A.fail)) else A.fail
noncomputable def zb1 {α : Type} (A : Alg α) (x : Stp) (v : Int) (l : List Frm) (p : Int) (e : Int) (kc : List AV → List (Nat × List AV) → α) (v67 : AV) (l57 : List AV) (n6 : Int) (n9 : Int) (n12 : Int) (n15 : Int) (n18 : Int) (n21 : Int) (n24 : Int) (n27 : Int) (n30 : Int) (n33 : Int) (n36 : Int) (n39 : Int) (n42 : Int) (l45 : List UInt8) (l48 : List AV) (l51 : List AV) (n54 : Int) (n60 : Int) (n63 : Int) : α :=
  asA A v67 fun l68 => aI A l68 fun n71 l70 => aI A l70 fun n74 l73 => aI A l73 fun n77 l76 => aI A l76 fun n80 l79 => aI A l79 fun n83 l82 => asN A l82 (bif (l57.all AV.flat) then (kc [agg [iV n71, iV n74, iV n77, iV n80, iV n83]] [(0, [iV n6, iV n9, iV n12, iV n15, iV n18, iV n21, iV n24, iV n27, iV n30, iV n33, iV n36, iV n39, iV n42, str l45, lst .ro 1 l48, lst .ro 5 l51, iV n54, lst .uq 2 l57, iV n60, iV n63])]) else A.fail)
noncomputable def zsq {α : Type} (A : Alg α) (x : Stp) (v : Int) (l : List Frm) (p : Int) (e : Int) (kc : List AV → List (Nat × List AV) → α) : α :=
  bif (fitI [((0 : Nat), (madO x v l p e))] && [ref (0 : Nat) (0 : Nat)].all fitA && nodupN (map (fun x => x.fst) (oshOf T0 (0 : Nat) [ref (0 : Nat) (0 : Nat)] Go.Proofs.Tryz.f98.params.toList)) && (oshOf T0 (0 : Nat) [ref (0 : Nat) (0 : Nat)] Go.Proofs.Tryz.f98.params.toList).all fun p => p.fst.blt (64 : Nat)) then (A.both (bif ((map frmV l).all AV.flat) then (A.call 97 [ref 0 0] [(0, (madO x v l p e))] fun l0 l1 => asC A l1 fun x2 l3 => bif (x2.1.beq 0) then (aI A x2.2 fun n6 l5 => aI A l5 fun n9 l8 => aI A l8 fun n12 l11 => aI A l11 fun n15 l14 => aI A l14 fun n18 l17 => aI A l17 fun n21 l20 => aI A l20 fun n24 l23 => aI A l23 fun n27 l26 => aI A l26 fun n30 l29 => aI A l29 fun n33 l32 => aI A l32 fun n36 l35 => aI A l35 fun n39 l38 => aI A l38 fun n42 l41 => aS A l41 fun l45 l44 => aL A 1 l44 fun l48 l47 => aL A 5 l47 fun l51 l50 => aI A l50 fun n54 l53 => aU A 2 l53 fun l57 l56 => aI A l56 fun n60 l59 => aI A l59 fun n63 l62 => asN A l62 (aL A 5 l0 fun l66 l65 => asN A l65 (asN A l3 (A.chk (decide ((0 : Int) ≤ n63)) (nthE A l66 n63.toNat fun v67 => zb1 A x v l p e kc v67 l57 n6 n9 n12 n15 n18 n21 n24 n27 n30 n33 n36 n39 n42 l45 l48 l51 n54 n60 n63))))) else A.fail) else A.fail) (bif ((map frmV l).all AV.flat) then (A.call 97 [ref 0 0] [(0, (madO x v l p e))] fun l84 l85 => asC A l85 fun x86 l87 => bif (x86.1.beq 0) then (aI A x86.2 fun n90 l89 => aI A l89 fun n93 l92 => aI A l92 fun n96 l95 => aI A l95 fun n99 l98 => aI A l98 fun n102 l101 => aI A l101 fun n105 l104 => aI A l104 fun n108 l107 => aI A l107 fun n111 l110 => aI A l110 fun n114 l113 => aI A l113 fun n117 l116 => aI A l116 fun n120 l119 => aI A l119 fun n123 l122 => aI A l122 fun n126 l125 => aS A l125 fun l129 l128 => aL A 1 l128 fun l132 l131 => aL A 5 l131 fun l135 l134 => aI A l134 fun n138 l137 => aU A 2 l137 fun l141 l140 => aI A l140 fun n144 l143 => aI A l143 fun n147 l146 => asN A l146 (aL A 5 l84 fun l150 l149 => asN A l149 (asN A l87 (A.chk (decide ((0 : Int) ≤ e)) (nthE A l150 e.toNat fun v151 => zb1 A x v l p e kc v151 l141 n90 n93 n96 n99 n102 n105 n108 n111 n114 n117 n120 n123 n126 l129 l132 l135 n138 n144 n147))))) else A.fail) else A.fail)) else A.fail
noncomputable def z67 {α : Type} (A : Alg α) (f : Fld) (a : Int) (b : Int) (kc : List AV → List (Nat × List AV) → α) (b11 : Bool) : α :=
  kc [agg [iV f.id, iV f.kind, iV (if IntKind.i64.wrap (IntKind.i64.wrap (a * f.hi) + b) < IntKind.i64.wrap (IntKind.i64.wrap (a * f.lo) + b) then IntKind.i64.wrap (IntKind.i64.wrap (a * f.hi) + b) else IntKind.i64.wrap (IntKind.i64.wrap (a * f.lo) + b)), iV (if IntKind.i64.wrap (IntKind.i64.wrap (a * f.lo) + b) < IntKind.i64.wrap (IntKind.i64.wrap (a * f.hi) + b) then IntKind.i64.wrap (IntKind.i64.wrap (a * f.hi) + b) else IntKind.i64.wrap (IntKind.i64.wrap (a * f.lo) + b)), iV f.most], bool b11] []
noncomputable def z68 {α : Type} (A : Alg α) (f : Fld) (a : Int) (b : Int) (kc : List AV → List (Nat × List AV) → α)  : α :=
  A.callx 37 [agg [iV f.id, iV f.kind, iV (if IntKind.i64.wrap (IntKind.i64.wrap (a * f.hi) + b) < IntKind.i64.wrap (IntKind.i64.wrap (a * f.lo) + b) then IntKind.i64.wrap (IntKind.i64.wrap (a * f.hi) + b) else IntKind.i64.wrap (IntKind.i64.wrap (a * f.lo) + b)), iV (if IntKind.i64.wrap (IntKind.i64.wrap (a * f.lo) + b) < IntKind.i64.wrap (IntKind.i64.wrap (a * f.hi) + b) then IntKind.i64.wrap (IntKind.i64.wrap (a * f.hi) + b) else IntKind.i64.wrap (IntKind.i64.wrap (a * f.lo) + b)), iV f.most]] fun l0 => aB A l0 fun b3 l2 => asN A l2 (z67 A f a b kc b3)
noncomputable def zhu {α : Type} (A : Alg α) (f : Fld) (a : Int) (b : Int) (kc : List AV → List (Nat × List AV) → α) : α :=
  A.both (z68 A f a b kc) (A.both (z68 A f a b kc) (A.callx 37 [agg [iV f.id, iV f.kind, iV (if IntKind.i64.wrap (IntKind.i64.wrap (a * f.hi) + b) < IntKind.i64.wrap (IntKind.i64.wrap (a * f.lo) + b) then IntKind.i64.wrap (IntKind.i64.wrap (a * f.hi) + b) else IntKind.i64.wrap (IntKind.i64.wrap (a * f.lo) + b)), iV (if IntKind.i64.wrap (IntKind.i64.wrap (a * f.lo) + b) < IntKind.i64.wrap (IntKind.i64.wrap (a * f.hi) + b) then IntKind.i64.wrap (IntKind.i64.wrap (a * f.hi) + b) else IntKind.i64.wrap (IntKind.i64.wrap (a * f.lo) + b)), iV f.most]] fun l8 => aB A l8 fun b11 l10 => asN A l10 (z67 A f a b kc b11)))
noncomputable def zlj {α : Type} (A : Alg α) (f : Fld) (g : Fld) (kc : List AV → List (Nat × List AV) → α) : α :=
  A.join (fun x0 => A.callx 37 [agg [iV f.id, iV f.kind, iV f.lo, iV f.hi, iV f.most]] fun l1 => aB A l1 fun b4 l3 => asN A l3 (bif (!b4) then (x0 true) else (A.callx 37 [agg [iV g.id, iV g.kind, iV g.lo, iV g.hi, iV g.most]] fun l5 => aB A l5 fun b8 l7 => asN A l7 (bif (!b8) then (x0 true) else (x0 (f.kind != g.kind)))))) fun b9 => bif b9 then (kc [bool false] []) else (A.callx 105 [agg [iV f.id, iV f.kind, iV f.lo, iV f.hi, iV f.most]] fun l10 => aI A l10 fun n13 l12 => aI A l12 fun n16 l15 => asN A l15 (A.callx 105 [agg [iV g.id, iV g.kind, iV g.lo, iV g.hi, iV g.most]] fun l17 => aI A l17 fun n20 l19 => aI A l19 fun n23 l22 => asN A l22 (A.join (fun x24 => bif (decide (n20 ≤ n13)) then (bif (decide (n16 ≤ n23)) then (x24 (decide (f.most ≤ g.most))) else (x24 false)) else (x24 false)) fun b25 => kc [bool b25] [])))
noncomputable def z69 {α : Type} (A : Alg α) (x : Stp) (v : Int) (l : List Frm) (p : Int) (e : Int) (kc : List AV → List (Nat × List AV) → α) (l57 : List AV) (b89 : Bool) (n6 : Int) (n9 : Int) (n12 : Int) (n15 : Int) (n18 : Int) (n21 : Int) (n24 : Int) (n27 : Int) (n30 : Int) (n33 : Int) (n36 : Int) (n39 : Int) (n42 : Int) (l45 : List UInt8) (l48 : List AV) (l51 : List AV) (n54 : Int) (n60 : Int) (n63 : Int) : α :=
  bif (l57.all AV.flat) then (kc [lst .uq 5 [agg [iV x.f.id, iV x.f.kind, iV x.f.lo, iV x.f.hi, iV x.f.most]], iV 1, bool b89] [(0, [iV n6, iV n9, iV n12, iV n15, iV n18, iV n21, iV n24, iV n27, iV n30, iV n33, iV n36, iV n39, iV n42, str l45, lst .ro 1 l48, lst .ro 5 l51, iV n54, lst .uq 2 l57, iV n60, iV n63])]) else A.fail
noncomputable def z6a {α : Type} (A : Alg α) (x : Stp) (v : Int) (l : List Frm) (p : Int) (e : Int) (kc : List AV → List (Nat × List AV) → α) (n69 : Int) (n72 : Int) (n75 : Int) (n78 : Int) (n81 : Int) (l57 : List AV) (n6 : Int) (n9 : Int) (n12 : Int) (n15 : Int) (n18 : Int) (n21 : Int) (n24 : Int) (n27 : Int) (n30 : Int) (n33 : Int) (n36 : Int) (n39 : Int) (n42 : Int) (l45 : List UInt8) (l48 : List AV) (l51 : List AV) (n54 : Int) (n60 : Int) (n63 : Int) : α :=
  A.callx 117 [agg [iV n69, iV n72, iV n75, iV n78, iV n81], agg [iV x.f.id, iV x.f.kind, iV x.f.lo, iV x.f.hi, iV x.f.most]] fun l86 => aB A l86 fun b89 l88 => asN A l88 (z69 A x v l p e kc l57 b89 n6 n9 n12 n15 n18 n21 n24 n27 n30 n33 n36 n39 n42 l45 l48 l51 n54 n60 n63)
noncomputable def zb2 {α : Type} (A : Alg α) (x : Stp) (v : Int) (l : List Frm) (p : Int) (e : Int) (kc : List AV → List (Nat × List AV) → α) : α :=
  bif (fitI [((0 : Nat), (madO x v l p e))] && [ref (0 : Nat) (0 : Nat)].all fitA && nodupN (map (fun x => x.fst) (oshOf T0 (0 : Nat) [ref (0 : Nat) (0 : Nat)] Go.Proofs.Tryz.f101.params.toList)) && (oshOf T0 (0 : Nat) [ref (0 : Nat) (0 : Nat)] Go.Proofs.Tryz.f101.params.toList).all fun p => p.fst.blt (64 : Nat)) then (bif (x.op == (1 : Int)) then (bif ((map frmV l).all AV.flat) then (kc [lst .uq 5 [agg [iV x.f.id, iV x.f.kind, iV x.f.lo, iV x.f.hi, iV x.f.most]], iV 0, bool true] [(0, (madO x v l p e))]) else A.fail) else (bif ((map frmV l).all AV.flat) then (A.call 98 [ref 0 0] [(0, (madO x v l p e))] fun l0 l1 => asC A l1 fun x2 l3 => bif (x2.1.beq 0) then (aI A x2.2 fun n6 l5 => aI A l5 fun n9 l8 => aI A l8 fun n12 l11 => aI A l11 fun n15 l14 => aI A l14 fun n18 l17 => aI A l17 fun n21 l20 => aI A l20 fun n24 l23 => aI A l23 fun n27 l26 => aI A l26 fun n30 l29 => aI A l29 fun n33 l32 => aI A l32 fun n36 l35 => aI A l35 fun n39 l38 => aI A l38 fun n42 l41 => aS A l41 fun l45 l44 => aL A 1 l44 fun l48 l47 => aL A 5 l47 fun l51 l50 => aI A l50 fun n54 l53 => aU A 2 l53 fun l57 l56 => aI A l56 fun n60 l59 => aI A l59 fun n63 l62 => asN A l62 (aA A l0 fun l66 l65 => aI A l66 fun n69 l68 => aI A l68 fun n72 l71 => aI A l71 fun n75 l74 => aI A l74 fun n78 l77 => aI A l77 fun n81 l80 => asN A l80 (asN A l65 (asN A l3 (bif (x.op == (2 : Int)) then (A.callx 110 [agg [iV n69, iV n72, iV n75, iV n78, iV n81], agg [iV x.n, str x.s]] fun l82 => aB A l82 fun b85 l84 => asN A l84 (bif (l57.all AV.flat) then (kc [lst .uq 5 [], iV 1, bool b85] [(0, [iV n6, iV n9, iV n12, iV n15, iV n18, iV n21, iV n24, iV n27, iV n30, iV n33, iV n36, iV n39, iV n42, str l45, lst .ro 1 l48, lst .ro 5 l51, iV n54, lst .uq 2 l57, iV n60, iV n63])]) else A.fail)) else (bif (x.op == (3 : Int)) then (A.both (z6a A x v l p e kc n69 n72 n75 n78 n81 l57 n6 n9 n12 n15 n18 n21 n24 n27 n30 n33 n36 n39 n42 l45 l48 l51 n54 n60 n63) (A.both (z6a A x v l p e kc n69 n72 n75 n78 n81 l57 n6 n9 n12 n15 n18 n21 n24 n27 n30 n33 n36 n39 n42 l45 l48 l51 n54 n60 n63) (A.callx 117 [agg [iV n69, iV n72, iV n75, iV n78, iV n81], agg [iV x.f.id, iV x.f.kind, iV x.f.lo, iV x.f.hi, iV x.f.most]] fun l94 => aB A l94 fun b97 l96 => asN A l96 (z69 A x v l p e kc l57 b97 n6 n9 n12 n15 n18 n21 n24 n27 n30 n33 n36 n39 n42 l45 l48 l51 n54 n60 n63)))) else (bif (x.op == (4 : Int)) then (bif (n72 == (1 : Int)) then (A.callx 118 [agg [iV n69, iV n72, iV n75, iV n78, iV n81], iV x.a, iV x.b] fun l98 => aA A l98 fun l101 l100 => aI A l101 fun n104 l103 => aI A l103 fun n107 l106 => aI A l106 fun n110 l109 => aI A l109 fun n113 l112 => aI A l112 fun n116 l115 => asN A l115 (aB A l100 fun b119 l118 => asN A l118 (bif (l57.all AV.flat) then (kc [lst .uq 5 [agg [iV n104, iV n107, iV n110, iV n113, iV n116]], iV 1, bool b119] [(0, [iV n6, iV n9, iV n12, iV n15, iV n18, iV n21, iV n24, iV n27, iV n30, iV n33, iV n36, iV n39, iV n42, str l45, lst .ro 1 l48, lst .ro 5 l51, iV n54, lst .uq 2 l57, iV n60, iV n63])]) else A.fail))) else (bif (l57.all AV.flat) then (kc [lst .uq 5 [agg [iV n69, iV n72, iV n75, iV n78, iV n81]], iV 1, bool false] [(0, [iV n6, iV n9, iV n12, iV n15, iV n18, iV n21, iV n24, iV n27, iV n30, iV n33, iV n36, iV n39, iV n42, str l45, lst .ro 1 l48, lst .ro 5 l51, iV n54, lst .uq 2 l57, iV n60, iV n63])]) else A.fail)) else (bif (x.op == (5 : Int)) then (A.join (fun x120 => bif (n72 == (3 : Int)) then (x120 (n81 == (↑(map (fun n => iV n) x.t).length : Int))) else (x120 false)) fun b121 => bif (l57.all AV.flat) then (kc [lst .uq 5 [agg [iV n69, iV n72, iV n75, iV n78, iV x.a]], iV 1, bool b121] [(0, [iV n6, iV n9, iV n12, iV n15, iV n18, iV n21, iV n24, iV n27, iV n30, iV n33, iV n36, iV n39, iV n42, str l45, lst .ro 1 l48, lst .ro 5 l51, iV n54, lst .uq 2 l57, iV n60, iV n63])]) else A.fail) else (bif (x.op == (6 : Int)) then (A.join (fun x122 => bif (n72 == (1 : Int)) then (x122 (n75 == (0 : Int))) else (x122 false)) fun b123 => A.chk (!x.a == (0 : Int)) (bif (l57.all AV.flat) then (kc [lst .uq 5 [agg [iV n69, iV n72, iV n75, iV (IntKind.i64.wrap (n78.tdiv x.a)), iV n81], agg [iV x.to, iV 1, iV 0, iV (if n78 < IntKind.i64.wrap (x.a - (1 : Int)) then n78 else IntKind.i64.wrap (x.a - (1 : Int))), iV 0]], iV 1, bool b123] [(0, [iV n6, iV n9, iV n12, iV n15, iV n18, iV n21, iV n24, iV n27, iV n30, iV n33, iV n36, iV n39, iV n42, str l45, lst .ro 1 l48, lst .ro 5 l51, iV n54, lst .uq 2 l57, iV n60, iV n63])]) else A.fail)) else (bif (l57.all AV.flat) then (kc [lst .uq 5 [agg [iV x.to, iV n72, iV n75, iV n78, iV n81]], iV 1, bool true] [(0, [iV n6, iV n9, iV n12, iV n15, iV n18, iV n21, iV n24, iV n27, iV n30, iV n33, iV n36, iV n39, iV n42, str l45, lst .ro 1 l48, lst .ro 5 l51, iV n54, lst .uq 2 l57, iV n60, iV n63])]) else A.fail)))))))))) else A.fail) else A.fail)) else A.fail
noncomputable def z2p {α : Type} (A : Alg α) (x : Stp) (v : Int) (l : List Frm) (p : Int) (e : Int) (kc : List AV → List (Nat × List AV) → α) (l777 : List AV) (l778 : List (Nat × List AV)) (n764 : Int) (l761 : List AV) (n710 : Int) (n713 : Int) (n716 : Int) (n719 : Int) (n722 : Int) (n725 : Int) (n728 : Int) (n731 : Int) (n734 : Int) (n737 : Int) (n740 : Int) (n743 : Int) (n746 : Int) (l749 : List UInt8) (l752 : List AV) (l755 : List AV) (n758 : Int) (n767 : Int) : α :=
  aU A 5 l777 fun l781 l780 => asN A l780 (asN A l778 (bif (l781.all AV.flat) then (dbl A (A.chk (decide ((0 : Int) ≤ n764) && decide (n764 < (↑l761.length : Int))) (nthE A l761 n764.toNat fun v782 => A.chk (((1 : Nat) + [lst .ro (nat_lit 5) l781].length).ble v782.cells.length) (putC A v782 (setAt v782.cells (1 : Nat) [lst .ro (nat_lit 5) l781]) fun v783 => A.chk v783.flat (bif ((l761.set n764.toNat v783).all AV.flat) then (kc [bool true] [(0, [iV n710, iV n713, iV n716, iV n719, iV n722, iV n725, iV n728, iV n731, iV n734, iV n737, iV n740, iV n743, iV n746, str l749, lst .ro 1 l752, lst .ro 5 l755, iV n758, lst .uq 2 (l761.set n764.toNat v783), iV n764, iV n767])]) else A.fail))))) else A.fail))
noncomputable def z3a {α : Type} (A : Alg α) (x : Stp) (v : Int) (l : List Frm) (p : Int) (e : Int) (kc : List AV → List (Nat × List AV) → α) (l158 : List AV) (n87 : Int) (n141 : Int) (n144 : Int) (n147 : Int) (n150 : Int) (n153 : Int) (n132 : Int) (l129 : List AV) (n78 : Int) (n81 : Int) (n84 : Int) (n90 : Int) (n93 : Int) (n96 : Int) (n99 : Int) (n102 : Int) (n105 : Int) (n108 : Int) (n111 : Int) (n114 : Int) (l117 : List UInt8) (l120 : List AV) (l123 : List AV) (n126 : Int) (n135 : Int) : α :=
  bif (l158.all AV.flat) then (A.call 99 [lst .uq 5 l158, iV n87, lst .uq 5 [agg [iV n141, iV n144, iV n147, iV n150, iV n153]]] [] fun l159 l160 => z2p A x v l p e kc l159 l160 n132 l129 n78 n81 n84 n87 n90 n93 n96 n99 n102 n105 n108 n111 n114 l117 l120 l123 n126 n135) else A.fail
noncomputable def z1k {α : Type} (A : Alg α) (x : Stp) (v : Int) (l : List Frm) (p : Int) (e : Int) (kc : List AV → List (Nat × List AV) → α) (l71 : List AV) (n135 : Int) (n87 : Int) (n141 : Int) (n144 : Int) (n147 : Int) (n150 : Int) (n153 : Int) (n132 : Int) (l129 : List AV) (n78 : Int) (n81 : Int) (n84 : Int) (n90 : Int) (n93 : Int) (n96 : Int) (n99 : Int) (n102 : Int) (n105 : Int) (n108 : Int) (n111 : Int) (n114 : Int) (l117 : List UInt8) (l120 : List AV) (l123 : List AV) (n126 : Int) : α :=
  bif (l71.all AV.flat) then (A.call 100 [lst .uq 5 l71, iV n135, iV (IntKind.i64.wrap (n135 + (1 : Int)))] [] fun l191 l192 => aU A 5 l191 fun l195 l194 => asN A l194 (asN A l192 (z3a A x v l p e kc l195 n87 n141 n144 n147 n150 n153 n132 l129 n78 n81 n84 n90 n93 n96 n99 n102 n105 n108 n111 n114 l117 l120 l123 n126 n135))) else A.fail
noncomputable def z6b {α : Type} (A : Alg α) (x : Stp) (v : Int) (l : List Frm) (p : Int) (e : Int) (kc : List AV → List (Nat × List AV) → α) (l71 : List AV) (n135 : Int) (n87 : Int) (n141 : Int) (n144 : Int) (n147 : Int) (n150 : Int) (n153 : Int) (n132 : Int) (l129 : List AV) (n78 : Int) (n81 : Int) (n84 : Int) (n90 : Int) (n93 : Int) (n96 : Int) (n99 : Int) (n102 : Int) (n105 : Int) (n108 : Int) (n111 : Int) (n114 : Int) (l117 : List UInt8) (l120 : List AV) (l123 : List AV) (n126 : Int) : α :=
  A.both (bif (l71.all AV.flat) then (A.call 100 [lst .uq 5 l71, iV n135, iV (IntKind.i64.wrap (n135 + (1 : Int)))] [] fun l177 l178 => aU A 5 l177 fun l181 l180 => asN A l180 (asN A l178 (z3a A x v l p e kc l181 n87 n141 n144 n147 n150 n153 n132 l129 n78 n81 n84 n90 n93 n96 n99 n102 n105 n108 n111 n114 l117 l120 l123 n126 n135))) else A.fail) (z1k A x v l p e kc l71 n135 n87 n141 n144 n147 n150 n153 n132 l129 n78 n81 n84 n90 n93 n96 n99 n102 n105 n108 n111 n114 l117 l120 l123 n126)
noncomputable def z4k {α : Type} (A : Alg α) (x : Stp) (v : Int) (l : List Frm) (p : Int) (e : Int) (kc : List AV → List (Nat × List AV) → α) (l71 : List AV) (n135 : Int) (n87 : Int) (n141 : Int) (n144 : Int) (n147 : Int) (n150 : Int) (n153 : Int) (n132 : Int) (l129 : List AV) (n78 : Int) (n81 : Int) (n84 : Int) (n90 : Int) (n93 : Int) (n96 : Int) (n99 : Int) (n102 : Int) (n105 : Int) (n108 : Int) (n111 : Int) (n114 : Int) (l117 : List UInt8) (l120 : List AV) (l123 : List AV) (n126 : Int) : α :=
  A.both (z6b A x v l p e kc l71 n135 n87 n141 n144 n147 n150 n153 n132 l129 n78 n81 n84 n90 n93 n96 n99 n102 n105 n108 n111 n114 l117 l120 l123 n126) (z1k A x v l p e kc l71 n135 n87 n141 n144 n147 n150 n153 n132 l129 n78 n81 n84 n90 n93 n96 n99 n102 n105 n108 n111 n114 l117 l120 l123 n126)
noncomputable def z4l {α : Type} (A : Alg α) (x : Stp) (v : Int) (l : List Frm) (p : Int) (e : Int) (kc : List AV → List (Nat × List AV) → α) (l71 : List AV) (n135 : Int) (n87 : Int) (n141 : Int) (n144 : Int) (n147 : Int) (n150 : Int) (n153 : Int) (n132 : Int) (l129 : List AV) (n78 : Int) (n81 : Int) (n84 : Int) (n90 : Int) (n93 : Int) (n96 : Int) (n99 : Int) (n102 : Int) (n105 : Int) (n108 : Int) (n111 : Int) (n114 : Int) (l117 : List UInt8) (l120 : List AV) (l123 : List AV) (n126 : Int) : α :=
  A.both (dbl A (z1k A x v l p e kc l71 n135 n87 n141 n144 n147 n150 n153 n132 l129 n78 n81 n84 n90 n93 n96 n99 n102 n105 n108 n111 n114 l117 l120 l123 n126)) (z1k A x v l p e kc l71 n135 n87 n141 n144 n147 n150 n153 n132 l129 n78 n81 n84 n90 n93 n96 n99 n102 n105 n108 n111 n114 l117 l120 l123 n126)
noncomputable def z6c {α : Type} (A : Alg α) (x : Stp) (v : Int) (l : List Frm) (p : Int) (e : Int) (kc : List AV → List (Nat × List AV) → α) (l71 : List AV) (n135 : Int) (n87 : Int) (n141 : Int) (n144 : Int) (n147 : Int) (n150 : Int) (n153 : Int) (n132 : Int) (l129 : List AV) (n78 : Int) (n81 : Int) (n84 : Int) (n90 : Int) (n93 : Int) (n96 : Int) (n99 : Int) (n102 : Int) (n105 : Int) (n108 : Int) (n111 : Int) (n114 : Int) (l117 : List UInt8) (l120 : List AV) (l123 : List AV) (n126 : Int) : α :=
  A.both (A.both (bif (l71.all AV.flat) then (A.call 100 [lst .uq 5 l71, iV n135, iV (IntKind.i64.wrap (n135 + (1 : Int)))] [] fun l154 l155 => aU A 5 l154 fun l158 l157 => asN A l157 (asN A l155 (dbl A (z3a A x v l p e kc l158 n87 n141 n144 n147 n150 n153 n132 l129 n78 n81 n84 n90 n93 n96 n99 n102 n105 n108 n111 n114 l117 l120 l123 n126 n135)))) else A.fail) (A.both (z6b A x v l p e kc l71 n135 n87 n141 n144 n147 n150 n153 n132 l129 n78 n81 n84 n90 n93 n96 n99 n102 n105 n108 n111 n114 l117 l120 l123 n126) (dbl A (z1k A x v l p e kc l71 n135 n87 n141 n144 n147 n150 n153 n132 l129 n78 n81 n84 n90 n93 n96 n99 n102 n105 n108 n111 n114 l117 l120 l123 n126)))) (A.both (z4k A x v l p e kc l71 n135 n87 n141 n144 n147 n150 n153 n132 l129 n78 n81 n84 n90 n93 n96 n99 n102 n105 n108 n111 n114 l117 l120 l123 n126) (z4l A x v l p e kc l71 n135 n87 n141 n144 n147 n150 n153 n132 l129 n78 n81 n84 n90 n93 n96 n99 n102 n105 n108 n111 n114 l117 l120 l123 n126))
noncomputable def zb3 {α : Type} (A : Alg α) (x : Stp) (v : Int) (l : List Frm) (p : Int) (e : Int) (kc : List AV → List (Nat × List AV) → α) : α :=
  bif (fitI [((0 : Nat), (madO x v l p e))] && [ref (0 : Nat) (0 : Nat)].all fitA && nodupN (map (fun x => x.fst) (oshOf T0 (0 : Nat) [ref (0 : Nat) (0 : Nat)] Go.Proofs.Tryz.f70.params.toList)) && (oshOf T0 (0 : Nat) [ref (0 : Nat) (0 : Nat)] Go.Proofs.Tryz.f70.params.toList).all fun p => p.fst.blt (64 : Nat)) then (bif ((map frmV l).all AV.flat) then (A.call 97 [ref 0 0] [(0, (madO x v l p e))] fun l0 l1 => asC A l1 fun x2 l3 => bif (x2.1.beq 0) then (aI A x2.2 fun n6 l5 => aI A l5 fun n9 l8 => aI A l8 fun n12 l11 => aI A l11 fun n15 l14 => aI A l14 fun n18 l17 => aI A l17 fun n21 l20 => aI A l20 fun n24 l23 => aI A l23 fun n27 l26 => aI A l26 fun n30 l29 => aI A l29 fun n33 l32 => aI A l32 fun n36 l35 => aI A l35 fun n39 l38 => aI A l38 fun n42 l41 => aS A l41 fun l45 l44 => aL A 1 l44 fun l48 l47 => aL A 5 l47 fun l51 l50 => aI A l50 fun n54 l53 => aU A 2 l53 fun l57 l56 => aI A l56 fun n60 l59 => aI A l59 fun n63 l62 => asN A l62 (aL A 5 l0 fun l66 l65 => asN A l65 (asN A l3 (A.call 65 [lst .ro 5 l66] [] fun l67 l68 => aU A 5 l67 fun l71 l70 => asN A l70 (asN A l68 (bif (n6 == (7 : Int)) then (bif (l57.all AV.flat) then (A.call 98 [ref 0 0] [(0, [iV n6, iV n9, iV n12, iV n15, iV n18, iV n21, iV n24, iV n27, iV n30, iV n33, iV n36, iV n39, iV n42, str l45, lst .ro 1 l48, lst .ro 5 l51, iV n54, lst .uq 2 l57, iV n60, iV n63])] fun l72 l73 => asC A l73 fun x74 l75 => bif (x74.1.beq 0) then (aI A x74.2 fun n78 l77 => aI A l77 fun n81 l80 => aI A l80 fun n84 l83 => aI A l83 fun n87 l86 => aI A l86 fun n90 l89 => aI A l89 fun n93 l92 => aI A l92 fun n96 l95 => aI A l95 fun n99 l98 => aI A l98 fun n102 l101 => aI A l101 fun n105 l104 => aI A l104 fun n108 l107 => aI A l107 fun n111 l110 => aI A l110 fun n114 l113 => aS A l113 fun l117 l116 => aL A 1 l116 fun l120 l119 => aL A 5 l119 fun l123 l122 => aI A l122 fun n126 l125 => aU A 2 l125 fun l129 l128 => aI A l128 fun n132 l131 => aI A l131 fun n135 l134 => asN A l134 (aA A l72 fun l138 l137 => aI A l138 fun n141 l140 => aI A l140 fun n144 l143 => aI A l143 fun n147 l146 => aI A l146 fun n150 l149 => aI A l149 fun n153 l152 => asN A l152 (asN A l137 (asN A l75 (A.both (z6c A x v l p e kc l71 n135 n87 n141 n144 n147 n150 n153 n132 l129 n78 n81 n84 n90 n93 n96 n99 n102 n105 n108 n111 n114 l117 l120 l123 n126) (A.both (z6c A x v l p e kc l71 n135 n87 n141 n144 n147 n150 n153 n132 l129 n78 n81 n84 n90 n93 n96 n99 n102 n105 n108 n111 n114 l117 l120 l123 n126) (A.both (A.both (z4k A x v l p e kc l71 n135 n87 n141 n144 n147 n150 n153 n132 l129 n78 n81 n84 n90 n93 n96 n99 n102 n105 n108 n111 n114 l117 l120 l123 n126) (A.both (z4k A x v l p e kc l71 n135 n87 n141 n144 n147 n150 n153 n132 l129 n78 n81 n84 n90 n93 n96 n99 n102 n105 n108 n111 n114 l117 l120 l123 n126) (dbl A (z1k A x v l p e kc l71 n135 n87 n141 n144 n147 n150 n153 n132 l129 n78 n81 n84 n90 n93 n96 n99 n102 n105 n108 n111 n114 l117 l120 l123 n126)))) (A.both (z4l A x v l p e kc l71 n135 n87 n141 n144 n147 n150 n153 n132 l129 n78 n81 n84 n90 n93 n96 n99 n102 n105 n108 n111 n114 l117 l120 l123 n126) (A.both (z4l A x v l p e kc l71 n135 n87 n141 n144 n147 n150 n153 n132 l129 n78 n81 n84 n90 n93 n96 n99 n102 n105 n108 n111 n114 l117 l120 l123 n126) (dbl A (z1k A x v l p e kc l71 n135 n87 n141 n144 n147 n150 n153 n132 l129 n78 n81 n84 n90 n93 n96 n99 n102 n105 n108 n111 n114 l117 l120 l123 n126))))))))))) else A.fail) else A.fail) else (bif (l57.all AV.flat) then (A.call 101 [ref 0 0] [(0, [iV n6, iV n9, iV n12, iV n15, iV n18, iV n21, iV n24, iV n27, iV n30, iV n33, iV n36, iV n39, iV n42, str l45, lst .ro 1 l48, lst .ro 5 l51, iV n54, lst .uq 2 l57, iV n60, iV n63])] fun l704 l705 => asC A l705 fun x706 l707 => bif (x706.1.beq 0) then (aI A x706.2 fun n710 l709 => aI A l709 fun n713 l712 => aI A l712 fun n716 l715 => aI A l715 fun n719 l718 => aI A l718 fun n722 l721 => aI A l721 fun n725 l724 => aI A l724 fun n728 l727 => aI A l727 fun n731 l730 => aI A l730 fun n734 l733 => aI A l733 fun n737 l736 => aI A l736 fun n740 l739 => aI A l739 fun n743 l742 => aI A l742 fun n746 l745 => aS A l745 fun l749 l748 => aL A 1 l748 fun l752 l751 => aL A 5 l751 fun l755 l754 => aI A l754 fun n758 l757 => aU A 2 l757 fun l761 l760 => aI A l760 fun n764 l763 => aI A l763 fun n767 l766 => asN A l766 (aU A 5 l704 fun l770 l769 => aI A l769 fun n773 l772 => aB A l772 fun b776 l775 => asN A l775 (asN A l707 (bif (!b776) then (bif (l761.all AV.flat) then (kc [bool false] [(0, [iV n710, iV n713, iV n716, iV n719, iV n722, iV n725, iV n728, iV n731, iV n734, iV n737, iV n740, iV n743, iV n746, str l749, lst .ro 1 l752, lst .ro 5 l755, iV n758, lst .uq 2 l761, iV n764, iV n767])]) else A.fail) else (dbl A (bif (l71.all AV.flat) then (bif (l770.all AV.flat) then (A.call 102 [lst .uq 5 l71, iV n767, iV (IntKind.i64.wrap (n767 + n773)), lst .uq 5 l770] [] fun l777 l778 => z2p A x v l p e kc l777 l778 n764 l761 n710 n713 n716 n719 n722 n725 n728 n731 n734 n737 n740 n743 n746 l749 l752 l755 n758 n767) else A.fail) else A.fail)))))) else A.fail) else A.fail))))))) else A.fail) else A.fail) else A.fail
noncomputable def z8o {α : Type} (A : Alg α) (s : Sch) (x : Stp) (kc : List AV → List (Nat × List AV) → α) (l332 : List AV) (n329 : Int) : α :=
  bif (l332.all AV.flat) then (A.callx 11 [agg [iV n329, lst .ro 2 l332]] fun l342 => aB A l342 fun b345 l344 => asN A l344 (bif (!b345) then (kc [agg [iV 0, lst .ro 2 []], iV 7] []) else (kc [agg [iV n329, lst .ro 2 l332], iV 0] []))) else A.fail
noncomputable def z2y {α : Type} (A : Alg α) (s : Sch) (x : Stp) (kc : List AV → List (Nat × List AV) → α) (l93 : List AV) (l94 : List (Nat × List AV)) (n75 : Int) : α :=
  aU A 2 l93 fun l97 l96 => asN A l96 (asN A l94 (z8o A s x kc l97 n75))
noncomputable def zde {α : Type} (A : Alg α) (s : Sch) (x : Stp) (kc : List AV → List (Nat × List AV) → α) (l78 : List AV) (n81 : Int) (n75 : Int) : α :=
  A.both (A.call 65 [lst .ro 5 (map fldV x.fields)] [] fun l88 l89 => aU A 5 l88 fun l92 l91 => asN A l91 (asN A l89 (bif (l92.all AV.flat) then (bif (l78.all AV.flat) then (A.call 68 [lst .uq 2 l78, iV n81, lst .uq 2 [agg [iV x.form, lst .ro 5 l92]]] [] fun l93 l94 => z2y A s x kc l93 l94 n75) else A.fail) else A.fail))) (A.call 65 [lst .ro 5 (map fldV x.fields)] [] fun l102 l103 => aU A 5 l102 fun l106 l105 => asN A l105 (asN A l103 (bif (l106.all AV.flat) then (dbl A (bif (l78.all AV.flat) then (A.call 68 [lst .uq 2 l78, iV n81, lst .uq 2 [agg [iV x.form, lst .ro 5 l106]]] [] fun l107 l108 => z2y A s x kc l107 l108 n75) else A.fail)) else A.fail)))
noncomputable def s_gOn {α : Type} (A : Alg α) (s : Sch) (x : Stp) (kc : List AV → List (Nat × List AV) → α) : α :=
  A.join (fun x0 => A.callx 11 [agg [iV s.ver, lst .ro 2 (map frmV s.forms)]] fun l1 => aB A l1 fun b4 l3 => asN A l3 (bif (!b4) then (x0 true) else (A.callx 66 [agg [iV x.op, iV x.form, iV x.field, iV x.place, iV x.to, iV x.a, iV x.b, iV x.f.id, iV x.f.kind, iV x.f.lo, iV x.f.hi, iV x.f.most, iV x.n, str x.s, lst .ro 1 (map (fun n => iV n) x.t), lst .ro 5 (map fldV x.fields)]] fun l5 => aB A l5 fun b8 l7 => asN A l7 (bif (!b8) then (x0 true) else (bif (decide (x.op < (1 : Int))) then (x0 true) else (x0 (decide (x.op > (10 : Int))))))))) fun b9 => bif b9 then (kc [agg [iV 0, lst .ro 2 []], iV 2] []) else (A.call 42 [agg [iV s.ver, lst .ro 2 (map frmV s.forms)]] [] fun l10 l11 => aA A l10 fun l14 l13 => aI A l14 fun n17 l16 => aU A 2 l16 fun l20 l19 => asN A l19 (asN A l13 (asN A l11 (bif (l20.all AV.flat) then (A.call 67 [ref 0 0] [(0, [iV x.op, iV x.form, iV x.field, iV x.place, iV x.to, iV x.a, iV x.b, iV x.f.id, iV x.f.kind, iV x.f.lo, iV x.f.hi, iV x.f.most, iV x.n, str x.s, lst .ro 1 (map (fun n => iV n) x.t), lst .ro 5 (map fldV x.fields), iV n17, lst .uq 2 l20, iV 0, iV 0])] fun l21 l22 => asC A l22 fun x23 l24 => bif (x23.1.beq 0) then (aI A x23.2 fun n27 l26 => aI A l26 fun n30 l29 => aI A l29 fun n33 l32 => aI A l32 fun n36 l35 => aI A l35 fun n39 l38 => aI A l38 fun n42 l41 => aI A l41 fun n45 l44 => aI A l44 fun n48 l47 => aI A l47 fun n51 l50 => aI A l50 fun n54 l53 => aI A l53 fun n57 l56 => aI A l56 fun n60 l59 => aI A l59 fun n63 l62 => aS A l62 fun l66 l65 => aL A 1 l65 fun l69 l68 => aL A 5 l68 fun l72 l71 => aI A l71 fun n75 l74 => aU A 2 l74 fun l78 l77 => aI A l77 fun n81 l80 => aI A l80 fun n84 l83 => asN A l83 (aI A l21 fun n87 l86 => asN A l86 (asN A l24 (bif (n87 != (0 : Int)) then (kc [agg [iV 0, lst .ro 2 []], iV n87] []) else (bif (x.op == (9 : Int)) then (A.both (zde A s x kc l78 n81 n75) (A.both (zde A s x kc l78 n81 n75) (A.call 65 [lst .ro 5 (map fldV x.fields)] [] fun l162 l163 => aU A 5 l162 fun l166 l165 => asN A l165 (asN A l163 (bif (l166.all AV.flat) then (A.both (dbl A (bif (l78.all AV.flat) then (A.call 68 [lst .uq 2 l78, iV n81, lst .uq 2 [agg [iV x.form, lst .ro 5 l166]]] [] fun l167 l168 => z2y A s x kc l167 l168 n75) else A.fail)) (A.both (dbl A (bif (l78.all AV.flat) then (A.call 68 [lst .uq 2 l78, iV n81, lst .uq 2 [agg [iV x.form, lst .ro 5 l166]]] [] fun l185 l186 => z2y A s x kc l185 l186 n75) else A.fail)) (dbl A (bif (l78.all AV.flat) then (A.call 68 [lst .uq 2 l78, iV n81, lst .uq 2 [agg [iV x.form, lst .ro 5 l166]]] [] fun l203 l204 => z2y A s x kc l203 l204 n75) else A.fail)))) else A.fail))))) else (bif (x.op == (10 : Int)) then (A.both (dbl A (bif (l78.all AV.flat) then (A.call 69 [lst .uq 2 l78, iV n81, iV (IntKind.i64.wrap (n81 + (1 : Int)))] [] fun l221 l222 => z2y A s x kc l221 l222 n75) else A.fail)) (dbl A (dbl A (bif (l78.all AV.flat) then (A.call 69 [lst .uq 2 l78, iV n81, iV (IntKind.i64.wrap (n81 + (1 : Int)))] [] fun l239 l240 => z2y A s x kc l239 l240 n75) else A.fail)))) else (bif (l78.all AV.flat) then (A.call 70 [ref 0 0] [(0, [iV n27, iV n30, iV n33, iV n36, iV n39, iV n42, iV n45, iV n48, iV n51, iV n54, iV n57, iV n60, iV n63, str l66, lst .ro 1 l69, lst .ro 5 l72, iV n75, lst .uq 2 l78, iV n81, iV n84])] fun l275 l276 => asC A l276 fun x277 l278 => bif (x277.1.beq 0) then (aI A x277.2 fun n281 l280 => aI A l280 fun n284 l283 => aI A l283 fun n287 l286 => aI A l286 fun n290 l289 => aI A l289 fun n293 l292 => aI A l292 fun n296 l295 => aI A l295 fun n299 l298 => aI A l298 fun n302 l301 => aI A l301 fun n305 l304 => aI A l304 fun n308 l307 => aI A l307 fun n311 l310 => aI A l310 fun n314 l313 => aI A l313 fun n317 l316 => aS A l316 fun l320 l319 => aL A 1 l319 fun l323 l322 => aL A 5 l322 fun l326 l325 => aI A l325 fun n329 l328 => aU A 2 l328 fun l332 l331 => aI A l331 fun n335 l334 => aI A l334 fun n338 l337 => asN A l337 (aB A l275 fun b341 l340 => asN A l340 (asN A l278 (bif (!b341) then (kc [agg [iV 0, lst .ro 2 []], iV 17] []) else (z8o A s x kc l332 n329))))) else A.fail) else A.fail))))))) else A.fail) else A.fail))))
noncomputable def zsr {α : Type} (A : Alg α) (s : Sch) (l : List Stp) (kc : List AV → List (Nat × List AV) → α) : α :=
  A.call 42 [agg [iV s.ver, lst .ro 2 (map frmV s.forms)]] [] fun l0 l1 => aA A l0 fun l4 l3 => aI A l4 fun n7 l6 => aU A 2 l6 fun l10 l9 => asN A l9 (asN A l3 (asN A l1 (bif (l10.all AV.flat) then (A.loop 3 [lst .ro 16 (map stpV l), iV (↑(map stpV l).length : Int), iV 0] [[iV 0, lst .ro 2 []], [iV n7, lst .ro 2 l10]] fun j11 l12 l13 => bif (j11.beq 0) then (aI A l12 fun n16 l15 => aI A l15 fun n19 l18 => asN A l18 (asC A l13 fun l20 l21 => aI A l20 fun n24 l23 => aL A 2 l23 fun l27 l26 => asN A l26 (asN A l21 (kc [agg [iV n24, lst .ro 2 l27], iV n16, iV n19] [])))) else (bif (j11.beq 1) then (asN A l12 (asC A l13 fun l28 l29 => aI A l28 fun n32 l31 => aL A 2 l31 fun l35 l34 => asN A l34 (asC A l29 fun l36 l37 => aI A l36 fun n40 l39 => aL A 2 l39 fun l43 l42 => asN A l42 (asN A l37 (kc [agg [iV n40, lst .ro 2 l43], iV 0, iV 0] []))))) else A.fail)) else A.fail)))
noncomputable def zg4 {α : Type} (A : Alg α) (l : List Stp) (s : Sch) (m : Int) (i : Int) (next : List AV → List (List AV) → α) (kc : Nat → List AV → List (List AV) → α) : α :=
  bif (decide (i < m)) then (A.chk (decide ((0 : Int) ≤ i)) (nthE A (map stpV l) i.toNat fun v0 => asA A v0 fun l1 => aI A l1 fun n4 l3 => aI A l3 fun n7 l6 => aI A l6 fun n10 l9 => aI A l9 fun n13 l12 => aI A l12 fun n16 l15 => aI A l15 fun n19 l18 => aI A l18 fun n22 l21 => aI A l21 fun n25 l24 => aI A l24 fun n28 l27 => aI A l27 fun n31 l30 => aI A l30 fun n34 l33 => aI A l33 fun n37 l36 => aI A l36 fun n40 l39 => aS A l39 fun l43 l42 => aL A 1 l42 fun l46 l45 => aL A 5 l45 fun l49 l48 => asN A l48 (A.callx 43 [agg [iV s.ver, lst .ro 2 (map frmV s.forms)], agg [iV n4, iV n7, iV n10, iV n13, iV n16, iV n19, iV n22, iV n25, iV n28, iV n31, iV n34, iV n37, iV n40, str l43, lst .ro 1 l46, lst .ro 5 l49]] fun l50 => aA A l50 fun l53 l52 => aI A l53 fun n56 l55 => aL A 2 l55 fun l59 l58 => asN A l58 (aI A l52 fun n62 l61 => asN A l61 (bif (n62 != (0 : Int)) then (kc 0 [iV i, iV n62] [[iV 0, lst .ro 2 []]]) else (next [lst .ro 16 (map stpV l), iV m, iV (IntKind.i64.wrap (i + (1 : Int)))] [[iV 0, lst .ro 2 []], [iV n56, lst .ro 2 l59]])))))) else (kc 1 [] [[iV 0, lst .ro 2 []], [iV s.ver, lst .ro 2 (map frmV s.forms)]])
theorem zwl (l : List Fld) {r : CR} (h : zdc (OA (tbl E0) (ltbl E0 65 0)) l (fun r o => some (r, o)) = some r) : tbl E0 65 [fldsV l] [] = some r :=
  tblF Tryz.func65 h
theorem zss (s : Sch) {r : CR} (h : zhr (OA (tbl E0) (ltbl E0 42 0)) s (fun r o => some (r, o)) = some r) : tbl E0 42 [schV s] [] = some r :=
  tblF Tryz.func42 h
theorem zf3 (l : List Frm) (v : Int) (d : List Frm) (m i : Int) {r : LR} (h : z8m (OA (tbl E0) (ltbl E0 42 0)) l v d m i (fun vs os => ltbl E0 42 0 3 vs os) (fun j vs os => some (j, vs, os)) = some r) : ltbl E0 42 0 3 [frmsV l, iV m, iV i] [[iV 0, frmsV []], [iV v, frmsU d]] = some r :=
  ltblF Tryz.func42 h
theorem zz6 (x : Stp) (v : Int) (l : List Frm) (p e : Int) {r : CR} (h : zox (OA (tbl E0) (ltbl E0 93 0)) x v l p e (fun r o => some (r, o)) = some r) : tbl E0 93 [.ref 0 0] [(0, madO x v l p e)] = some r :=
  tblF Tryz.func93 h
theorem zlk (x : Stp) (v : Int) (l : List Frm) (p e : Int) {r : LR} (h : zdd (OA (tbl E0) (ltbl E0 93 0)) x v l p e (fun vs os => ltbl E0 93 0 2 vs os) (fun j vs os => some (j, vs, os)) = some r) : ltbl E0 93 0 2 [] [madO x v l p e] = some r :=
  ltblF Tryz.func93 h
theorem zdf (x : Stp) (v : Int) (l : List Frm) (p e : Int) {r : CR} (h : z8n (OA (tbl E0) (ltbl E0 67 0)) x v l p e (fun r o => some (r, o)) = some r) : tbl E0 67 [.ref 0 0] [(0, madO x v l p e)] = some r :=
  tblF Tryz.func67 h
theorem zst (x : Stp) (v : Int) (l : List Frm) (p e : Int) (g : Frm) (n : Int) {r : LR} (h : zhs (OA (tbl E0) (ltbl E0 67 0)) x v l p e g n (fun vs os => ltbl E0 67 0 1000020 vs os) (fun j vs os => some (j, vs, os)) = some r) : ltbl E0 67 0 1000020 [iV n] [madO x v l p e, [iV g.id, fldsV g.fields]] = some r :=
  ltblF Tryz.func67 h
theorem zsu (x : Stp) (v : Int) (l : List Frm) (p e : Int) {r : CR} (h : zht (OA (tbl E0) (ltbl E0 97 0)) x v l p e (fun r o => some (r, o)) = some r) : tbl E0 97 [.ref 0 0] [(0, madO x v l p e)] = some r :=
  tblF Tryz.func97 h
theorem z11f (x : Stp) (v : Int) (l : List Frm) (p e : Int) {r : CR} (h : zsq (OA (tbl E0) (ltbl E0 98 0)) x v l p e (fun r o => some (r, o)) = some r) : tbl E0 98 [.ref 0 0] [(0, madO x v l p e)] = some r :=
  tblF Tryz.func98 h
theorem zsv (f : Fld) (a b : Int) {r : CR} (h : zhu (OA (tbl E0) (ltbl E0 118 0)) f a b (fun r o => some (r, o)) = some r) : tbl E0 118 [fldV f, iV a, iV b] [] = some r :=
  tblF Tryz.func118 h
theorem zwm (f g : Fld) {r : CR} (h : zlj (OA (tbl E0) (ltbl E0 117 0)) f g (fun r o => some (r, o)) = some r) : tbl E0 117 [fldV f, fldV g] [] = some r :=
  tblF Tryz.func117 h
theorem zhv (x : Stp) (v : Int) (l : List Frm) (p e : Int) {r : CR} (h : zb2 (OA (tbl E0) (ltbl E0 101 0)) x v l p e (fun r o => some (r, o)) = some r) : tbl E0 101 [.ref 0 0] [(0, madO x v l p e)] = some r :=
  tblF Tryz.func101 h
theorem zhw (x : Stp) (v : Int) (l : List Frm) (p e : Int) {r : CR} (h : zb3 (OA (tbl E0) (ltbl E0 70 0)) x v l p e (fun r o => some (r, o)) = some r) : tbl E0 70 [.ref 0 0] [(0, madO x v l p e)] = some r :=
  tblF Tryz.func70 h
theorem t_gOn (s : Sch) (x : Stp) {r : CR} (h : s_gOn (OA (tbl E0) (ltbl E0 43 0)) s x (fun r o => some (r, o)) = some r) : tbl E0 43 [schV s, stpV x] [] = some r :=
  tblF Tryz.func43 h
theorem z11g (s : Sch) (l : List Stp) {r : CR} (h : zsr (OA (tbl E0) (ltbl E0 26 0)) s l (fun r o => some (r, o)) = some r) : tbl E0 26 [schV s, stpsV l] [] = some r :=
  tblF Tryz.func26 h
theorem zoy (l : List Stp) (s : Sch) (m i : Int) {r : LR} (h : zg4 (OA (tbl E0) (ltbl E0 26 0)) l s m i (fun vs os => ltbl E0 26 0 3 vs os) (fun j vs os => some (j, vs, os)) = some r) : ltbl E0 26 0 3 [stpsV l, iV m, iV i] [[iV 0, frmsV []], [iV s.ver, frmsV s.forms]] = some r :=
  ltblF Tryz.func26 h
end Go.Proofs.YtjkjhgfiaodgmaaGreat.V
namespace Go.Proofs.YtjkjhgfiaodgmaaGreat.V
open Go
set_option maxRecDepth 20000 in
theorem zg5 (op : Int) : tbl E0 83 [iV op] [] = some ([intsV (usesS op)], []) := by
  refine z4j (p := fun op => tbl E0 83 [iV op] [] = some ([intsV (usesS op)], [])) op ?_ ?_
  · intro o ho
    simp only [opsL, List.mem_cons, List.not_mem_nil, or_false] at ho
    rcases ho with rfl | rfl | rfl | rfl | rfl | rfl | rfl | rfl | rfl | rfl | rfl | rfl | rfl | rfl | rfl | rfl | rfl | rfl | rfl | rfl <;> exact z3e.2 ⟨12, by kernel_rfl⟩
  · intro h hu
    simp only [opsL, List.mem_cons, List.not_mem_nil, or_false, not_or] at h; obtain ⟨h1, h2, h3, h4, h5, h6, h7, h8, h9, h10, h11, h12, h13, h14, h15, h16, h17, h18, h19, h20⟩ := h
    have cB : ltbl E0 83 0 1000009 [iV op, .bool false] [] = some (50001, [], []) := zv4 op false (by simp [zk9, h1, h2, h3, h4, h5, h6, h7, h8, h9, h10, h11, h12, h13, h14, h15, h16, h17, h18, h19, h20])
    have cA : ltbl E0 83 0 1000004 [iV op, .bool false] [] = some (50001, [], []) := zv3 op false (by
      have : (op == 23) = false := beq_f h13; simp [zk8, h1, h2, h3, this, cB])
    have : (op == 22) = false := beq_f h12
    exact zye op (by simp [zo3, h1, this, cA, hu])
set_option maxRecDepth 20000 in
theorem zoz (op : Int) : ∃ s : List UInt8, tbl E0 73 [iV op] [] = some ([.str s], []) ∧ s = (usesS op).map (fun p => if p = 0 then 102 else if p = 1 then 100 else if p = 2 then 112 else if p = 3 then 116 else if p = 4 then 97 else if p = 5 then 98 else if p = 6 then 70 else if p = 7 then 86 else if p = 8 then 84 else 76) := by
  refine ⟨_, ?_, rfl⟩
  refine z4j (p := fun op => tbl E0 73 [iV op] [] = some ([.str ((usesS op).map (fun p => if p = 0 then 102 else if p = 1 then 100 else if p = 2 then 112 else if p = 3 then 116 else if p = 4 then 97 else if p = 5 then 98 else if p = 6 then 70 else if p = 7 then 86 else if p = 8 then 84 else 76))], [])) op ?_ ?_
  · intro o ho
    simp only [opsL, List.mem_cons, List.not_mem_nil, or_false] at ho
    rcases ho with rfl | rfl | rfl | rfl | rfl | rfl | rfl | rfl | rfl | rfl | rfl | rfl | rfl | rfl | rfl | rfl | rfl | rfl | rfl | rfl <;> exact z3e.2 ⟨12, by kernel_rfl⟩
  · intro h hu
    simp only [opsL, List.mem_cons, List.not_mem_nil, or_false, not_or] at h; obtain ⟨h1, h2, h3, h4, h5, h6, h7, h8, h9, h10, h11, h12, h13, h14, h15, h16, h17, h18, h19, h20⟩ := h
    have cB : ltbl E0 73 0 1000009 [iV op, .bool false] [] = some (50001, [], []) := zva op false (by simp [zkf, h1, h2, h3, h4, h5, h6, h7, h8, h9, h10, h11, h12, h13, h14, h15, h16, h17, h18, h19, h20])
    have cA : ltbl E0 73 0 1000004 [iV op, .bool false] [] = some (50001, [], []) := zv9 op false (by
      have : (op == 23) = false := beq_f h13; simp [zke, h1, h2, h3, this, cB])
    have : (op == 22) = false := beq_f h12
    exact zyi op (by simp [zo7, h1, this, cA, hu])
theorem c_tin (n lo hi : Int) : tbl E0 109 [iV n, iV lo, iV hi] [] = some ([.bool (inS n lo hi)], []) := t_tin n lo hi (by
  by_cases h : lo ≤ n <;> simp [s_tin, inS, h])
theorem z8p (n lo hi : Int) : tbl E0 75 [iV n, iV lo, iV hi] [] = some ([.bool (inS n lo hi)], []) := zq2 n lo hi (by
  by_cases h : lo ≤ n <;> simp [zee, inS, h])
theorem zqe (f : Fld) : ∃ hi, tbl E0 105 [fldV f] [] = some ([iV (loS f), iV hi], []) ∧ (rgtS f = true → hi = hiS f) := by
  by_cases h : f.kind = 3 → rgtS f = true
  · exact ⟨_, z6s f h, fun _ => rfl⟩
  · rw [Classical.not_imp] at h
    refine ⟨_, zgv f (by simp [z9v, h.1, loS]; rfl), fun hr => absurd hr h.2⟩
theorem zsw (f : Fld) (n : Int) (s : List UInt8) : tbl E0 110 [fldV f, .agg [iV n, .str s]] [] = some ([.bool (hasV f n s)], []) := by
  obtain ⟨hi, hb, hh⟩ := zqe f; have c := z3w f; refine z10q f n s ?_; simp only [zro, z9, cond_true, za, hb, c, Option.bind_some, u_asC, u_asI, u_asB, u_asN, zk, zb, hasV, longestS, inS]
  by_cases hr : rgtS f = true
  · have := hh hr
    subst this
    by_cases k : f.kind = 4 <;> by_cases a : loS f ≤ n <;> by_cases b : n ≤ hiS f <;> simp [hr, k, a, b]
  · have hr : rgtS f = false := by simpa using hr
    by_cases k : f.kind = 4 <;> simp [hr, k]
theorem zsx (f : Fld) (n : Int) (s : List UInt8) : tbl E0 78 [fldV f, .agg [iV n, .str s]] [] = some ([.bool (hasV f n s)], []) := by
  obtain ⟨lo, hi, most, hb, hh⟩ := z7k f; refine z10r f n s ?_; simp only [zrp, z9, cond_true, za, hb, Option.bind_some, u_asC, u_asI, u_asB, u_asN, zk, zb, hasV, longestS, inS]
  by_cases hr : rgtS f = true
  · obtain ⟨rfl, rfl, rfl⟩ := hh hr
    by_cases k : f.kind = 4 <;> by_cases a : loS f ≤ n <;> by_cases b : n ≤ hiS f <;> simp [hr, k, a, b]
  · have hr : rgtS f = false := by simpa using hr
    simp [hr]
theorem zsy (a b : List Int) (hl : a.length ≤ 211106232532992) (hab : a.length = b.length) : ∀ (r r' : List Int) (i : Nat), a.drop i = r → b.drop i = r' →
    ltbl E0 64 0 4 [intsV a, intsV b, iV a.length, iV i] [] = some (if r = r' then (1, [], []) else (0, [.bool false], [])) := by
  intro r
  induction r with
  | nil =>
    intro r' i hr hr'
    have h : a.length ≤ i := by simpa using hr
    have : r' = [] := by rw [← hr']; simp; omega
    subst this; refine zh1 _ _ _ _ ?_
    have : ¬ ((i : Int) < a.length) := by omega
    simp [za4, this]
  | cons x r ih =>
    intro r' i hr hr'; obtain ⟨hlt, hget, hr2⟩ := zl hr
    cases r' with
    | nil => simp at hr'; omega
    | cons y r' =>
      obtain ⟨_, hget', hr2'⟩ := zl hr'
      have h2 : (i : Int) < a.length := by omega
      have e1 := zh (i := i) (by omega)
      have h := ih r' (i + 1) hr2 hr2'; refine zh1 _ _ _ _ ?_; simp only [za4, zb, List.length_map, h2, decide_true, cond_true, z9, Int.natCast_nonneg, nthE, Int.toNat_natCast, List.getElem?_map, hget, hget', Option.map_some, u_asA, u_asC, u_asI, u_asB, u_asL, u_asN, e1, h]
      by_cases e : x = y
      · simp [e]
      · simp [e]
theorem zwn (a b : List Int) (h : a.length ≤ 211106232532992) : tbl E0 64 [intsV a, intsV b] [] = some ([.bool (decide (a = b))], []) :=
  zv8 a b (by
    simp only [zkd, zb, List.length_map, ze]
    by_cases hab : a.length = b.length
    · have e := zsy a b h hab a b 0 rfl rfl
      simp only [Int.natCast_zero] at e
      have h' : ((a.length : Int) != (b.length : Int)) = false := by rw [hab]; simp
      rw [h', cond_false, e]
      by_cases e2 : a = b <;> simp [e2]
    · have : ¬ (a = b) := fun e => hab (by rw [e])
      have h' : ((a.length : Int) != (b.length : Int)) = true := bne_t (by omega)
      rw [h']; simp [this])
def freshI (below : Int) : List Bool → List Int → Bool
  | _, [] => true
  | s, n :: l => inS n 0 (below - 1) && !((s[n.toNat]?).getD false) && freshI below (s.set n.toNat true) l
theorem zsz (l : List Int) (below : Int) (hb : 1 ≤ below ∧ below ≤ 1000) (hl : l.length ≤ 211106232532992) : ∀ (r : List Int) (i : Nat) (s : List Bool), l.drop i = r → s.length = 1000 →
    ltbl E0 111 0 3 [intsV l, iV below, intsV l, iV l.length, iV i] [s.map AV.bool] = some (if freshI below s r then (1, [intsV l], []) else (0, [.bool false], [])) := by
  intro r
  induction r with
  | nil =>
    intro i s hr hs
    have h : l.length ≤ i := by simpa using hr
    refine zgz _ _ _ _ _ ?_
    have : ¬ ((i : Int) < l.length) := by omega
    simp [za2, this, freshI]
  | cons f r ih =>
    intro i s hr hs; obtain ⟨hlt, hget, hr2⟩ := zl hr
    have h2 : (i : Int) < l.length := by omega
    have e1 := zh (i := i) (by omega)
    have h := ih (i + 1) (s.set f.toNat true) hr2 (by simpa using hs)
    have w : IntKind.i64.wrap (below - 1) = below - 1 := wrap_i64 _ (by omega) (by omega)
    have c := c_tin f 0 (below - 1); refine zgz _ _ _ _ _ ?_; simp only [za2, h2, decide_true, cond_true, z9, Int.natCast_nonneg, nthE, Int.toNat_natCast, List.getElem?_map, hget, Option.map_some, u_asA, u_asC, u_asI, u_asB, u_asN, za, zk, w, c, Option.bind_some, e1, freshI]
    by_cases hg : inS f 0 (below - 1) = true
    · have rr : 0 ≤ f ∧ f ≤ below - 1 := by simpa [inS] using hg
      have hk : f.toNat < s.length := by omega
      have g : s[f.toNat]? = some s[f.toNat] := List.getElem?_eq_getElem hk; have a1 : 0 ≤ f := rr.1
      have a2 : f < ((1000 : Nat) : Int) := by omega
      have a3 : 0 + f.toNat * 1 = f.toNat := by omega
      have a4 : (f.toNat + 1).ble (List.map AV.bool s).length = true := by rw [Nat.ble_eq, List.length_map]; omega
      simp only [hg, a1, a2, a3, a4, decide_true, Bool.and_self, cond_true, g, Option.map_some, u_asB, Bool.not_true, cond_false, Option.bind_some, Tok.untok_tok, zem, z8w, h, Option.getD_some, Bool.true_and]
      by_cases hb : s[f.toNat] = true
      · simp [hb]
      · have hb : s[f.toNat] = false := by simpa using hb
        simp [hb]
    · have hg : inS f 0 (below - 1) = false := by simpa using hg
      simp [hg]
theorem zf4 (below : Int) (hb : below ≤ 1000) : ∀ (l : List Int) (s : List Bool), s.length = 1000 → (freshI below s l = true ↔ (∀ n ∈ l, inS n 0 (below - 1) = true ∧ s[n.toNat]? = some false) ∧ nodupI l = true)
  | [], s, _ => by simp [freshI, nodupI]
  | f :: l, s, hs => by
    have ih := zf4 below hb l (s.set f.toNat true) (by simpa using hs)
    simp only [freshI, Bool.and_eq_true, ih, nodupI, Bool.not_eq_true', List.mem_cons, forall_eq_or_imp]
    have rng : ∀ {n : Int}, inS n 0 (below - 1) = true → 0 ≤ n ∧ n < 1000 := fun {n} h => by
      have : 0 ≤ n ∧ n ≤ below - 1 := by simpa [inS] using h
      omega
    have key : inS f 0 (below - 1) = true → ((s[f.toNat]?).getD false = false ↔ s[f.toNat]? = some false) := by
      intro hg; have rr := rng hg
      have hk : f.toNat < s.length := by omega
      rw [List.getElem?_eq_getElem hk]; simp
    have key2 : inS f 0 (below - 1) = true → ∀ g, inS g 0 (below - 1) = true → ((s.set f.toNat true)[g.toNat]? = some false ↔ (s[g.toNat]? = some false ∧ g ≠ f)) := by
      intro hg g hgg; have r1 := rng hg; have r2 := rng hgg; rw [List.getElem?_set]
      by_cases e : f.toNat = g.toNat
      · have e' : g = f := by omega
        rw [if_pos e, if_pos (by omega)]
        simp [e']
      · have e' : g ≠ f := by omega
        rw [if_neg e]; simp [e']
    constructor
    · rintro ⟨⟨h1, h2⟩, h3, h4⟩
      refine ⟨⟨⟨h1, (key h1).1 h2⟩, fun g hg => ⟨(h3 g hg).1, ((key2 h1 g (h3 g hg).1).1 (h3 g hg).2).1⟩⟩, ?_, h4⟩; simp only [List.any_eq_false, beq_iff_eq]; intro g hg; exact ((key2 h1 g (h3 g hg).1).1 (h3 g hg).2).2
    · rintro ⟨⟨⟨h1, h2⟩, h3⟩, h4, h5⟩
      refine ⟨⟨h1, (key h1).2 h2⟩, fun g hg => ⟨(h3 g hg).1, (key2 h1 g (h3 g hg).1).2 ⟨(h3 g hg).2, ?_⟩⟩, h5⟩; simp only [List.any_eq_false, beq_iff_eq] at h4; exact h4 g hg
theorem zwo (below : Int) (hb : below ≤ 1000) (l : List Int) : freshI below (List.replicate 1000 false) l = ((l.all fun n => inS n 0 (below - 1)) && nodupI l) := by
  rw [Bool.eq_iff_iff, zf4 _ hb _ _ List.length_replicate]; simp only [Bool.and_eq_true, List.all_eq_true]; constructor
  · rintro ⟨h1, h2⟩; exact ⟨fun f hf => (h1 f hf).1, h2⟩
  · rintro ⟨h1, h2⟩
    refine ⟨fun f hf => ⟨h1 f hf, ?_⟩, h2⟩
    have r : 0 ≤ f ∧ f ≤ below - 1 := by simpa [inS] using h1 f hf
    rw [List.getElem?_replicate, if_pos (by omega)]
theorem zll (l : List Int) (below : Int) (hb : 1 ≤ below ∧ below ≤ 1000) (hl : l.length ≤ 211106232532992) : tbl E0 111 [intsV l, iV below] [] = some ([.bool (apartS l below)], []) :=
  zv6 l below (by
    have e := zsz l below hb hl l 0 (List.replicate 1000 false) rfl List.length_replicate; simp only [Int.natCast_zero, zwo _ hb.2] at e; have c := c_tin (l.length : Int) 1 64
    have e2 : inS (l.length : Int) 1 64 = decide (1 ≤ l.length ∧ l.length ≤ 64) := by
      simp only [inS, Bool.decide_and]
      congr 1 <;> exact decide_eq_decide.2 (by omega)
    simp only [List.map_replicate] at e; simp only [zkb, zb, z9, cond_true, ze, List.length_map, e]
    · unfold apartS
      cases hx : ((l.all fun n => inS n 0 (below - 1)) && nodupI l) with
      | true => simp [c, e2]
      | false => simp)
end Go.Proofs.YtjkjhgfiaodgmaaGreat.V
namespace Go.Proofs.YtjkjhgfiaodgmaaGreat.V
open Go
set_option maxRecDepth 20000 in
theorem zz7 (x : Stp) : tbl E0 92 [stpV x] [] = some ([stpV (onlyS x)], []) := by
  obtain ⟨op, form, field, place, to, a, b, f, n, s, t, fields⟩ := x; refine z4j (p := fun op => tbl E0 92 [stpV ⟨op, form, field, place, to, a, b, f, n, s, t, fields⟩] [] = some ([stpV (onlyS ⟨op, form, field, place, to, a, b, f, n, s, t, fields⟩)], [])) op ?_ ?_
  · intro o ho
    simp only [opsL, List.mem_cons, List.not_mem_nil, or_false] at ho
    rcases ho with rfl | rfl | rfl | rfl | rfl | rfl | rfl | rfl | rfl | rfl | rfl | rfl | rfl | rfl | rfl | rfl | rfl | rfl | rfl | rfl <;> exact z3e.2 ⟨20, by kernel_rfl⟩
  · intro h hu
    have c := zg5 op; rw [hu] at c
    have e2 : ltbl E0 92 0 3 [intsV [], iV 0, iV 0] [stpC ⟨op, form, field, place, to, a, b, f, n, s, t, fields⟩, stpC ⟨0, 0, 0, 0, 0, 0, 0, fld0, 0, [], [], []⟩, stpC ⟨op, 0, 0, 0, 0, 0, 0, fld0, 0, [], [], []⟩] = some (1, [], [stpC ⟨0, 0, 0, 0, 0, 0, 0, fld0, 0, [], [], []⟩, stpC ⟨op, 0, 0, 0, 0, 0, 0, fld0, 0, [], [], []⟩]) := zv5 _ _ _ [] 0 0 (by simp [zka])
    refine zyf _ ?_; simp only [zo4, z9, cond_true, za, c, Option.bind_some, u_asC, u_asL, u_asN, zb, ze, List.map_nil, List.length_nil, Int.natCast_zero, stpC, fld0, intsV, fldsV] at e2 ⊢; rw [e2]; simp [onlyS, hasS, hu, fld0]
theorem wrap0 {a b : Int} (ha : i64 a) (hb : i64 b) : (IntKind.i64.wrap (a - b) == 0) = (a == b) := by
  have : IntKind.i64.wrap (a - b) = (a - b + 9223372036854775808) % 18446744073709551616 - 9223372036854775808 := by rw [IntKind.wrap_i64]
  rw [this, Bool.eq_iff_iff, beq_iff_eq, beq_iff_eq]; unfold i64 at ha hb; omega
theorem zt0 (x y : Stp) : decide (x = y) = ((decide (x.t = y.t) && decide (x.fields = y.fields)) && ((x.op == y.op && (x.form == y.form && (x.field == y.field && (x.place == y.place && (x.to == y.to && (x.a == y.a && x.b == y.b)))))) && (decide (x.f = y.f) && (x.n == y.n && x.s == y.s)))) := by
  obtain ⟨op, form, field, place, to, a, b, f, n, s, t, fields⟩ := x; obtain ⟨op', form', field', place', to', a', b', f', n', s', t', fields'⟩ := y; rw [Bool.eq_iff_iff]; simp only [decide_eq_true_eq, Bool.and_eq_true, beq_iff_eq, Stp.mk.injEq]; constructor
  · rintro ⟨rfl, rfl, rfl, rfl, rfl, rfl, rfl, rfl, rfl, rfl, rfl, rfl⟩; simp
  · rintro ⟨⟨rfl, rfl⟩, ⟨rfl, rfl, rfl, rfl, rfl, rfl, rfl⟩, rfl, rfl, rfl⟩; simp
theorem zp0 (x y : Stp) (hx : x.ok) (hy : y.ok) (hs : x.sml) : tbl E0 41 [stpV x, stpV y] [] = some ([.bool (decide (x = y))], []) :=
  zyh x y (by
    obtain ⟨h1, h2, h3, h4, h5, h6, h7, _⟩ := hx; obtain ⟨g1, g2, g3, g4, g5, g6, g7, _⟩ := hy; have c1 := zwn x.t y.t hs.1; have c2 := zky x.fields y.fields hs.2; simp only [zo6, z9, cond_true, za, c1, c2, Option.bind_some, u_asC, u_asB, u_asN, zk, wrap0 h1 g1, wrap0 h2 g2, wrap0 h3 g3, wrap0 h4 g4, wrap0 h5 g5, wrap0 h6 g6, wrap0 h7 g7, z7l]; simp only [Bool.and_true, zt0]; generalize (x.op == y.op && (x.form == y.form && (x.field == y.field && (x.place == y.place && (x.to == y.to && (x.a == y.a && x.b == y.b)))))) = p
    generalize (x.n == y.n && x.s == y.s) = q
    cases decide (x.t = y.t) <;> cases decide (x.fields = y.fields) <;> cases p <;> cases decide (x.f = y.f) <;> simp)
theorem zz8 (x : Stp) (p : Int) (hp : p = 8 → 1 ≤ (if x.op = 5 then x.a else 1000) ∧ (if x.op = 5 then x.a else 1000) ≤ 1000) (hs : x.sml) : tbl E0 91 [stpV x, iV p] [] = some ([.bool (fitsS x p)], []) := by
  have i1 := c_tin; have i2 := z3w x.f; have i3 := zsw x.f x.n x.s; have i4 := zoe ⟨x.form, x.fields⟩ hs.2; refine zyg x p ?_; unfold zo5 fitsS; simp only [z9, cond_true, zuu, za, zk, zb]
  by_cases h0 : p = 0
  · simp only [h0, if_true, i1, Option.bind_some, u_asC, u_asB, u_asN]
  by_cases h1 : p = 1
  · simp [h1, i1]
  by_cases h2 : p = 2
  · simp [h2, i1]
  by_cases h3 : p = 3
  · simp only [h3, i1]
    cases inS x.to 0 255 <;> by_cases e : x.to = x.field <;> simp [e]
  by_cases h4 : p = 4
  · by_cases ho : x.op = 5
    · cases hi : inS x.a 1 1000 <;> simp [h4, i1, ho, hi]
    · simp [h4, i1, ho]
  by_cases h5 : p = 5
  · cases hi : inS x.a (-1048576) 1048576
    · simp [h5, i1, hi]
    · by_cases ha : x.a = 0
      · rw [ha] at hi; simp [h5, i1, hi, ha]
      · simp [h5, i1, hi, ha]
  by_cases h6 : p = 6
  · by_cases o1 : x.op = 1
    · cases hr : rgtS x.f <;> simp [h6, o1, i2, hr]
    · by_cases o2 : x.op = 22
      · cases hr : rgtS x.f <;> simp [h6, o2, i2, hr]
      · cases hr : rgtS x.f <;> simp [h6, o1, o2, beq_f o2, i2, hr]
  by_cases h7 : p = 7
  · by_cases ho : x.op = 2
    · cases hi : inS x.n (-1099511627776) 1099511627776 <;> simp [h7, ho, i1, hi]
    · simp [h7, ho, i3]
  by_cases h8 : p = 8
  · have hb := hp h8
    simp only [h8]
    by_cases ho : x.op = 5
    · simp only [ho, if_true] at hb ⊢
      have c := zll x.t x.a hb hs.1; simp [c]
    · simp only [ho, if_false] at hb ⊢
      have c := zll x.t 1000 (by omega) hs.1
      simp [c]
  · simp [h0, h1, h2, h3, h4, h5, h6, h7, h8, i4]
end Go.Proofs.YtjkjhgfiaodgmaaGreat.V
namespace Go.Proofs.YtjkjhgfiaodgmaaGreat.V
open Go
theorem zt1 (x : Stp) (hs : x.sml) (l : List Int) (q : List Int) (hl : l.length ≤ 5) (hb : ∀ (i : Nat) (p : Int), l[i]? = some p → p = 8 → (l.take i).all (fitsS x) = true → 1 ≤ (if x.op = 5 then x.a else 1000) ∧ (if x.op = 5 then x.a else 1000) ≤ 1000) : ∀ (r : List Int) (i : Nat), l.drop i = r → (l.take i).all (fitsS x) = true →
    ltbl E0 66 0 3 [intsV q, intsV l, iV l.length, iV i] [stpC x] = some (if r.all (fitsS x) then (1, [intsV q], [stpC x]) else (0, [.bool false], [])) := by
  intro r
  induction r with
  | nil =>
    intro i hr ht
    have h : l.length ≤ i := by simpa using hr
    refine zh0 _ _ _ _ _ ?_
    have : ¬ ((i : Int) < l.length) := by omega
    simp [za3, this]
  | cons p r ih =>
    intro i hr ht; obtain ⟨hlt, hget, hr2⟩ := zl hr
    have h2 : (i : Int) < l.length := by omega
    have e1 := zh (i := i) (by omega)
    have c := zz8 x p (fun h8 => hb i p hget h8 ht) hs; refine zh0 _ _ _ _ _ ?_; simp only [za3, h2, decide_true, cond_true, z9, Int.natCast_nonneg, nthE, Int.toNat_natCast, List.getElem?_map, hget, Option.map_some, u_asA, u_asC, u_asI, u_asB, u_asN, za, c, Option.bind_some, e1]
    cases hf : fitsS x p with
    | false => simp [hf]
    | true =>
      have ht2 : (l.take (i + 1)).all (fitsS x) = true := by
        rw [List.take_add_one, hget]; simp [hf]
        simpa using ht
      have h := ih (i + 1) hr2 ht2; simp only [Bool.not_true, cond_false, h, List.all_cons, hf, Bool.true_and]
theorem zz9 {x : Stp} (hx : x.ok) : (onlyS x).ok := by
  obtain ⟨h1, h2, h3, h4, h5, h6, h7, h8, h9, h10, h11⟩ := hx
  have z : i64 0 := by unfold i64; omega
  unfold onlyS
  refine ⟨h1, ?_, ?_, ?_, ?_, ?_, ?_, ?_, ?_, ?_, ?_⟩ <;> dsimp only <;> split
  all_goals first
    | assumption
    | exact ⟨z, z, z, z, z⟩
    | simp
theorem zlm (x : Stp) (hx : x.ok) (hs : x.sml) : tbl E0 66 [stpV x] [] = some ([.bool (tRightS x)], []) := by
  have c := zg5 x.op; have e := zt1 x hs (usesS x.op) (usesS x.op) (z62 _) (zer x) (usesS x.op) 0 rfl rfl; have c2 := zz7 x; have c3 := zp0 x (onlyS x) hx (zz9 hx) hs; simp only [Int.natCast_zero] at e; refine zv7 x ?_; simp only [zkc, z9, cond_true, za, c, Option.bind_some, u_asC, u_asL, u_asN, zb, ze, List.length_map, tRightS]; simp only [stpC] at e; rw [e]
  cases hf : (usesS x.op).all (fitsS x) with
  | false => simp
  | true =>
    cases hu : usesS x.op with
    | nil => simp
    | cons p l =>
      simp only [stpV, stpC] at c2 c3; simp [c2, c3]
end Go.Proofs.YtjkjhgfiaodgmaaGreat.V
namespace Go.Proofs.YtjkjhgfiaodgmaaGreat.V
open Go
def letterS (p : Int) : Int := if p = 0 then 102 else if p = 1 then 100 else if p = 2 then 112 else if p = 3 then 116 else if p = 4 then 97 else if p = 5 then 98 else if p = 6 then 70 else if p = 7 then 86 else if p = 8 then 84 else 76
set_option maxRecDepth 50000 in
theorem zwp : (opsL.map fun o => [(0 : Int), 1, 2, 3, 4, 5, 6, 7, 8, 9].map fun p => (G E0 12).1 77 [iV o, .int .u8 (letterS p)] []) = (opsL.map fun o => [(0 : Int), 1, 2, 3, 4, 5, 6, 7, 8, 9].map fun p => some ([.bool (hasS o p)], [])) := by kernel_rfl
theorem z4m (op p : Int) (hp : p ∈ [(0 : Int), 1, 2, 3, 4, 5, 6, 7, 8, 9]) : tbl E0 77 [iV op, .int .u8 (letterS p)] [] = some ([.bool (hasS op p)], []) := by
  refine z4j (p := fun op => tbl E0 77 [iV op, .int .u8 (letterS p)] [] = some ([.bool (hasS op p)], [])) op ?_ ?_
  · intro o ho
    have h1 := List.map_inj_left.1 zwp o ho; exact z3e.2 ⟨12, List.map_inj_left.1 h1 p hp⟩
  · intro h hu
    obtain ⟨s, c, hs⟩ := zoz op; rw [hu] at hs; simp only [List.map_nil] at hs; subst hs
    have e : ltbl E0 77 0 3 [.int .u8 (letterS p), .str [], iV 0] [] = some (1, [], []) := zyj _ _ _ (by simp [zo8])
    exact z10s _ _ (by simp [zrq, c, e, hasS, hu])
theorem c_yh (op : Int) : (tbl E0 77 [iV op, .int .u8 100] [] = some ([.bool (hasS op 1)], []) ∧ tbl E0 77 [iV op, .int .u8 112] [] = some ([.bool (hasS op 2)], []) ∧ tbl E0 77 [iV op, .int .u8 116] [] = some ([.bool (hasS op 3)], [])) ∧
    (tbl E0 77 [iV op, .int .u8 97] [] = some ([.bool (hasS op 4)], []) ∧ tbl E0 77 [iV op, .int .u8 98] [] = some ([.bool (hasS op 5)], []) ∧ tbl E0 77 [iV op, .int .u8 70] [] = some ([.bool (hasS op 6)], [])) ∧
    (tbl E0 77 [iV op, .int .u8 86] [] = some ([.bool (hasS op 7)], []) ∧ tbl E0 77 [iV op, .int .u8 84] [] = some ([.bool (hasS op 8)], []) ∧ tbl E0 77 [iV op, .int .u8 76] [] = some ([.bool (hasS op 9)], [])) :=
  ⟨⟨z4m op 1 (by simp), z4m op 2 (by simp), z4m op 3 (by simp)⟩, ⟨z4m op 4 (by simp), z4m op 5 (by simp), z4m op 6 (by simp)⟩, ⟨z4m op 7 (by simp), z4m op 8 (by simp), z4m op 9 (by simp)⟩⟩
theorem zbo (a b : Bool) : (bif a then true else b) = (a || b) := by cases a <;> rfl
theorem z7n (a b : Bool) : (bif a then b else false) = (a && b) := by cases a <;> rfl
theorem zg6 (a b x : Bool) : (bif a then x else (b && x)) = ((a || b) && x) := by cases a <;> simp
theorem zp1 (a b : Bool) : (bif !a then true else b) = (!a || b) := by cases a <;> rfl
theorem zza (x : Stp) : tbl E0 74 [stpV x] [] = some ([.bool (zeroS x)], []) := by
  obtain ⟨⟨h1, h2, h3⟩, ⟨h4, h5, h6⟩, ⟨h7, h8, h9⟩⟩ := c_yh x.op; refine zyk x ?_; have ft : decide (x.f = fld0) = (x.f.id == 0 && (x.f.kind == 0 && (x.f.lo == 0 && (x.f.hi == 0 && (x.f.most == 0 && true))))) := (z7l x.f fld0).symm; simp only [zo9, z9, cond_true, za, h1, h2, h3, h4, h5, h6, h7, h8, h9, Option.bind_some, u_asC, u_asB, u_asN, zk, zb, List.length_map, zeroS, ft]; generalize (x.f.id == 0 && (x.f.kind == 0 && (x.f.lo == 0 && (x.f.hi == 0 && (x.f.most == 0 && true))))) = bf
  have ht : ((x.t.length : Int) == 0) = x.t.isEmpty := by cases x.t <;> simp; omega
  have hl : ((x.fields.length : Int) == 0) = x.fields.isEmpty := by cases x.fields <;> simp; omega
  simp only [z2g, Option.bind_some, Tok.untok_tok, zbo, z7n, zg6, ht, hl, Bool.and_true, Bool.and_assoc]
end Go.Proofs.YtjkjhgfiaodgmaaGreat.V
namespace Go.Proofs.YtjkjhgfiaodgmaaGreat.V
open Go
theorem zt2 (l : List Int) (below : Int) (i : Nat) (n : Int) (hn : l[i]? = some n) (hl : l.length ≤ 211106232532992) : ∀ (d k : Nat), k + d = i →
    ltbl E0 104 0 7 [intsV l, iV below, iV i, iV k] [] = some (if ((l.take i).drop k).any (fun y => y == n) then (0, [.bool false], []) else (3, [intsV l, iV below, iV i], [])) := by
  obtain ⟨hi, _⟩ := List.getElem?_eq_some_iff.1 hn; intro d
  induction d with
  | zero =>
    intro k hk
    have h1 : ¬ ((k : Int) < i) := by omega
    have h2 : (l.take i).drop k = [] := by rw [List.drop_eq_nil_iff, List.length_take]; omega
    exact zh3 _ _ _ _ (by simp [za6, h1, h2])
  | succ d ih =>
    intro k hk
    have h := ih (k + 1) (by omega)
    have h1 : (k : Int) < i := by omega
    have hk2 : k < l.length := by omega
    have e1 := zh (i := k) (by omega)
    have hg : l[k]? = some l[k] := List.getElem?_eq_getElem hk2
    have h2 : (l.take i).drop k = l[k] :: (l.take i).drop (k + 1) := by
      rw [List.drop_eq_getElem_cons (by rw [List.length_take]; omega), List.getElem_take]
    refine zh3 _ _ _ _ ?_; simp only [za6, h1, decide_true, cond_true, z9, Int.natCast_nonneg, nthE, Int.toNat_natCast, List.getElem?_map, hg, hn, Option.map_some, u_asI, e1, h, h2, List.any_cons]
    by_cases hq : l[k] = n <;> simp [hq]
def idxI (below : Int) (l : List Int) : Nat → List Int → Bool
  | _, [] => true
  | i, n :: r => (inS n 0 (below - 1) && !((l.take i).any fun y => y == n)) && idxI below l (i + 1) r
theorem zt3 (l : List Int) (below : Int) (hb : 1 ≤ below ∧ below ≤ 1000) (hl : l.length ≤ 211106232532992) : ∀ (r : List Int) (i : Nat), l.drop i = r →
    ltbl E0 104 0 2 [intsV l, iV below, iV i] [] = some (if idxI below l i r then (1, [intsV l], []) else (0, [.bool false], [])) := by
  intro r
  induction r with
  | nil =>
    intro i hr
    have h : l.length ≤ i := by simpa using hr
    refine zh2 _ _ _ ?_
    have : ¬ ((i : Int) < l.length) := by omega
    simp [za5, this, idxI]
  | cons n r ih =>
    intro i hr; obtain ⟨hlt, hget, hr2⟩ := zl hr
    have h2 : (i : Int) < l.length := by omega
    have e1 := zh (i := i) (by omega)
    have h := ih (i + 1) hr2
    have ew : IntKind.i64.wrap (below - 1) = below - 1 := wrap_i64 _ (by omega) (by omega)
    have c := z8p n 0 (below - 1)
    have c2 := zt2 l below i n hget hl i 0 (by omega)
    simp only [Int.natCast_zero, List.drop_zero] at c2; refine zh2 _ _ _ ?_; simp only [za5, zb, List.length_map, h2, decide_true, cond_true, z9, Int.natCast_nonneg, nthE, Int.toNat_natCast, List.getElem?_map, hget, Option.map_some, u_asC, u_asI, u_asB, u_asN, za, c, ew, Option.bind_some, ze, c2, e1, h, idxI]
    rcases bor (inS n 0 (below - 1)) with hq | hq
    · rcases bor ((l.take i).any (fun y => y == n)) with hp | hp
      · simp [hq, hp]
      · simpa [hq, hp, e1] using h
    · simp [hq]
theorem zln (below : Int) : ∀ (r p : List Int), idxI below (p ++ r) p.length r = true ↔ (∀ n ∈ r, inS n 0 (below - 1) = true ∧ ∀ y ∈ p, y ≠ n) ∧ nodupI r = true
  | [], p => by simp [idxI, nodupI]
  | n :: r, p => by
    have ih := zln below r (p ++ [n]); simp only [List.append_assoc, List.singleton_append, List.length_append, List.length_singleton] at ih; simp only [idxI, Bool.and_eq_true, ih, nodupI, List.mem_cons, forall_eq_or_imp, Bool.not_eq_true', List.any_eq_false, beq_iff_eq, List.mem_append, List.not_mem_nil, or_false, List.take_left']; constructor
    · rintro ⟨⟨h1, h2⟩, h3, h4⟩
      refine ⟨⟨⟨h1, h2⟩, fun y hy => ⟨(h3 y hy).1, fun f hf => (h3 y hy).2 f (Or.inl hf)⟩⟩, fun y hy e => (h3 y hy).2 n (Or.inr rfl) e.symm, h4⟩
    · rintro ⟨⟨⟨h1, h2⟩, h3⟩, h4, h5⟩
      refine ⟨⟨h1, h2⟩, fun y hy => ⟨(h3 y hy).1, ?_⟩, h5⟩
      rintro f (hf | rfl)
      · exact (h3 y hy).2 f hf
      · exact fun e => h4 y hy e.symm
theorem z11h (below : Int) (l : List Int) : idxI below l 0 l = ((l.all fun n => inS n 0 (below - 1)) && nodupI l) := by
  rw [Bool.eq_iff_iff]; have := zln below l []; simp only [List.nil_append, List.length_nil] at this; rw [this]; simp
theorem zlo (l : List Int) (below : Int) (hb : 1 ≤ below ∧ below ≤ 1000) (hl : l.length ≤ 211106232532992) : tbl E0 104 [intsV l, iV below] [] = some ([.bool (apartS l below)], []) :=
  zvb l below (by
    have e := zt3 l below hb hl l 0 rfl; simp only [Int.natCast_zero, z11h] at e; simp only [zkg, ze, e, apartS]
    cases ((l.all fun n => inS n 0 (below - 1)) && nodupI l) with
    | false => simp
    | true =>
      by_cases a : 1 ≤ l.length
      · have a2 : (l.length : Int) ≥ 1 := by omega
        by_cases b : l.length ≤ 64
        · have b2 : (l.length : Int) ≤ 64 := by omega
          simp [a, a2, b, b2]
        · have b2 : ¬ ((l.length : Int) ≤ 64) := by omega
          simp [a, a2, b, b2]
      · have a2 : ¬ ((l.length : Int) ≥ 1) := by omega
        simp [a, a2])
theorem zqf (x : Stp) (hs : x.t.length ≤ 211106232532992) : tbl E0 76 [stpV x] [] = some ([.bool (numbersS x)], []) :=
  zq3 x (by
    have i1 := z8p
    have i3 := zlo x.t 1000 (by omega) hs
    simp only [zef, z9, cond_true, za, zk, i1, i3, Option.bind_some, u_asC, u_asB, u_asN, numbersS]
    by_cases h4 : x.op = 4
    · simp only [h4]
      cases inS x.a (-1048576) 1048576 <;> cases inS x.b (-1099511627776) 1099511627776 <;> by_cases ha : x.a = 0 <;> simp [ha]
    · by_cases h24 : x.op = 24
      · simp only [h24]
        cases inS x.a (-1048576) 1048576 <;> cases inS x.b (-1099511627776) 1099511627776 <;> by_cases ha : x.a = 0 <;> simp [ha]
      · have f4 : (x.op == 4) = false := beq_f h4
        have f24 : (x.op == 24) = false := beq_f h24
        by_cases h6 : x.op = 6
        · simp [h6]
        · have f6 : (x.op == 6) = false := beq_f h6
          by_cases h26 : x.op = 26
          · simp [h26]
          · have f26 : (x.op == 26) = false := beq_f h26
            by_cases h5 : x.op = 5
            · cases hi : inS x.a 1 1000 with
              | false => simp [h5, hi]
              | true =>
                have hb : 1 ≤ x.a ∧ x.a ≤ 1000 := by simpa [inS] using hi
                have i2 := zlo x.t x.a hb hs; simp [h5, hi, i2]
            · have f5 : (x.op == 5) = false := beq_f h5
              by_cases h25 : x.op = 25 <;> simp [h4, h24, h6, h26, h5, h25, f4, f24, f6, f26, f5])
theorem z11i (p q : Bool) : (bif p then some ([AV.bool false], []) else some ([AV.bool q], []) : Option CR) = some ([AV.bool (!p && q)], []) := by cases p <;> rfl
theorem zlp (p a b : Bool) : (bif p then a || b else b) = ((p && a) || b) := by cases p <;> rfl
theorem zhx (x : Stp) (hs : x.sml) : tbl E0 47 [stpV x] [] = some ([.bool (ytRightS x)], []) := by
  obtain ⟨⟨h1, h2, h3⟩, ⟨h4, h5, h6⟩, ⟨h7, h8, h9⟩⟩ := c_yh x.op; obtain ⟨s, cu, hu⟩ := zoz x.op; have cz := zza x; have cn := zqf x hs.1; have cr := zd4 x.f; have ch := zsx x.f x.n x.s; have cf := zof ⟨x.form, x.fields⟩ hs.2
  have he : (s == []) = (usesS x.op).isEmpty := by rw [hu]; cases usesS x.op <;> simp
  refine zrr x ?_; simp only [stpV, stpC, fldV, fldC, frmV, intsV, fldsV] at cz cn cr ch cf; simp only [zgy, z9, cond_true, za, cu, cz, cn, cr, ch, cf, h1, h2, h3, h4, h5, h6, h7, h8, h9, z8p, Option.bind_some, u_asC, u_asB, u_asS, u_asN, zk, zb, he, ytRightS]; simp only [z2g, Option.bind_some, Tok.untok_tok, zbo, z7n, zg6, zp1]
  have e32 : decide ((x.s.length : Int) > 32) = !decide ((x.s.length : Int) ≤ 32) := by
    rw [← decide_not]; exact decide_eq_decide.2 (by omega)
  simp only [zlp, e32, z11i, Bool.not_or, Bool.not_not, Bool.and_assoc, Bool.not_and]
theorem zt4 (x y : Stp) (hl : x.fields.length ≤ 211106232532992) (he : x.fields.length = y.fields.length) : ∀ (r q : List Fld) (i : Nat), x.fields.drop i = r → y.fields.drop i = q →
    ltbl E0 20 0 9 [iV i] [stpC x, stpC y] = some (if r = q then (3, [], []) else (0, [.bool false], [])) := by
  intro r
  induction r with
  | nil =>
    intro q i hr hq
    have h : x.fields.length ≤ i := by simpa using hr
    have h3 : q = [] := by rw [← hq, List.drop_eq_nil_iff]; omega
    have : ¬ ((i : Int) < x.fields.length) := by omega
    subst h3
    exact zh5 _ _ _ (by simp [za8, this])
  | cons f r ih =>
    intro q i hr hq; obtain ⟨hlt, hget, hr2⟩ := zl hr
    have hlt' : i < y.fields.length := by omega
    rw [List.drop_eq_getElem_cons hlt'] at hq; subst hq; have hg2 : y.fields[i]? = some y.fields[i] := List.getElem?_eq_getElem hlt'; generalize y.fields[i] = g at *
    have h2 : (i : Int) < x.fields.length := by omega
    have e1 := zh (i := i) (by omega)
    have h := ih _ (i + 1) hr2 rfl; have hf := z7l f g; refine zh5 _ _ _ ?_; simp only [za8, zb, List.length_map, h2, decide_true, cond_true, z9, Int.natCast_nonneg, nthE, Int.toNat_natCast, List.getElem?_map, hget, hg2, Option.map_some, u_asA, u_asC, u_asI, u_asB, u_asN, e1, hf]
    by_cases e : f = g
    · simp only [e, decide_true, Bool.not_true, cond_false, h, List.cons.injEq, true_and]
    · simp [e]
theorem zt5 (x y : Stp) (hl : x.t.length ≤ 211106232532992) (he : x.t.length = y.t.length) : ∀ (r q : List Int) (i : Nat), x.t.drop i = r → y.t.drop i = q →
    ltbl E0 20 0 4 [iV i] [stpC x, stpC y] = some (if r = q then (1, [], [stpC x, stpC y]) else (0, [.bool false], [])) := by
  intro r
  induction r with
  | nil =>
    intro q i hr hq
    have h : x.t.length ≤ i := by simpa using hr
    have h3 : q = [] := by rw [← hq, List.drop_eq_nil_iff]; omega
    have : ¬ ((i : Int) < x.t.length) := by omega
    subst h3
    exact zh4 _ _ _ (by simp [za7, this])
  | cons f r ih =>
    intro q i hr hq; obtain ⟨hlt, hget, hr2⟩ := zl hr
    have hlt' : i < y.t.length := by omega
    rw [List.drop_eq_getElem_cons hlt'] at hq; subst hq; have hg2 : y.t[i]? = some y.t[i] := List.getElem?_eq_getElem hlt'; generalize y.t[i] = g at *
    have h2 : (i : Int) < x.t.length := by omega
    have e1 := zh (i := i) (by omega)
    have h := ih _ (i + 1) hr2 rfl; refine zh4 _ _ _ ?_; simp only [za7, zb, List.length_map, h2, decide_true, cond_true, z9, Int.natCast_nonneg, nthE, Int.toNat_natCast, List.getElem?_map, hget, hg2, Option.map_some, u_asA, u_asC, u_asI, u_asB, u_asN, e1]
    by_cases e : f = g
    · simp only [e, bne_self_eq_false, cond_false, h, List.cons.injEq, true_and]
    · simp [e]
theorem zlq (x y : Stp) (hs : x.sml) : tbl E0 20 [stpV x, stpV y] [] = some ([.bool (decide (x = y))], []) := by
  refine zvc x y ?_
  have hv : (x.n == y.n && (x.s == y.s && true)) = (x.n == y.n && x.s == y.s) := by simp
  simp only [zkh, z9, cond_true, Option.bind_some, u_asC, u_asB, u_asN, zk, zb, List.length_map, z7l, hv]; simp only [z2g, Option.bind_some, Tok.untok_tok, zbo]
  have ha : decide (x = y) = (!(x.op != y.op || (x.form != y.form || (x.field != y.field || (x.place != y.place || (x.to != y.to || (x.a != y.a || (x.b != y.b || (!decide (x.f = y.f) || (!(x.n == y.n && x.s == y.s) || ((x.t.length : Int) != y.t.length || (x.fields.length : Int) != y.fields.length)))))))))) && (decide (x.t = y.t) && decide (x.fields = y.fields))) := by
    rw [zt0, Bool.eq_iff_iff]
    have h1 : x.t = y.t → (x.t.length : Int) = y.t.length := fun h => by rw [h]
    have h2 : x.fields = y.fields → (x.fields.length : Int) = y.fields.length := fun h => by rw [h]
    simp only [Bool.and_eq_true, Bool.or_eq_true, Bool.not_eq_true', Bool.or_eq_false_iff, Bool.and_eq_false_iff, decide_eq_true_eq, decide_eq_false_iff_not, beq_iff_eq, bne_eq_false_iff_eq, Bool.not_eq_false']
    grind
  rw [ha]
  generalize hq : (x.op != y.op || (x.form != y.form || (x.field != y.field || (x.place != y.place || (x.to != y.to || (x.a != y.a || (x.b != y.b || (!decide (x.f = y.f) || (!(x.n == y.n && x.s == y.s) || ((x.t.length : Int) != y.t.length || (x.fields.length : Int) != y.fields.length)))))))))) = q
  rcases bor q with hb | hb
  · subst hb; rfl
  · rw [hb] at hq
    simp only [Bool.or_eq_false_iff, bne_eq_false_iff_eq] at hq
    have h1 : x.t.length = y.t.length := by have := hq.2.2.2.2.2.2.2.2.2.1; omega
    have h2 : x.fields.length = y.fields.length := by have := hq.2.2.2.2.2.2.2.2.2.2; omega
    have e1 := zt5 x y hs.1 h1 x.t y.t 0 rfl rfl; have e2 := zt4 x y hs.2 h2 x.fields y.fields 0 rfl rfl; simp only [Int.natCast_zero] at e1 e2; subst hb; simp only [cond_false, ze, stpC] at e1 e2 ⊢; rw [e1]
    by_cases c1 : x.t = y.t
    · simp only [c1, if_true, Option.bind_some, Nat.beq, cond_false, cond_true, u_asC, u_asI, u_asS, u_asL, u_asN, ze] at e2 ⊢
      rw [e2]
      by_cases c2 : x.fields = y.fields <;> simp [c2]
    · simp [c1]
def bigT (x : Stp) : Bool := decide (100 < x.t.length) || decide (40 < x.fields.length)
theorem zt6 (l : List Stp) : ∀ (m : Nat) (r : List Stp) (i : Nat), l.drop i = r → i + m = 61 →
    ltbl E0 21 0 2 [stpsV l, iV i] [] = some (if (r.take m).any bigT then (0, [.bool true], []) else (1, [stpsV l], [])) := by
  intro d
  induction d with
  | zero =>
    intro r i hr hm
    have : ¬ ((i : Int) < 61) := by omega
    refine za9 _ _ ?_
    by_cases h : (i : Int) < l.length <;> simp [z6q, this, h]
  | succ d ih =>
    intro r i hr hm
    cases r with
    | nil =>
      have h : l.length ≤ i := by simpa using hr
      have : ¬ ((i : Int) < l.length) := by omega
      exact za9 _ _ (by simp [z6q, this])
    | cons x r =>
      obtain ⟨hlt, hget, hr2⟩ := zl hr
      have h2 : (i : Int) < l.length := by omega
      have h3 : (i : Int) < 61 := by omega
      have e1 := zh (i := i) (by omega)
      have h := ih r (i + 1) hr2 (by omega)
      refine za9 _ _ ?_; simp only [z6q, zb, zk, List.length_map, h2, h3, decide_true, cond_true, z9, Int.natCast_nonneg, nthE, Int.toNat_natCast, List.getElem?_map, hget, Option.map_some, u_asA, u_asC, u_asI, u_asS, u_asL, u_asB, u_asN, Option.bind_some, Tok.untok_tok, e1, h, List.take_succ_cons, List.any_cons]
      by_cases a : 100 < x.t.length
      · have a2 : (x.t.length : Int) > 100 := by omega
        simp [a2, bigT, a]
      · have a2 : ¬ ((x.t.length : Int) > 100) := by omega
        by_cases b : 40 < x.fields.length
        · have b2 : (x.fields.length : Int) > 40 := by omega
          simp [a2, b2, bigT, a, b]
        · have b2 : ¬ ((x.fields.length : Int) > 40) := by omega
          have : bigT x = false := by simp [bigT, a, b]
          simp [a2, b2, this]
def greatT (l : List Stp) : Bool := (l.take 61).any bigT || decide (60 < l.length)
theorem zlr (l : List Stp) : tbl E0 21 [stpsV l] [] = some ([.bool (greatT l)], []) :=
  zvd l (by
    have e := zt6 l 61 l 0 rfl rfl; simp only [Int.natCast_zero] at e; simp only [zki, ze, e, greatT]
    rcases bor ((l.take 61).any bigT) with hb | hb
    · simp [hb]
    · by_cases h : 60 < l.length
      · have : (l.length : Int) > 60 := by omega
        simp [hb, h, this]
      · have : ¬ ((l.length : Int) > 60) := by omega
        simp [hb, h, this])
end Go.Proofs.YtjkjhgfiaodgmaaGreat.V
namespace Go.Proofs.YtjkjhgfiaodgmaaGreat.V
open Go
theorem zwq {x : Stp} (h : bigT x = false) : x.sml := by
  simp only [bigT, Bool.or_eq_false_iff, decide_eq_false_iff_not] at h
  exact ⟨by omega, by omega⟩
end Go.Proofs.YtjkjhgfiaodgmaaGreat.V
namespace Go.Proofs.YtjkjhgfiaodgmaaGreat.V
open Go
theorem z3b (l : List Fld) : (l.map fldV).all AV.flat = true := by
  rw [List.all_eq_true]; intro x hx; obtain ⟨f, _, rfl⟩ := List.mem_map.1 hx; rfl
theorem z13 (l : List Frm) : (l.map frmV).all AV.flat = true := by
  rw [List.all_eq_true]; intro x hx; obtain ⟨f, _, rfl⟩ := List.mem_map.1 hx; rfl
theorem zt7 (l : List Int) : (l.map fun n => iV n).all AV.flat = true := by
  rw [List.all_eq_true]; intro x hx; obtain ⟨f, _, rfl⟩ := List.mem_map.1 hx; rfl
theorem z31 (x : Stp) (v : Int) (l : List Frm) (p e : Int) : fitI [((0 : Nat), madO x v l p e)] = true := by
  have h1 := z13 l; have h2 := z3b x.fields; have h3 := zt7 x.t; simp only [fitI, fitC, AV.flat, AV.flat1, h1, List.all_cons, List.all_nil, Bool.and_self, Bool.and_true]; rfl
theorem z6d (l : List Fld) (h : l.length ≤ 1000) : tbl E0 65 [fldsV l] [] = some ([fldsU l], []) := zwl l (by
  have hf := z3b l
  have h2 : (0 + (l.map fldV).length) * 40 ≤ 211106232532992 := by rw [List.length_map]; omega
  cases l with
  | nil =>
    simp only [zdc, List.map_nil]
    exact z75 (fun b => by cases b <;> rfl)
  | cons f l =>
    simp only [List.map_cons] at hf h2; simp only [zdc, List.map_cons, zeb, cond_false, h2, decide_true, z9, cond_true, List.nil_append, hf]
    rfl)
theorem oshE : (nodupN (List.map (fun x => x.fst) (oshOf T0 0 [AV.ref 0 0] Tryz.f93.params.toList)) && (oshOf T0 0 [AV.ref 0 0] Tryz.f93.params.toList).all fun p => p.fst.blt 64) = true := by kernel_rfl
def posS (id : Int) : List Frm → Nat
  | [] => 0
  | f :: l => if f.id < id then posS id l + 1 else 0
theorem zls (id : Int) : ∀ l : List Frm, posS id l ≤ l.length
  | [] => Nat.le_refl _
  | f :: l => by
    have := zls id l; unfold posS
    split <;> simp only [List.length_cons] <;> omega
def hereS (id : Int) (l : List Frm) : Bool := match l[posS id l]? with | some f => f.id == id | none => false
theorem zqg (l : List Frm) (v : Int) (hl : l.length ≤ 1000) (hf : ∀ f ∈ l, f.fields.length ≤ 1000) : ∀ (r : List Frm) (i : Nat) (d : List Frm), l.drop i = r → d.length = i →
    ltbl E0 42 0 3 [frmsV l, iV l.length, iV i] [[iV 0, frmsV []], [iV v, frmsU d]] = some (1, [], [[iV 0, frmsV []], [iV v, frmsU (d ++ r)]]) := by
  intro r
  induction r with
  | nil =>
    intro i d hr hd
    have h : l.length ≤ i := by simpa using hr
    refine zf3 _ _ _ _ _ ?_
    have : ¬ ((i : Int) < l.length) := by omega
    have := z13 d; simp [z8m, *]
  | cons f r ih =>
    intro i d hr hd; obtain ⟨hlt, hget, hr2⟩ := zl hr
    have h2 : (i : Int) < l.length := by omega
    have e1 := zh (i := i) (by omega)
    have h := ih (i + 1) (d ++ [f]) hr2 (by simp [hd])
    have c := z6d f.fields (hf f (z11 hr)); have q1 := z3b f.fields; have q2 := z13 (d ++ [f])
    have q3 : ((d.map frmV).length + 1) * 32 ≤ 211106232532992 := by rw [List.length_map]; omega
    refine zf3 _ _ _ _ _ ?_
    have e3 : d.map frmV ++ [frmV f] = (d ++ [f]).map frmV := by simp
    have e4 : d ++ f :: r = d ++ [f] ++ r := by simp
    simp only [frmV, fldsV, fldsU, frmsV, frmsU, List.map_nil] at c h e3 q2 ⊢; simp only [z8m, h2, decide_true, cond_true, z9, Int.natCast_nonneg, nthE, Int.toNat_natCast, List.getElem?_map, hget, Option.map_some, u_asA, u_asC, u_asI, u_asB, u_asL, zq, u_asN, zi, c, Option.bind_some, q1, List.length_cons, List.length_nil, Nat.zero_add, q3, e3, q2, e1, h, e4, zx, zj]
theorem zhy (s : Sch) (hl : s.forms.length ≤ 1000) (hf : ∀ f ∈ s.forms, f.fields.length ≤ 1000) : tbl E0 42 [schV s] [] = some ([.agg [iV s.ver, frmsU s.forms]], []) := zss s (by
  have h := zqg s.forms s.ver hl hf s.forms 0 [] rfl rfl; have q := z13 s.forms; simp only [Int.natCast_zero, frmsV, frmsU, List.map_nil, List.nil_append] at h; simp only [zhr, z9, cond_true, zb, List.length_map, ze, h, Option.bind_some, nbeq, decide_true, u_asN, u_asC, u_asI, u_asL, zq, q])
theorem zzb {α : Type} {A : Alg α} (td : TD) (a b : Int) (k : AV → α) : bin A td .lss (iV a) (iV b) k = k (.bool (decide (a < b))) := Eq.trans rfl rfl
theorem zzc {α : Type} {A : Alg α} (td : TD) (a b : Int) (k : AV → α) : bin A td .eql (iV a) (iV b) k = k (.bool (a == b)) := Eq.trans rfl rfl
theorem zwr (x : Stp) (v : Int) (l : List Frm) (e : Int) (hl : l.length ≤ 1000) : ∀ (r : List Frm) (i : Nat), l.drop i = r →
    ltbl E0 93 0 2 [] [madO x v l i e] = some (1, [], [madO x v l (i + posS x.form r : Nat) e]) := by
  intro r; have q := z13 l
  induction r with
  | nil =>
    intro i hr
    have h : l.length ≤ i := by simpa using hr
    refine zlk _ _ _ _ _ ?_
    have h2 : ¬ ((i : Int) < l.length) := by omega
    simp only [zdd, zk, zb, List.length_map, h2, decide_false, cond_false, Option.bind_some, Tok.untok_tok, q, cond_true, posS, Nat.add_zero]
  | cons f r ih =>
    intro i hr; obtain ⟨hlt, hget, hr2⟩ := zl hr
    have h2 : (i : Int) < l.length := by omega
    have e1 := zh (i := i) (by omega)
    have h := ih (i + 1) hr2; refine zlk _ _ _ _ _ ?_; simp only [zdd, zk, zb, List.length_map, h2, Int.natCast_nonneg, decide_true, cond_true, Bool.and_self, z9, nthE, Int.toNat_natCast, List.getElem?_map, hget, Option.map_some, AV.cells, List.getElem?_cons_zero, u_asB, Option.bind_some, Tok.untok_tok, q, e1, h, zzb]
    by_cases c : f.id < x.form
    · simp [c, posS, Nat.add_assoc, Nat.add_comm 1]
    · simp [c, posS]
theorem zzd {id : Int} {l : List Frm} (h : posS id l < l.length) : ∃ f, l[posS id l]? = some f := ⟨_, List.getElem?_eq_getElem h⟩
theorem zg7 (x : Stp) (v : Int) (l : List Frm) (p e : Int) (hl : l.length ≤ 1000) : tbl E0 93 [.ref 0 0] [(0, madO x v l p e)] = some ([.bool (hereS x.form l)], [(0, madO x v l (posS x.form l) e)]) := zz6 x v l p e (by
  have q := z13 l; have h := zwr x v l e hl l 0 rfl; have hp := zls x.form l; have o := oshE; simp only [Int.natCast_zero, Nat.zero_add] at h; rw [Bool.and_eq_true] at o; simp only [zox, z31, o.1, o.2, List.all_cons, List.all_nil, fitA, Bool.and_self, cond_true, z9, q, ze, h, Option.bind_some, nbeq, decide_true, u_asN, u_asC, u_asI, u_asS, u_asL, zq, zk, zb, List.length_map]
  by_cases c : posS x.form l < l.length
  · obtain ⟨f, hf⟩ := zzd c
    have c2 : ((posS x.form l : Nat) : Int) < l.length := by omega
    simp only [c2, decide_true, cond_true, Int.natCast_nonneg, Bool.and_self, nthE, Int.toNat_natCast, List.getElem?_map, hf, Option.map_some, AV.cells, List.getElem?_cons_zero, zzc, u_asB, Option.bind_some, Tok.untok_tok, hereS]
  · have c2 : ¬ (((posS x.form l : Nat) : Int) < l.length) := by omega
    have c3 : l[posS x.form l]? = none := List.getElem?_eq_none (by omega)
    simp only [c2, decide_false, cond_false, Option.bind_some, Tok.untok_tok, hereS, c3])
theorem oshE2 : (nodupN (List.map (fun x => x.fst) (oshOf T0 0 [AV.ref 0 0] Tryz.f97.params.toList)) && (oshOf T0 0 [AV.ref 0 0] Tryz.f97.params.toList).all fun p => p.fst.blt 64) = true := by kernel_rfl
theorem oshE3 : (nodupN (List.map (fun x => x.fst) (oshOf T0 0 [AV.ref 0 0] Tryz.f98.params.toList)) && (oshOf T0 0 [AV.ref 0 0] Tryz.f98.params.toList).all fun p => p.fst.blt 64) = true := by kernel_rfl
theorem zws {α : Type} {A : Alg α} (w : Nat) (nm : Nm) (l : List AV) (cl : Cl) (k : AV → Cl → α) : exp0 A (.lst w) nm (.lst .ro w l) cl k = k (.lst .ro w l) cl := by simp [exp0, lit]
theorem zb4 (x : Stp) (v : Int) (l : List Frm) (p : Nat) (e : Int) (g : Frm) (hg : l[p]? = some g) : tbl E0 97 [.ref 0 0] [(0, madO x v l p e)] = some ([fldsV g.fields], [(0, madO x v l p e)]) := zsu x v l p e (by
  have q := z13 l; have hp : p < l.length := (List.getElem?_eq_some_iff.1 hg).1
  have hp2 : (p : Int) < l.length := by omega
  have o := oshE2; rw [Bool.and_eq_true] at o; simp only [zht, z31, o.1, o.2, List.all_cons, List.all_nil, fitA, Bool.and_self, cond_true, z9, q, List.length_map, hp2, decide_true, Int.natCast_nonneg, nthE, Int.toNat_natCast, List.getElem?_map, hg, Option.map_some, AV.cells, List.getElem?_cons_succ, List.getElem?_cons_zero, zws])
theorem zt8 (x : Stp) (v : Int) (l : List Frm) (p e : Nat) (g : Frm) (f : Fld) (hg : l[p]? = some g) (hf : g.fields[e]? = some f) : tbl E0 98 [.ref 0 0] [(0, madO x v l p e)] = some ([fldV f], [(0, madO x v l p e)]) := z11f x v l p e (by
  have q := z13 l; have c := zb4 x v l p e g hg; have o := oshE3; rw [Bool.and_eq_true] at o; simp only [zsq, zb1, z31, o.1, o.2, List.all_cons, List.all_nil, fitA, Bool.and_self, cond_true, z9, q, zi, c, Option.bind_some, nbeq, decide_true, u_asN, u_asC, u_asI, u_asS, u_asL, zq, Int.natCast_nonneg, nthE, Int.toNat_natCast, List.getElem?_map, hf, Option.map_some, u_asA, zj])
def widerS (f g : Fld) : Bool := rgtS f && rgtS g && f.kind == g.kind && decide (loS g ≤ loS f) && decide (hiS f ≤ hiS g) && decide (f.most ≤ g.most)
theorem zwt (f g : Fld) : tbl E0 117 [fldV f, fldV g] [] = some ([.bool (widerS f g)], []) := zwm f g (by
  have c1 := z3w f; have c2 := z3w g; simp only [zlj, z9, cond_true, zk, za, c1, c2, Option.bind_some, u_asC, u_asB, u_asN]
  rcases bor (rgtS f) with h1 | h1
  · have d1 := z6s f (fun _ => h1)
    rcases bor (rgtS g) with h2 | h2
    · have d2 := z6s g (fun _ => h2)
      simp only [h1, h2, Bool.not_true, cond_false, Option.bind_some, Tok.untok_tok]
      rcases bor (f.kind != g.kind) with h3 | h3
      · have : (f.kind == g.kind) = false := by simpa using h3
        simp [h3, widerS, h1, h2, this]
      · have : (f.kind == g.kind) = true := by simpa using h3
        simp only [h3, cond_false, z9, cond_true, za, d1, d2, Option.bind_some, u_asC, u_asI, u_asN, zk]
        by_cases a : loS g ≤ loS f <;> by_cases b : hiS f ≤ hiS g <;> simp [widerS, h1, h2, this, a, b]
    · simp [h1, h2, widerS]
  · simp [h1, widerS])
end Go.Proofs.YtjkjhgfiaodgmaaGreat.V
namespace Go.Proofs.YtjkjhgfiaodgmaaGreat.V
open Go
def minS (a b : Int) : Int := if b < a then b else a
def maxS (a b : Int) : Int := if a < b then b else a
def affS (a b n : Int) : Int := IntKind.i64.wrap (IntKind.i64.wrap (a * n) + b)
def scaledS (f : Fld) (a b : Int) : Fld := ⟨f.id, f.kind, minS (affS a b f.lo) (affS a b f.hi), maxS (affS a b f.lo) (affS a b f.hi), f.most⟩
def scaleS (f : Fld) (a b : Int) : Fld := ⟨f.id, 1, minS (affS a b f.lo) (affS a b f.hi), maxS (affS a b f.lo) (affS a b f.hi), 0⟩
def typesS (f : Fld) (x : Stp) : List Fld × Bool :=
  if x.op = 2 then ([], hasV f x.n x.s)
  else if x.op = 3 then ([x.f], widerS f x.f)
  else if x.op = 4 then ([scaleS f x.a x.b], f.kind == 1 && rgtS (scaleS f x.a x.b))
  else if x.op = 5 then ([⟨f.id, 3, 0, 0, x.a⟩], f.kind == 3 && f.most == (x.t.length : Int))
  else if x.op = 6 then ([⟨f.id, 1, 0, IntKind.i64.wrap (f.hi.tdiv x.a), 0⟩, ⟨x.to, 1, 0, minS f.hi (IntKind.i64.wrap (x.a - 1)), 0⟩], f.kind == 1 && f.lo == 0)
  else if x.op = 8 then ([⟨x.to, f.kind, f.lo, f.hi, f.most⟩], true) else ([f], true)
def turnedS (f : Fld) (x : Stp) : List Fld × Bool :=
  if x.op = 2 then ([], hasV f x.n x.s)
  else if x.op = 3 then ([x.f], widerS f x.f)
  else if x.op = 4 then (if f.kind = 1 then ([scaledS f x.a x.b], rgtS (scaledS f x.a x.b)) else ([f], false))
  else if x.op = 5 then ([⟨f.id, f.kind, f.lo, f.hi, x.a⟩], f.kind == 3 && f.most == (x.t.length : Int))
  else if x.op = 6 then ([⟨f.id, f.kind, f.lo, IntKind.i64.wrap (f.hi.tdiv x.a), f.most⟩, ⟨x.to, 1, 0, minS (IntKind.i64.wrap (x.a - 1)) f.hi, 0⟩], f.kind == 1 && f.lo == 0)
  else ([⟨x.to, f.kind, f.lo, f.hi, f.most⟩], true)
theorem zt9 (a b : Int) : minS a b = minS b a := by unfold minS; split <;> split <;> omega
theorem rgt1 {f : Fld} (h : rgtS f = true) (k : f.kind = 1) : f.most = 0 := by
  simp only [rgtS, k, if_true, Bool.and_eq_true, decide_eq_true_eq] at h; omega
theorem rgt3 {f : Fld} (h : rgtS f = true) (k : f.kind = 3) : f.lo = 0 ∧ f.hi = 0 := by
  simp [rgtS, k] at h; omega
theorem zlt {f : Fld} {x : Stp} (h : rgtS f = true) (h7 : x.op ≠ 7) (hop : x.op = 2 ∨ x.op = 3 ∨ x.op = 4 ∨ x.op = 5 ∨ x.op = 6 ∨ x.op = 8) : (turnedS f x).2 = (typesS f x).2 ∧ ((typesS f x).2 = true → (turnedS f x).1 = (typesS f x).1) := by
  rcases hop with h1 | h1 | h1 | h1 | h1 | h1
  · simp [turnedS, typesS, h1]
  · simp [turnedS, typesS, h1]
  · by_cases k : f.kind = 1
    · have := rgt1 h k
      simp [turnedS, typesS, h1, k, scaledS, scaleS, this]
    · simp [turnedS, typesS, h1, k]
  · by_cases k : f.kind = 3
    · obtain ⟨k1, k2⟩ := rgt3 h k
      simp [turnedS, typesS, h1, k, k1, k2]
    · simp [turnedS, typesS, h1, k]
  · by_cases k : f.kind = 1
    · have := rgt1 h k
      by_cases k2 : f.lo = 0
      · simp [turnedS, typesS, h1, k, k2, this, zt9]
      · simp [turnedS, typesS, h1, k, k2]
    · simp [turnedS, typesS, h1, k]
  · simp [turnedS, typesS, h1]
def fieldS (op : Int) : Bool := op != 1 && (op != 9 && op != 10)
def namesS (s : Sch) (x : Stp) : Int :=
  if x.op = 9 then (if 0 ≤ findS s.forms x.form then 9 else 0)
  else if findS s.forms x.form < 0 then 8
  else match s.forms[(findS s.forms x.form).toNat]? with
    | none => 0
    | some f =>
      if fieldS x.op && decide (atS f.fields x.field < 0) then 8
      else if (x.op == 1 && decide (0 ≤ atS f.fields x.f.id)) || ((x.op == 6 || x.op == 8) && decide (0 ≤ atS f.fields x.to)) then 9
      else if (x.op == 1 && decide ((f.fields.length : Int) < x.place)) || (x.op == 7 && decide ((f.fields.length : Int) ≤ x.place)) then 3 else 0
def putS (l : List Fld) (n : Nat) (m : List Fld) : List Fld := l.take n ++ m ++ l.drop n
def cutS (l : List Fld) (n : Nat) : List Fld := l.take n ++ l.drop (n + 1)
def bodyS (f : Frm) : Bool → List Frm → List Frm
  | _, [] => []
  | b, g :: l => (if !b && decide (f.id ≤ g.id) then [f] else []) ++ ((if g.id ≠ f.id then [g] else []) ++ bodyS f (b || decide (f.id ≤ g.id)) l)
def doneS (f : Frm) : Bool → List Frm → Bool
  | b, [] => b
  | b, g :: l => doneS f (b || decide (f.id ≤ g.id)) l
def formsS (f : Frm) (b : Bool) (l : List Frm) : List Frm := bodyS f b l ++ (if doneS f b l then [] else [f])
theorem zdg (f : Frm) : ∀ (l : List Frm) (b : Bool), (bodyS f b l).length ≤ 2 * l.length
  | [], b => by simp [bodyS]
  | g :: l, b => by
    have := zdg f l (b || decide (f.id ≤ g.id))
    simp only [bodyS, List.length_append, List.length_cons]
    split <;> split <;> simp <;> omega
def sch0 : Sch := ⟨0, []⟩
def outS (s : Sch) (f : Frm) : Sch × Int :=
  if schS ⟨s.ver, formsS f f.fields.isEmpty s.forms⟩ then (⟨s.ver, formsS f f.fields.isEmpty s.forms⟩, 0) else (sch0, 7)
def oldS (s : Sch) (x : Stp) : List Fld := match s.forms[(findS s.forms x.form).toNat]? with | some g => g.fields | none => []
def newS (l : List Fld) (x : Stp) (more : List Fld) : List Fld := putS (cutS l (atS l x.field).toNat) (if x.op = 7 then x.place.toNat else (atS l x.field).toNat) more
def onS (s : Sch) (x : Stp) : Sch × Int :=
  if !(schS s) || (!(tRightS x) || decide (10 < x.op)) then (sch0, 2)
  else if namesS s x ≠ 0 then (sch0, namesS s x)
  else if x.op = 9 then outS s ⟨x.form, x.fields⟩
  else if x.op = 1 then outS s ⟨x.form, putS (oldS s x) x.place.toNat [x.f]⟩
  else if x.op = 10 then outS s ⟨x.form, []⟩
  else match (oldS s x)[(atS (oldS s x) x.field).toNat]? with
    | none => (sch0, 17)
    | some g => if (typesS g x).2 then (if (newS (oldS s x) x (typesS g x).1).isEmpty then (sch0, 7) else outS s ⟨x.form, newS (oldS s x) x (typesS g x).1⟩) else (sch0, 17)
def allS (s : Sch) : Nat → List Stp → Sch × Nat × Int
  | _, [] => (s, 0, 0)
  | i, x :: l => if (onS s x).2 = 0 then allS (onS s x).1 (i + 1) l else (sch0, i, (onS s x).2)
end Go.Proofs.YtjkjhgfiaodgmaaGreat.V
namespace Go.Proofs.YtjkjhgfiaodgmaaGreat.V
open Go
theorem zwu (f g : Fld) (hf : f.kind = 3 → rgtS f = true) : tbl E0 80 [fldV f, fldV g] [] = some ([.bool (widerS f g)], []) := by
  obtain ⟨lo, hi, most, hb, hh⟩ := z7k f; obtain ⟨lo2, hi2, most2, hb2, hh2⟩ := z7k g; refine zwg f g ?_; simp only [zle, z9, cond_true, zk, za, hb, hb2, Option.bind_some, u_asC, u_asI, u_asB, u_asN]
  rcases bor (rgtS f) with h1 | h1
  · rcases bor (rgtS g) with h2 | h2
    · obtain ⟨rfl, rfl, rfl⟩ := hh h1
      obtain ⟨rfl, rfl, rfl⟩ := hh2 h2
      by_cases k : f.kind = g.kind
      · have key : ((decide (loS g ≤ loS f) && (decide (hiS f ≤ hiS g) && decide ((if f.kind = 4 then f.most else 0) ≤ (if g.kind = 4 then g.most else 0)))) = (decide (loS g ≤ loS f) && (decide (hiS f ≤ hiS g) && decide (f.most ≤ g.most)))) := by
          have q1 := h1; have q2 := h2; simp only [rgtS, ← k, Bool.and_eq_true, decide_eq_true_eq] at q1 q2
          by_cases k1 : f.kind = 1
          · simp only [k1, if_true, decide_eq_true_eq] at q1 q2
            have : f.most ≤ g.most := by omega
            simp [k1, ← k, this]
          · by_cases k2 : f.kind = 2
            · simp [k2] at q1 q2
              have : f.most ≤ g.most := by omega
              simp [k2, ← k, this]
            · by_cases k3 : f.kind = 3
              · have : (hiS f ≤ hiS g) ↔ f.most ≤ g.most := by simp [hiS, k3, ← k]
                simp [k3, ← k, this]
              · by_cases k4 : f.kind = 4
                · simp [k4, ← k]
                · simp [k1, k2, k3, k4] at q1
        have k' : (f.kind == g.kind) = true := by simpa using k
        simp only [widerS, h1, h2, k', cond_true, Bool.true_and, Bool.and_assoc, ← key]
        by_cases a : loS g ≤ loS f <;> by_cases b : hiS f ≤ hiS g <;> simp [a, b]
      · simp [h1, h2, widerS, k]
    · simp [h1, h2, widerS]
  · simp [h1, widerS]
theorem zta (l : List Fld) (n : Nat) (f : Fld) (hn : n ≤ l.length) (hl : l.length ≤ 1000) : tbl E0 50 [fldsV l, iV n, fldV f] [] = some ([fldsV (putS l n [f])], []) := z11b l n f (by
  have h1 : (n : Int) ≤ l.length := by omega
  have h2 : (((l.map fldV).take n).length) * 40 ≤ 211106232532992 := by rw [List.length_take, List.length_map]; omega
  have h3 : (((l.map fldV).take n).length + 1) * 40 ≤ 211106232532992 := by rw [List.length_take, List.length_map]; omega
  have h4 : (((l.map fldV).take n ++ [fldV f]).length + ((l.map fldV).drop n).length) * 40 ≤ 211106232532992 := by rw [List.length_append, List.length_take, List.length_drop, List.length_map]; simp; omega
  have h5 : ((l.map fldV).take l.length) = l.map fldV := List.take_of_length_le (by simp)
  simp only [fldV, fldC] at h2 h3 h4 h5; simp only [zsl, z9, List.length_map, Int.le_refl, Int.natCast_nonneg, h1, decide_true, Bool.and_self, cond_true, List.drop_zero, Int.toNat_natCast, List.length_cons, List.length_nil, Nat.zero_add, h2, h3, h4, h5]; simp only [fldsV, fldV, fldC, putS, List.map_append, List.map_take, List.map_drop, List.map_cons, List.map_nil])
theorem z11j (l : List Fld) (n : Nat) (hn : n < l.length) (hl : l.length ≤ 1000) : tbl E0 53 [fldsV l, iV n] [] = some ([fldsV (cutS l n)], []) := z11c l n (by
  have h1 : (n : Int) ≤ l.length := by omega
  have e1 := zh (i := n) (by omega)
  have h0 : ((n + 1 : Nat) : Int) ≤ l.length := by omega
  have h2 : (0 + ((l.map fldV).take n).length) * 40 ≤ 211106232532992 := by rw [List.length_take, List.length_map]; omega
  have h4 : (((l.map fldV).take n).length + ((l.map fldV).drop (n + 1)).length) * 40 ≤ 211106232532992 := by rw [List.length_take, List.length_drop, List.length_map]; omega
  have h5 : ((l.map fldV).take l.length) = l.map fldV := List.take_of_length_le (by simp)
  simp only [zsm, z9, List.length_map, Int.le_refl, Int.natCast_nonneg, h1, h0, e1, decide_true, Bool.and_self, cond_true, List.drop_zero, Int.toNat_natCast, h2, h4, h5]; simp only [fldsV, fldV, fldC, cutS, List.map_append, List.map_take, List.map_drop])
theorem zwv (op : Int) : tbl E0 79 [iV op] [] = some ([.bool (fieldS op)], []) := zwh op (by
  simp only [zlf, zk]
  by_cases h1 : op = 1
  · simp [h1, fieldS]
  · have h1' := bne_t h1
    by_cases h2 : op = 9
    · simp [h2, fieldS]
    · have h2' := bne_t h2
      simp only [h1', h2', cond_true, Option.bind_some, Tok.untok_tok, fieldS, Bool.true_and])
def Few (s : Sch) : Prop := s.forms.length ≤ 1000 ∧ ∀ f ∈ s.forms, f.fields.length ≤ 1000
theorem Few.sml {s : Sch} (h : Few s) : Sml s := ⟨by have := h.1; omega, fun f hf => by have := h.2 f hf; omega⟩
theorem z5d {α : Type} {p : α → Bool} {l : List α} : (∃ (j : Nat) (f : α), firstS p l = (j : Int) ∧ l[j]? = some f ∧ p f = true) ∨ firstS p l = -1 := by
  unfold firstS
  cases h : l.findIdx? p with
  | none => exact .inr rfl
  | some j =>
    obtain ⟨h1, h2, h3⟩ := List.findIdx?_eq_some_iff_getElem.1 h; exact .inl ⟨j, l[j], rfl, List.getElem?_eq_getElem h1, h2⟩
theorem zww (s : Sch) (x : Stp) (hs : Few s) : tbl E0 49 [schV s, stpV x] [] = some ([iV (namesS s x)], []) := zwi s x (by
  have c := z2m s x.form hs.sml; simp only [zlg, z9, cond_true, za, c, Option.bind_some, u_asC, u_asI, u_asN]
  by_cases h9 : x.op = 9
  · by_cases h : 0 ≤ findS s.forms x.form <;> simp [namesS, h9, h]
  · have h9' : (x.op == 9) = false := by simpa using h9
    rcases z5d (p := fun f : Frm => f.id == x.form) (l := s.forms) with ⟨j, f, e1, e2, e3⟩ | e1
    · have e1 : findS s.forms x.form = (j : Int) := e1
      have hf : f.fields.length ≤ 1000 := hs.2 f (List.mem_of_getElem? e2)
      have a1 := c_yAt f x.field (by omega)
      have a2 := c_yAt f x.f.id (by omega)
      have a3 := c_yAt f x.to (by omega)
      have n1 : ¬ ((j : Int) < 0) := by omega
      simp only [h9', cond_false, e1, n1, decide_false, Int.natCast_nonneg, decide_true, z9, cond_true, nthE, Int.toNat_natCast, List.getElem?_map, e2, Option.map_some, u_asA, u_asC, u_asI, u_asL, u_asN, zk, za, zwv, Option.bind_some, u_asB, a1, a2, a3, zb, List.length_map, z78]
      have en : namesS s x = (if fieldS x.op && decide (atS f.fields x.field < 0) then 8
        else if (x.op == 1 && decide (0 ≤ atS f.fields x.f.id)) || ((x.op == 6 || x.op == 8) && decide (0 ≤ atS f.fields x.to)) then 9
        else if (x.op == 1 && decide ((f.fields.length : Int) < x.place)) || (x.op == 7 && decide ((f.fields.length : Int) ≤ x.place)) then 3 else 0) := by
        simp only [namesS, h9, if_false, e1, n1, Int.toNat_natCast, e2]
      rw [en]
      have key : ∀ A B : Bool, (bif A then some ([iV 9], []) else bif B then some ([iV 3], []) else some ([iV 0], [])) = (some ([iV (if A = true then 9 else if B = true then 3 else 0)], []) : Option CR) := by
        intro A B
        cases A <;> cases B <;> rfl
      simp only [z2g, Option.bind_some, Tok.untok_tok, zbo, z7n, zg6, zp1]
      rcases bor (fieldS x.op) with g1 | g1 <;> by_cases g2 : atS f.fields x.field < 0 <;> simp only [g1, g2, decide_true, decide_false, cond_true, cond_false, Option.bind_some, Tok.untok_tok, Bool.and_true, Bool.and_false, Bool.true_and, Bool.false_and, if_true, if_false]
      all_goals try (simp only [Bool.false_eq_true, if_false]; done)
      all_goals simp only [zlp, ge_iff_le, gt_iff_lt, Bool.false_eq_true, if_false]
      all_goals exact key _ _
    · have e1 : findS s.forms x.form = -1 := e1
      simp [h9', e1, namesS, h9])
theorem zwx (f : Fld) (x : Stp) (hf : f.kind = 3 → rgtS f = true) (hx : x.op = 6 → x.a ≠ 0) : tbl E0 52 [fldV f, stpV x] [] = some ([fldsV (typesS f x).1, .bool (typesS f x).2], []) := zwj f x (by
  have c1 := zsx f x.n x.s; have c2 := zwu f x.f hf; have c3 := zd4 (scaleS f x.a x.b); simp only [fldV, fldC, stpV, stpC] at c1 c2
  have e4 : x.op = 4 → typesS f x = ([scaleS f x.a x.b], f.kind == 1 && rgtS (scaleS f x.a x.b)) := fun h => by simp [typesS, h]
  have m1 : (if IntKind.i64.wrap (IntKind.i64.wrap (x.a * f.hi) + x.b) < IntKind.i64.wrap (IntKind.i64.wrap (x.a * f.lo) + x.b) then IntKind.i64.wrap (IntKind.i64.wrap (x.a * f.hi) + x.b) else IntKind.i64.wrap (IntKind.i64.wrap (x.a * f.lo) + x.b)) = minS (affS x.a x.b f.lo) (affS x.a x.b f.hi) := rfl
  have m2 : (if IntKind.i64.wrap (IntKind.i64.wrap (x.a * f.lo) + x.b) < IntKind.i64.wrap (IntKind.i64.wrap (x.a * f.hi) + x.b) then IntKind.i64.wrap (IntKind.i64.wrap (x.a * f.hi) + x.b) else IntKind.i64.wrap (IntKind.i64.wrap (x.a * f.lo) + x.b)) = maxS (affS x.a x.b f.lo) (affS x.a x.b f.hi) := rfl
  simp only [fldV, fldC, scaleS] at c3
  by_cases h2 : x.op = 2
  · simp only [z24, h2, beq_self_eq_true, z9, cond_true, za, c1, Option.bind_some, u_asC, u_asB, u_asN]
    simp [typesS, h2]
  · have g2 := beq_f h2
    by_cases h3 : x.op = 3
    · simp only [z24, z79, h3, g2, beq_self_eq_true, z9, cond_true, cond_false, za, c2, Option.bind_some, u_asC, u_asB, u_asN, zj, zx, (by decide : ((3 : Int) == 2) = false)]
      simp [typesS, h3]
    · have g3 := beq_f h3
      by_cases h4 : x.op = 4
      · rcases bor (f.kind == 1) with k | k
        · simp only [z24, z54, z52, z53, h4, k, beq_self_eq_true, z9, cond_true, cond_false, za, m1, m2, c3, Option.bind_some, u_asC, u_asB, u_asN, zj, zx, (by decide : ((4 : Int) == 2) = false), (by decide : ((4 : Int) == 3) = false)]
          rw [e4 h4, k]; rfl
        · simp only [z24, z54, z52, z53, h4, k, beq_self_eq_true, z9, cond_true, cond_false, za, m1, m2, c3, Option.bind_some, u_asC, u_asB, u_asN, zj, zx, (by decide : ((4 : Int) == 2) = false), (by decide : ((4 : Int) == 3) = false)]
          rw [e4 h4, k]; rfl
      · have g4 := beq_f h4
        by_cases h5 : x.op = 5
        · rcases bor (f.kind == 3) with k | k
          · simp only [z24, h5, k, beq_self_eq_true, z9, zb, cond_true, cond_false, zj, zx, List.length_map, (by decide : ((5 : Int) == 2) = false), (by decide : ((5 : Int) == 3) = false), (by decide : ((5 : Int) == 4) = false)]
            simp [typesS, h5, (by simpa using k : f.kind = 3)]
          · simp only [z24, h5, k, beq_self_eq_true, z9, zb, cond_true, cond_false, zj, zx, List.length_map, (by decide : ((5 : Int) == 2) = false), (by decide : ((5 : Int) == 3) = false), (by decide : ((5 : Int) == 4) = false)]
            simp [typesS, h5, (by simpa using k : f.kind ≠ 3)]
        · have g5 := beq_f h5
          by_cases h6 : x.op = 6
          · have ha : (!(x.a == (0 : Int))) = true := by simpa using hx h6
            rcases bor (f.kind == 1) with k | k
            · simp only [z24, z3p, h6, ha, k, beq_self_eq_true, z9, zb, cond_true, cond_false, zj, zx, (by decide : ((6 : Int) == 2) = false), (by decide : ((6 : Int) == 3) = false), (by decide : ((6 : Int) == 4) = false), (by decide : ((6 : Int) == 5) = false)]
              simp [typesS, h6, (by simpa using k : f.kind = 1), minS]
            · simp only [z24, z3p, h6, ha, k, beq_self_eq_true, z9, zb, cond_true, cond_false, zj, zx, (by decide : ((6 : Int) == 2) = false), (by decide : ((6 : Int) == 3) = false), (by decide : ((6 : Int) == 4) = false), (by decide : ((6 : Int) == 5) = false)]
              simp [typesS, h6, (by simpa using k : f.kind ≠ 1), minS]
          · have g6 := beq_f h6
            by_cases h8 : x.op = 8
            · simp [z24, typesS, h8]
            · simp [z24, typesS, h2, h3, h4, h5, h6, h8])
theorem q32 {n : Nat} (h : n ≤ 3000) : n * 32 ≤ 211106232532992 := by omega
theorem ztb (s : Sch) (f : Frm) (v : Int) (hs : Few s) : ∀ (r : List Frm) (i : Nat) (b : Bool) (d : List Frm), s.forms.drop i = r → d.length ≤ 2 * i →
    ltbl E0 54 0 4 [.bool b, iV i] [[iV s.ver, frmsV s.forms], [iV f.id, fldsV f.fields], [iV 0, frmsV []], [iV v, .lst (.own (.O 1005 1)) 2 (d.map frmV)]] =
      some (1, [.bool (doneS f b r)], [[iV f.id, fldsV f.fields], [iV 0, frmsV []], [iV v, .lst (.own (.O 1005 1)) 2 ((d ++ bodyS f b r).map frmV)]]) := by
  intro r; have hl := hs.1
  induction r with
  | nil =>
    intro i b d hr hd
    have h : s.forms.length ≤ i := by simpa using hr
    refine zhq _ _ _ _ _ _ ?_
    have : ¬ ((i : Int) < s.forms.length) := by omega
    simp [zb0, this, bodyS, doneS]
  | cons g r ih =>
    intro i b d hr hd; obtain ⟨hlt, hget, hr2⟩ := zl hr
    have h2 : (i : Int) < s.forms.length := by omega
    have e1 := zh (i := i) (by omega)
    have q0 : d.length + 1 ≤ 3000 ∧ d.length + 1 + 1 ≤ 3000 := by omega
    have q1 := q32 q0.1; have q2 := q32 q0.2
    have m : ∀ (x : Frm) (d : List Frm), d.map frmV ++ [frmV x] = (d ++ [x]).map frmV := fun x d => by simp
    simp only [frmV, fldsV] at m; refine zhq _ _ _ _ _ _ ?_; simp only [zb0, zb, List.length_map, h2, decide_true, cond_true, zk, z9, Int.natCast_nonneg, nthE, Int.toNat_natCast, List.getElem?_map, hget, Option.map_some, u_asA, u_asC, u_asI, u_asB, u_asL, u_asN, e1, zx, List.length_cons, List.length_nil, List.length_append, Nat.zero_add]
    cases b with
    | true =>
      simp only [Bool.not_true, cond_false, Option.bind_some, Tok.untok_tok]
      by_cases n : g.id = f.id
      · have n' : (g.id != f.id) = false := by simpa using n
        have h := ih (i + 1) true d hr2 (by omega)
        simp only [frmV, fldsV, frmsV, List.map_nil] at h ⊢; simp only [n', cond_false, h]; simp [bodyS, doneS, n]
      · have n' := bne_t n
        have h := ih (i + 1) true (d ++ [g]) hr2 (by simp; omega)
        simp only [frmV, fldsV, frmsV, List.map_nil] at h ⊢; simp only [n', cond_true, q1, decide_true, m, h]; simp [bodyS, doneS, n]
    | false =>
      simp only [Bool.not_false, cond_true, Option.bind_some, Tok.untok_tok, ge_iff_le]
      by_cases a : f.id ≤ g.id
      · simp only [a, decide_true, cond_true, q1]
        by_cases n : g.id = f.id
        · have n' : (g.id != f.id) = false := by simpa using n
          have h := ih (i + 1) true (d ++ [f]) hr2 (by simp; omega)
          simp only [frmV, fldsV, frmsV, List.map_nil] at h ⊢; simp only [n', cond_false, m, h]; simp [bodyS, doneS, n, a]
        · have n' := bne_t n
          have h := ih (i + 1) true (d ++ [f] ++ [g]) hr2 (by simp; omega)
          simp only [frmV, fldsV, frmsV, List.map_nil] at h ⊢; simp only [n', cond_true, q2, decide_true, m, h]; simp [bodyS, doneS, n, a]
      · simp only [a, decide_false, cond_false]
        by_cases n : g.id = f.id
        · omega
        · have n' := bne_t n
          have h := ih (i + 1) false (d ++ [g]) hr2 (by simp; omega)
          simp only [frmV, fldsV, frmsV, List.map_nil] at h ⊢; simp only [n', cond_true, q1, decide_true, m, h]; simp [bodyS, doneS, n, a]
theorem zwy (s : Sch) (f : Frm) (hs : Few s) : tbl E0 54 [schV s, frmV f] [] = some ([schV ⟨s.ver, formsS f f.fields.isEmpty s.forms⟩], []) := zwk s f (by
  have h := ztb s f s.ver hs s.forms 0 f.fields.isEmpty [] rfl (by simp)
  have e : ((f.fields.length : Int) == 0) = f.fields.isEmpty := by cases f.fields <;> simp; omega
  have hb := zdg f s.forms f.fields.isEmpty; have hl := hs.1
  have q1 : ((bodyS f f.fields.isEmpty s.forms).length + 1) * 32 ≤ 211106232532992 := by omega
  simp only [Int.natCast_zero, List.map_nil, List.nil_append, frmV, fldsV, frmsV] at h; simp only [zlh, z9, cond_true, zb, List.length_map, e, ze, h, Option.bind_some, nbeq, decide_true, u_asN, u_asC, u_asI, u_asL, u_asB, zu, zv, List.length_cons, List.length_nil, Nat.zero_add, q1]
  rcases bor (doneS f f.fields.isEmpty s.forms) with d | d
  · simp [d, formsS]
  · simp [d, formsS])
end Go.Proofs.YtjkjhgfiaodgmaaGreat.V
namespace Go.Proofs.YtjkjhgfiaodgmaaGreat.V
open Go
theorem z1h {x : Stp} (h : tRightS x = true) (p : Int) (hp : p ∈ usesS x.op) : fitsS x p = true := ((z2x h).1 p hp).2.1
theorem zbp {x : Stp} (h : tRightS x = true) (o : x.op = 1) : (0 ≤ x.place ∧ x.place ≤ 8) ∧ rgtS x.f = true := by
  have h2 := z1h h 2 (by rw [o]; decide)
  have h6 := z1h h 6 (by rw [o]; decide)
  simp [fitsS, inS] at h2 h6; exact ⟨h2, h6.1⟩
theorem zg8 {x : Stp} (h : tRightS x = true) (o : x.op = 6) : (2 ≤ x.a ∧ x.a ≤ 1048576) ∧ 0 ≤ x.to := by
  have h2 := z1h h 4 (by rw [o]; decide)
  have h6 := z1h h 3 (by rw [o]; decide)
  simp [fitsS, inS, o] at h2 h6; exact ⟨h2, h6.1.1⟩
theorem zze {x : Stp} (h : tRightS x = true) (o : x.op = 8) : 0 ≤ x.to := by
  have h6 := z1h h 3 (by rw [o]; decide)
  simp [fitsS, inS] at h6; exact h6.1.1
theorem zp2 {x : Stp} (h : tRightS x = true) (o : x.op = 7) : 0 ≤ x.place ∧ x.place ≤ 8 := by
  have h6 := z1h h 2 (by rw [o]; decide)
  simpa [fitsS, inS] using h6
theorem zg9 {x : Stp} (h : tRightS x = true) (o : x.op = 9) : fineS ⟨x.form, x.fields⟩ = true := by
  have h6 := z1h h 9 (by rw [o]; decide)
  simpa [fitsS] using h6
theorem z3c {x : Stp} (h : tRightS x = true) (h10 : x.op ≤ 10) : x.op = 1 ∨ x.op = 2 ∨ x.op = 3 ∨ x.op = 4 ∨ x.op = 5 ∨ x.op = 6 ∨ x.op = 7 ∨ x.op = 8 ∨ x.op = 9 ∨ x.op = 10 := by
  have := (z2x h).2.1; simp only [opsL, List.mem_cons, List.not_mem_nil, or_false] at this; omega
theorem bor' (b : Bool) : b = false ∨ b = true := by cases b <;> simp
theorem zzf (l t : List Fld) (n : Nat) (x : Fld) (hn : n ≤ l.length) : putS (putS l n t) (n + t.length) [x] = putS l n (t ++ [x]) := by
  have e1 : (l.take n ++ t).length = n + t.length := by simp; omega
  unfold putS
  rw [List.take_append_of_le_length (by omega), List.drop_append_of_le_length (by omega), ← e1, List.take_length, List.drop_length]
  simp
theorem z5p (l t : List Fld) (n : Nat) : (putS l n t).length = l.length + t.length := by
  unfold putS; simp; omega
theorem z11k (s : Sch) (l : List Fld) (n id : Int) (k : Nat) (hn : n = k) (more : List Fld) (hk : k ≤ l.length) (hl : l.length ≤ 500) (hm : more.length ≤ 8) : ∀ (r : List Fld) (i : Nat), more.drop i = r →
    ltbl E0 34 0 17 [iV n, fldsV more, iV i] [[iV s.ver, frmsV s.forms], [iV 0, frmsV []], [iV id, fldsV (putS l k (more.take i))]] =
      some (2, [], [[iV s.ver, frmsV s.forms], [iV 0, frmsV []], [iV id, fldsV (putS l k more)]]) := by
  intro r; subst hn
  induction r with
  | nil =>
    intro i hr
    have h : more.length ≤ i := by simpa using hr
    refine zsp _ _ _ _ ⟨id, putS l k (more.take i)⟩ ?_
    have : ¬ ((i : Int) < more.length) := by omega
    simp [zli, this, List.take_of_length_le h]
  | cons f r ih =>
    intro i hr; obtain ⟨hlt, hget, hr2⟩ := zl hr
    have h2 : (i : Int) < more.length := by omega
    have e1 := zh (i := i) (by omega)
    have e2 : IntKind.i64.wrap ((k : Int) + i) = ((k + i : Nat) : Int) := by rw [wrap_i64 _ (by omega) (by omega)]; omega
    have hlen : (more.take i).length = i := by rw [List.length_take]; omega
    have h := ih (i + 1) hr2
    have c := zta (putS l k (more.take i)) (k + i) f (by rw [z5p]; omega) (by rw [z5p]; omega)
    have e3 : putS (putS l k (more.take i)) (k + i) [f] = putS l k (more.take (i + 1)) := by
      have := zzf l (more.take i) k f hk; rw [hlen] at this; rw [this, List.take_add_one, hget]; rfl
    rw [e3] at c; refine zsp _ _ _ _ ⟨id, putS l k (more.take i)⟩ ?_; simp only [fldV, fldC, fldsV, frmsV, List.map_nil] at c h ⊢; simp only [zli, zb, List.length_map, h2, decide_true, cond_true, z9, Int.natCast_nonneg, nthE, Int.toNat_natCast, List.getElem?_map, hget, Option.map_some, u_asA, u_asC, u_asI, u_asL, u_asN, za, e2, c, Option.bind_some, e1, h]
theorem z11l (s : Sch) (f : Frm) (hs : Few s) (hf : f.fields.length ≤ 1000) : ltbl E0 34 0 1000028 [] [[iV s.ver, frmsV s.forms], [iV 0, frmsV []], [iV f.id, fldsV f.fields]] =
    some (0, [iV (outS s f).2], [[iV (outS s f).1.ver, frmsV (outS s f).1.forms]]) := by
  have c := zwy s f hs; have hb := zdg f s.forms f.fields.isEmpty; have hl := hs.1
  have mem : ∀ (l : List Frm) (b : Bool), ∀ g ∈ bodyS f b l, g = f ∨ g ∈ l := by
    intro l
    induction l with
    | nil => intro b g hg; simp [bodyS] at hg
    | cons a l ih =>
      intro b g hg; simp only [bodyS, List.mem_append] at hg
      rcases hg with hg | hg | hg
      · split at hg
        · simp at hg; exact .inl hg
        · simp at hg
      · split at hg
        · simp at hg; exact .inr (by simp [hg])
        · simp at hg
      · rcases ih _ g hg with h | h
        · exact .inl h
        · exact .inr (by simp [h])
  have sm : Sml ⟨s.ver, formsS f f.fields.isEmpty s.forms⟩ := by
    refine ⟨?_, fun g hg => ?_⟩
    · have : (formsS f f.fields.isEmpty s.forms).length ≤ 3000 := by
        unfold formsS; rw [List.length_append]
        split <;> simp <;> omega
      exact Nat.le_trans this (by decide)
    · have : g = f ∨ g ∈ s.forms := by
        simp only [formsS, List.mem_append] at hg
        rcases hg with hg | hg
        · exact mem _ _ g hg
        · split at hg
          · simp at hg
          · simp at hg; exact .inl hg
      rcases this with rfl | h
      · exact Nat.le_trans hf (by decide)
      · exact Nat.le_trans (hs.2 g h) (by decide)
  have d := z5b _ sm; refine z11d s f ?_; simp only [frmV, fldsV, frmsV, schV] at c d ⊢; simp only [zsn, z9, cond_true, za, c, d, Option.bind_some, u_asC, u_asA, u_asI, u_asL, u_asB, u_asN, outS]
  rcases bor (schS ⟨s.ver, formsS f f.fields.isEmpty s.forms⟩) with b | b
  · simp [b]
  · simp [b, sch0]
theorem names0 {s : Sch} {x : Stp} (h : namesS s x = 0) (h9 : x.op ≠ 9) : ∃ (j : Nat) (g : Frm), findS s.forms x.form = (j : Int) ∧ s.forms[j]? = some g ∧ g.id = x.form ∧ oldS s x = g.fields ∧
    (fieldS x.op = true → ∃ (k : Nat) (f : Fld), atS g.fields x.field = (k : Int) ∧ g.fields[k]? = some f) ∧ (x.op = 1 → x.place ≤ g.fields.length ∧ atS g.fields x.f.id < 0) ∧ (x.op = 7 → x.place < g.fields.length) ∧ (x.op = 6 ∨ x.op = 8 → atS g.fields x.to < 0) := by
  rcases z5d (p := fun f : Frm => f.id == x.form) (l := s.forms) with ⟨j, g, e1, e2, e3⟩ | e1
  · have e1 : findS s.forms x.form = (j : Int) := e1
    refine ⟨j, g, e1, e2, by simpa using e3, by simp [oldS, e1, e2], ?_⟩
    have n1 : ¬ ((j : Int) < 0) := by omega
    simp only [namesS, h9, if_false, e1, n1, Int.toNat_natCast, e2] at h
    have a1 : ¬ ((fieldS x.op && decide (atS g.fields x.field < 0)) = true) := by
      intro a; simp [a] at h
    rw [if_neg a1] at h
    have a2 : ¬ (((x.op == 1 && decide (0 ≤ atS g.fields x.f.id)) || ((x.op == 6 || x.op == 8) && decide (0 ≤ atS g.fields x.to))) = true) := by
      intro a; simp [a] at h
    rw [if_neg a2] at h
    have a3 : ¬ (((x.op == 1 && decide ((g.fields.length : Int) < x.place)) || (x.op == 7 && decide ((g.fields.length : Int) ≤ x.place))) = true) := by
      intro a; simp [a] at h
    refine ⟨fun hf => ?_, fun o => ?_, fun o => ?_, fun o => ?_⟩
    · rcases z5d (p := fun f : Fld => f.id == x.field) (l := g.fields) with ⟨k, f, q1, q2, q3⟩ | q1
      · exact ⟨k, f, q1, q2⟩
      · exfalso
        have q1 : atS g.fields x.field = -1 := q1; apply a1; simp [hf, q1]
    · simp [o] at a2 a3
      omega
    · simp [o] at a3
      omega
    · simp at a2
      have := a2.2 o; omega
  · have e1 : findS s.forms x.form = -1 := e1
    simp [namesS, h9, e1] at h
theorem zga {l : List Fld} {n : Nat} (h : n < l.length) : (cutS l n).length + 1 = l.length := by
  unfold cutS; simp; omega
theorem z3x {s : Sch} (h : schS s = true) : s.forms.length ≤ 8 ∧ ∀ f ∈ s.forms, f.fields.length ≤ 8 ∧ ∀ x ∈ f.fields, rgtS x = true := by
  simp only [schS, Bool.and_eq_true, decide_eq_true_eq] at h; refine ⟨h.1.2, fun f hf => ?_⟩; have := z30 _ _ h.2 f hf; rw [z38] at this; exact ⟨this.2.1.2, this.2.2.2.1⟩
theorem ztc (f : Fld) (x : Stp) : (typesS f x).1.length ≤ 2 := by
  unfold typesS
  repeat' split
  all_goals simp
theorem c_zOn (s : Sch) (x : Stp) (hs : Few s) (hx : x.sml) : tbl E0 34 [schV s, stpV x] [] = some ([schV (onS s x).1, iV (onS s x).2], []) := t_zOn s x (by
  have c1 := z5b s hs.sml; have c2 := zhx x hx; rw [← zhd] at c2; have cn := zww s x hs; have cF := z2m s x.form hs.sml; simp only [schV, stpV, stpC, intsV, frmsV, fldsV] at c1 c2 cn cF
  have gate : onS s x = if !(schS s) || (!(tRightS x) || decide (10 < x.op)) then (sch0, 2) else onS s x := by
    by_cases h : (!(schS s) || (!(tRightS x) || decide (10 < x.op))) = true
    · rw [if_pos h]; unfold onS; rw [if_pos h]
    · rw [if_neg h]
  simp only [s_zOn, z9, cond_true, zk, za, c1, Option.bind_some, u_asC, u_asB, u_asN]
  rcases bor' (schS s) with h1 | h1
  · simp [h1, gate, sch0]
  simp only [h1, Bool.not_true, cond_false, c2, Option.bind_some, u_asC, u_asB, u_asN]
  rcases bor' (tRightS x) with h2 | h2
  · simp [h1, h2, gate, sch0]
  simp only [h2, Bool.not_true, cond_false, Option.bind_some, Tok.untok_tok, gt_iff_lt]
  by_cases h3 : 10 < x.op
  · simp [h1, h2, h3, gate, sch0]
  simp only [h3, decide_false, cond_false, cn, Option.bind_some, u_asC, u_asI, u_asN]
  have g0 : ¬ ((!(schS s) || (!(tRightS x) || decide (10 < x.op))) = true) := by simp [h1, h2, h3]
  by_cases h4 : ¬ (namesS s x = 0)
  · have h4' := bne_t h4
    simp only [h4', cond_true, onS, if_neg g0, ne_eq, h4, not_false_eq_true, if_true, sch0, schV, frmsV, List.map_nil]
  have h4 : namesS s x = 0 := Classical.not_not.1 h4
  have h4' : (namesS s x != 0) = false := by simp [h4]
  simp only [h4', cond_false]; have M := fun (f : Frm) (hf : f.fields.length ≤ 1000) => z11l s f hs hf; simp only [frmsV, fldsV, List.map_nil] at M
  by_cases h9 : x.op = 9
  · have f9 := zg9 h2 h9
    have l9 : x.fields.length ≤ 8 := (zan f9).1
    have q : (0 + (x.fields.map fldV).length) * 40 ≤ 211106232532992 := by rw [List.length_map]; omega
    have m := M ⟨x.form, x.fields⟩ (by simp; omega)
    simp only at m; simp only [h9, beq_self_eq_true, cond_true, q, decide_true, ze, m, Option.bind_some, z39, nbeq, u_asN, u_asC, u_asI, u_asL, z9]
    have eo : onS s x = outS s ⟨x.form, x.fields⟩ := by unfold onS; rw [if_neg g0, if_neg (by simp [h4]), if_pos h9]
    rw [eo]
  have h9' : (x.op == 9) = false := by simpa using h9
  simp only [h9', cond_false]; obtain ⟨j, g, e1, e2, e3, e4, e5, e6, e7, e8⟩ := names0 h4 h9; have hg : g.fields.length ≤ 8 := ((z3x h1).2 g (List.mem_of_getElem? e2)).1; rw [e1] at cF
  by_cases o1 : x.op = 1
  · obtain ⟨p1, p2⟩ := zbp h2 o1
    have p3 := (e6 o1).1
    obtain ⟨k, hk⟩ : ∃ k : Nat, x.place = (k : Int) := ⟨x.place.toNat, by omega⟩
    have c := zta g.fields k x.f (by omega) (by omega)
    have m := M ⟨x.form, putS g.fields k [x.f]⟩ (by rw [z5p]; simp; omega)
    simp only [fldsV, fldV, fldC] at c; simp only at m; simp only [o1, beq_self_eq_true, cond_true, za, cF, Option.bind_some, u_asC, u_asI, u_asN, u_asA, u_asL, Int.natCast_nonneg, decide_true, nthE, Int.toNat_natCast, List.getElem?_map, e2, Option.map_some, hk, c, ze, m, z39, nbeq, z9]
    have eo : onS s x = outS s ⟨x.form, putS g.fields k [x.f]⟩ := by unfold onS; rw [if_neg g0, if_neg (by simp [h4]), if_neg h9, if_pos o1, e4, hk, Int.toNat_natCast]
    rw [eo]
  have o1' : (x.op == 1) = false := by simpa using o1
  simp only [o1', cond_false]
  by_cases o10 : x.op = 10
  · have m := M ⟨x.form, []⟩ (by simp)
    simp only [List.map_nil] at m; simp only [o10, beq_self_eq_true, cond_true, ze, m, Option.bind_some, z39, nbeq, u_asN, u_asC, u_asI, u_asL, z9, decide_true]
    have eo : onS s x = outS s ⟨x.form, []⟩ := by unfold onS; rw [if_neg g0, if_neg (by simp [h4]), if_neg h9, if_neg o1, if_pos o10]
    rw [eo]
  have o10' : (x.op == 10) = false := by simpa using o10
  have hfield : fieldS x.op = true := by simp [fieldS, o1, h9, o10]
  obtain ⟨k, f, q1, q2⟩ := e5 hfield; have hk : k < g.fields.length := (List.getElem?_eq_some_iff.1 q2).1; have hf : rgtS f = true := ((z3x h1).2 g (List.mem_of_getElem? e2)).2 f (List.mem_of_getElem? q2)
  have cA := c_yAt ⟨0, g.fields⟩ x.field (by simp; omega)
  simp only [frmV, fldsV, q1] at cA
  have cT := zwx f x (fun _ => hf) (fun o6 => by have := zg8 h2 o6; omega)
  have cC := z11j g.fields k hk (by omega)
  have hC := zga hk; have hT := ztc f x; simp only [fldV, fldC, stpV, stpC, intsV, fldsV] at cT cC; simp only [o10', cond_false, za, cF, cA, Option.bind_some, u_asC, u_asI, u_asN, u_asA, u_asL, Int.natCast_nonneg, decide_true, nthE, Int.toNat_natCast, List.getElem?_map, e2, q2, Option.map_some, cT, cond_true, u_asB, z9]
  have eo : onS s x = if (typesS f x).2 then (if (newS g.fields x (typesS f x).1).isEmpty then (sch0, 7) else outS s ⟨x.form, newS g.fields x (typesS f x).1⟩) else (sch0, 17) := by
    simp only [onS, if_neg g0, ne_eq, h4, not_true_eq_false, if_false, h9, o1, o10, e4, q1, Int.toNat_natCast, q2]
  rw [eo]
  rcases bor' ((typesS f x).2) with t | t
  · simp [t, sch0]
  simp only [t, Bool.not_true, cond_false, za, cC, Option.bind_some, u_asC, u_asL, u_asN, z9, cond_true, if_true]; have fin : ∀ (n : Nat), n ≤ (cutS g.fields k).length → newS g.fields x (typesS f x).1 = putS (cutS g.fields k) n (typesS f x).1 →
      ltbl E0 34 0 17 [iV n, .lst .ro 5 ((typesS f x).1.map fldV), iV 0] [[iV s.ver, .lst .ro 2 (s.forms.map frmV)], [iV 0, .lst .ro 2 []], [iV x.form, .lst .ro 5 ((cutS g.fields k).map fldV)]] =
        some (2, [], [[iV s.ver, .lst .ro 2 (s.forms.map frmV)], [iV 0, .lst .ro 2 []], [iV x.form, .lst .ro 5 ((newS g.fields x (typesS f x).1).map fldV)]]) := by
    intro n hn e
    have h := z11k s (cutS g.fields k) (n : Int) x.form n rfl (typesS f x).1 hn (by omega) (by omega) (typesS f x).1 0 rfl
    have z : putS (cutS g.fields k) n ((typesS f x).1.take 0) = cutS g.fields k := by simp [putS]
    rw [z] at h; rw [e]
    simpa only [Int.natCast_zero, fldsV, frmsV, List.map_nil] using h
  have fm := M ⟨x.form, newS g.fields x (typesS f x).1⟩ (by
    unfold newS; rw [z5p, q1, Int.toNat_natCast]
    omega)
  have tail : ∀ (j0 : Nat) (a : List AV) (b : List (List AV)), (j0, a, b) = (2, [], [[iV s.ver, AV.lst .ro 2 (s.forms.map frmV)], [iV 0, AV.lst .ro 2 []], [iV x.form, AV.lst .ro 5 ((newS g.fields x (typesS f x).1).map fldV)]]) →
      z8k (OA (tbl E0) (ltbl E0 34 0)) s x (fun r o => some (r, o)) j0 a b = some ([schV (if (newS g.fields x (typesS f x).1).isEmpty then (sch0, 7) else outS s ⟨x.form, newS g.fields x (typesS f x).1⟩).1, iV (if (newS g.fields x (typesS f x).1).isEmpty then (sch0, 7) else outS s ⟨x.form, newS g.fields x (typesS f x).1⟩).2], []) := by
    intro j0 a b e; injection e with a1 e; injection e with a2 a3; subst a1 a2 a3; simp only [z8k, nbeq, decide_true, cond_true, u_asN, u_asC, u_asI, u_asL, zb, List.length_map]
    cases hN : newS g.fields x (typesS f x).1 with
    | nil => simp [sch0]
    | cons y l =>
      have z : (((y :: l).length : Int) == 0) = false := by simp; omega
      rw [hN] at fm; simp only [z, cond_false, ze, fm, Option.bind_some, z39, nbeq, decide_true, cond_true, u_asN, u_asC, u_asI, u_asL, z9]; simp [schV, frmsV]
  by_cases o7 : x.op = 7
  · have p := zp2 h2 o7
    have p2 := e7 o7
    obtain ⟨n, hn⟩ : ∃ n : Nat, x.place = (n : Int) := ⟨x.place.toNat, by omega⟩
    have h := fin n (by omega) (by simp only [newS, o7, if_true, hn, Int.toNat_natCast, q1])
    simp only [o7, beq_self_eq_true, cond_true, ze, hn, h, Option.bind_some]; exact tail _ _ _ rfl
  · have o7' : (x.op == 7) = false := by simpa using o7
    have h := fin k (by omega) (by simp only [newS, o7, if_false, Int.toNat_natCast, q1])
    simp only [o7', cond_false, ze, h, Option.bind_some]; exact tail _ _ _ rfl)
theorem zhz {s : Sch} {f : Frm} (h : (outS s f).2 = 0) : schS (outS s f).1 = true ∧ (outS s f).1 = ⟨s.ver, formsS f f.fields.isEmpty s.forms⟩ := by
  unfold outS at h ⊢
  split at h
  · rename_i c; rw [if_pos c]; exact ⟨c, rfl⟩
  · simp at h
theorem z3r {s : Sch} {x : Stp} (h : (onS s x).2 = 0) : ∃ f : Frm, f.id = x.form ∧ onS s x = outS s f ∧ (x.op ≠ 10 → f.fields.isEmpty = false) ∧ schS s = true ∧ namesS s x = 0 ∧ tRightS x = true ∧ x.op ≤ 10 := by
  by_cases g0 : (!(schS s) || (!(tRightS x) || decide (10 < x.op))) = true
  · unfold onS at h; rw [if_pos g0] at h; simp at h
  · have g1 : schS s = true ∧ tRightS x = true ∧ x.op ≤ 10 := by
      simp at g0
      exact ⟨g0.1, g0.2.1, by omega⟩
    by_cases h4 : namesS s x = 0
    · by_cases h9 : x.op = 9
      · have eo : onS s x = outS s ⟨x.form, x.fields⟩ := by unfold onS; rw [if_neg g0, if_neg (by simp [h4]), if_pos h9]
        refine ⟨_, rfl, eo, fun _ => ?_, g1.1, h4, g1.2.1, g1.2.2⟩; have f9 := zg9 g1.2.1 h9; rw [z38] at f9; have := f9.2.1.1
        cases hx : x.fields with
        | nil => simp [hx] at this
        | cons a l => rfl
      · by_cases o1 : x.op = 1
        · have eo : onS s x = outS s ⟨x.form, putS (oldS s x) x.place.toNat [x.f]⟩ := by unfold onS; rw [if_neg g0, if_neg (by simp [h4]), if_neg h9, if_pos o1]
          exact ⟨_, rfl, eo, fun _ => by simp [putS], g1.1, h4, g1.2.1, g1.2.2⟩
        · by_cases o10 : x.op = 10
          · have eo : onS s x = outS s ⟨x.form, []⟩ := by unfold onS; rw [if_neg g0, if_neg (by simp [h4]), if_neg h9, if_neg o1, if_pos o10]
            exact ⟨_, rfl, eo, fun h => absurd o10 h, g1.1, h4, g1.2.1, g1.2.2⟩
          · unfold onS at h ⊢
            rw [if_neg g0, if_neg (by simp [h4]), if_neg h9, if_neg o1, if_neg o10] at h ⊢
            split at h
            · simp at h
            · rename_i g hg
              split at h
              · rename_i t
                rw [if_pos t]
                split at h
                · simp at h
                · rename_i e
                  rw [if_neg e]
                  exact ⟨_, rfl, rfl, fun _ => by simpa using e, g1.1, h4, g1.2.1, g1.2.2⟩
              · simp at h
    · unfold onS at h
      rw [if_neg g0, if_pos h4] at h; exact absurd h h4
theorem z3y {s : Sch} {x : Stp} (h : (onS s x).2 = 0) : schS (onS s x).1 = true := by
  obtain ⟨f, _, e, _⟩ := z3r h; rw [e] at h ⊢; exact (zhz h).1
theorem z7o {s : Sch} (h : schS s = true) : Few s := by
  have := z3x h
  exact ⟨by omega, fun f hf => by have := (this.2 f hf).1; omega⟩
theorem zzg (l : List Stp) (hl : l.length ≤ 1000) (hx : ∀ x ∈ l, x.sml) : ∀ (r : List Stp) (i : Nat) (s : Sch), l.drop i = r → Few s →
    ltbl E0 18 0 2 [stpsV l, iV i] [[iV s.ver, frmsV s.forms], [iV 0, frmsV []]] =
      some (if (allS s i r).2.2 = 0 then (1, [], [[iV (allS s i r).1.ver, frmsV (allS s i r).1.forms], [iV 0, frmsV []]]) else (0, [iV ((allS s i r).2.1 : Nat), iV (allS s i r).2.2], [[iV 0, frmsV []]])) := by
  intro r
  induction r with
  | nil =>
    intro i s hr hs
    have h : l.length ≤ i := by simpa using hr
    refine zow _ _ _ ?_
    have : ¬ ((i : Int) < l.length) := by omega
    simp [zg3, this, allS]
  | cons x r ih =>
    intro i s hr hs; obtain ⟨hlt, hget, hr2⟩ := zl hr
    have h2 : (i : Int) < l.length := by omega
    have e1 := zh (i := i) (by omega)
    have c := c_zOn s x hs (hx x (z11 hr)); simp only [schV, frmsV, stpV, stpC, intsV, fldsV] at c; refine zow _ _ _ ?_; simp only [stpV, stpC, intsV, fldsV, frmsV, List.map_nil] at ih ⊢; simp only [zg3, z8l, zb, List.length_map, h2, decide_true, cond_true, z9, Int.natCast_nonneg, nthE, Int.toNat_natCast, List.getElem?_map, hget, Option.map_some, u_asA, u_asC, u_asI, u_asS, u_asL, u_asN, za, c, Option.bind_some, e1, zx, zj]
    by_cases h : (onS s x).2 = 0
    · have h' : ((onS s x).2 != 0) = false := by simp [h]
      have e := ih (i + 1) (onS s x).1 hr2 (z7o (z3y h)); simp only [h', cond_false, e, allS, if_pos h]
    · have h' := bne_t h
      simp only [h', cond_true, allS, if_neg h]
theorem ztd (s : Sch) (l : List Stp) (hs : Few s) (hl : l.length ≤ 1000) (hx : ∀ x ∈ l, x.sml) : tbl E0 18 [schV s, stpsV l] [] = some ([schV (allS s 0 l).1, iV ((allS s 0 l).2.1 : Nat), iV (allS s 0 l).2.2], []) := z11e s l (by
  have c := zzg l hl hx l 0 s rfl hs
  have z : ∀ (l : List Stp) (i : Nat) (s : Sch), ((allS s i l).2.2 = 0 → (allS s i l).2.1 = 0) ∧ ((allS s i l).2.2 ≠ 0 → (allS s i l).1 = sch0) := by
    intro l
    induction l with
    | nil => intro i s; simp [allS]
    | cons x l ih =>
      intro i s; unfold allS
      by_cases h : (onS s x).2 = 0
      · rw [if_pos h]; exact ih _ _
      · rw [if_neg h]; exact ⟨fun h2 => absurd h2 h, fun _ => rfl⟩
  obtain ⟨z1, z2⟩ := z l 0 s; simp only [Int.natCast_zero, stpsV, frmsV, List.map_nil] at c; simp only [zso, z9, cond_true, ze, c, Option.bind_some]
  by_cases h : (allS s 0 l).2.2 = 0
  · simp [h, z1 h]
  · simp [h, z2 h, sch0])
end Go.Proofs.YtjkjhgfiaodgmaaGreat.V
namespace Go.Proofs.YtjkjhgfiaodgmaaGreat.V
open Go
theorem zte (f : Fld) (a b : Int) : tbl E0 118 [fldV f, iV a, iV b] [] = some ([fldV (scaledS f a b), .bool (rgtS (scaledS f a b))], []) := zsv f a b (by
  have c3 := z3w (scaledS f a b)
  have m1 : (if IntKind.i64.wrap (IntKind.i64.wrap (a * f.hi) + b) < IntKind.i64.wrap (IntKind.i64.wrap (a * f.lo) + b) then IntKind.i64.wrap (IntKind.i64.wrap (a * f.hi) + b) else IntKind.i64.wrap (IntKind.i64.wrap (a * f.lo) + b)) = minS (affS a b f.lo) (affS a b f.hi) := rfl
  have m2 : (if IntKind.i64.wrap (IntKind.i64.wrap (a * f.lo) + b) < IntKind.i64.wrap (IntKind.i64.wrap (a * f.hi) + b) then IntKind.i64.wrap (IntKind.i64.wrap (a * f.hi) + b) else IntKind.i64.wrap (IntKind.i64.wrap (a * f.lo) + b)) = maxS (affS a b f.lo) (affS a b f.hi) := rfl
  simp only [fldV, fldC, scaledS] at c3; simp only [zhu, z68, z67, z9, cond_true, za, m1, m2, c3, Option.bind_some, u_asC, u_asB, u_asN, zj, zx]
  rfl)
theorem oshE4 : (nodupN (List.map (fun x => x.fst) (oshOf T0 0 [AV.ref 0 0] Tryz.f101.params.toList)) && (oshOf T0 0 [AV.ref 0 0] Tryz.f101.params.toList).all fun p => p.fst.blt 64) = true := by kernel_rfl
theorem oshE5 : (nodupN (List.map (fun x => x.fst) (oshOf T0 0 [AV.ref 0 0] Tryz.f67.params.toList)) && (oshOf T0 0 [AV.ref 0 0] Tryz.f67.params.toList).all fun p => p.fst.blt 64) = true := by kernel_rfl
theorem oshE6 : (nodupN (List.map (fun x => x.fst) (oshOf T0 0 [AV.ref 0 0] Tryz.f70.params.toList)) && (oshOf T0 0 [AV.ref 0 0] Tryz.f70.params.toList).all fun p => p.fst.blt 64) = true := by kernel_rfl
set_option maxHeartbeats 2000000 in
theorem zqh (x : Stp) (v : Int) (l : List Frm) (p e : Int) (o1 : x.op = 1) : tbl E0 101 [.ref 0 0] [(0, madO x v l p e)] = some ([fldsU [x.f], iV 0, .bool true], [(0, madO x v l p e)]) := zhv x v l p e (by
  have q := z13 l; have o := oshE4; rw [Bool.and_eq_true] at o
  have o1' : (x.op == 1) = true := by simpa using o1
  simp only [zb2, z31, o.1, o.2, List.all_cons, List.all_nil, fitA, Bool.and_self, cond_true, z9, q, o1', fldsU, List.map_cons, List.map_nil])
set_option maxHeartbeats 2000000 in
theorem ztf (x : Stp) (v : Int) (l : List Frm) (p e : Nat) (g : Frm) (f : Fld) (hg : l[p]? = some g) (hf : g.fields[e]? = some f) (hr : f.kind = 3 → rgtS f = true) (o1 : x.op ≠ 1) (ha : x.op = 6 → x.a ≠ 0) :
    tbl E0 101 [.ref 0 0] [(0, madO x v l p e)] = some ([fldsU (turnedS f x).1, iV 1, .bool (turnedS f x).2], [(0, madO x v l p e)]) := zhv x v l p e (by
  have q := z13 l; have o := oshE4; rw [Bool.and_eq_true] at o
  have o1' : (x.op == 1) = false := by simpa using o1
  have c := zt8 x v l p e g f hg hf; have c1 := zsw f x.n x.s; have c2 := zwt f x.f; have c3 := zte f x.a x.b; simp only [fldV, fldC] at c c1 c2 c3; simp only [zb2, z69, z6a, z31, o.1, o.2, List.all_cons, List.all_nil, fitA, Bool.and_self, cond_true, cond_false, z9, q, o1', zi, c, Option.bind_some, nbeq, decide_true, u_asN, u_asC, u_asI, u_asS, u_asL, zq, u_asA, u_asB]
  by_cases h2 : x.op = 2
  · have t2 : (x.op == 2) = true := by simpa using h2
    have e2 : turnedS f x = ([], hasV f x.n x.s) := by simp [turnedS, h2]
    rw [e2]; simp only [t2, cond_true, za, c1, Option.bind_some, u_asC, u_asB, u_asN, q]; rfl
  have g2 := beq_f h2
  by_cases h3 : x.op = 3
  · have t3 : (x.op == 3) = true := by simpa using h3
    have e3 : turnedS f x = ([x.f], widerS f x.f) := by simp [turnedS, h3]
    rw [e3]; simp only [g2, t3, cond_true, cond_false, za, c2, Option.bind_some, u_asC, u_asB, u_asN, q, zj, z9]; rfl
  have g3 := beq_f h3
  by_cases h4 : x.op = 4
  · have t4 : (x.op == 4) = true := by simpa using h4
    simp only [t4, g2, g3, cond_true, cond_false, z9]
    have e4 : turnedS f x = (if f.kind = 1 then ([scaledS f x.a x.b], rgtS (scaledS f x.a x.b)) else ([f], false)) := by simp [turnedS, h4]
    by_cases k : f.kind = 1
    · have k' : (f.kind == 1) = true := by simpa using k
      rw [e4, if_pos k]; simp only [k', cond_true, za, c3, Option.bind_some, u_asC, u_asA, u_asI, u_asB, u_asN, q]; rfl
    · have k' : (f.kind == 1) = false := by simpa using k
      rw [e4, if_neg k]; simp only [k', cond_false, q, cond_true]; rfl
  have g4 := beq_f h4
  by_cases h5 : x.op = 5
  · have t5 : (x.op == 5) = true := by simpa using h5
    have e5 : turnedS f x = ([⟨f.id, f.kind, f.lo, f.hi, x.a⟩], f.kind == 3 && f.most == (x.t.length : Int)) := by simp [turnedS, h5]
    rw [e5]; simp only [t5, g2, g3, g4, cond_true, cond_false, z9, zb, zk, List.length_map, q]
    rcases bor (f.kind == 3) with k | k <;> simp only [k, cond_true, cond_false, Option.bind_some, Tok.untok_tok, Bool.true_and, Bool.false_and] <;> rfl
  have g5 := beq_f h5
  by_cases h6 : x.op = 6
  · have t6 : (x.op == 6) = true := by simpa using h6
    have e6 : turnedS f x = ([⟨f.id, f.kind, f.lo, IntKind.i64.wrap (f.hi.tdiv x.a), f.most⟩, ⟨x.to, 1, 0, minS (IntKind.i64.wrap (x.a - 1)) f.hi, 0⟩], f.kind == 1 && f.lo == 0) := by simp [turnedS, h6]
    have ha' : (!(x.a == (0 : Int))) = true := by simpa using ha h6
    have m1 : (if f.hi < IntKind.i64.wrap (x.a - 1) then f.hi else IntKind.i64.wrap (x.a - 1)) = minS (IntKind.i64.wrap (x.a - 1)) f.hi := rfl
    rw [e6]; simp only [t6, g2, g3, g4, g5, cond_true, cond_false, z9, zb, zk, ha', m1, q]
    rcases bor (f.kind == 1) with k | k <;> simp only [k, cond_true, cond_false, Option.bind_some, Tok.untok_tok, Bool.true_and, Bool.false_and] <;> rfl
  have g6 := beq_f h6
  have e7 : turnedS f x = ([⟨x.to, f.kind, f.lo, f.hi, f.most⟩], true) := by simp [turnedS, h2, h3, h4, h5, h6]
  rw [e7]; simp only [g2, g3, g4, g5, g6, cond_false, cond_true, z9, q]
  rfl)
def thereS (x : Stp) (g : Frm) (e n : Int) : Int :=
  if e < 0 then 8 else if decide (0 ≤ n) && decide (0 ≤ atS g.fields n) then 9
  else if x.op == 1 && decide ((g.fields.length : Int) < x.place) then 3 else if x.op == 7 && decide ((g.fields.length : Int) ≤ x.place) then 3 else 0
def atG (x : Stp) (g : Frm) : Int := if x.op = 1 then x.place else if x.op = 10 then 0 else atS g.fields x.field
def freshG (x : Stp) : Int := if x.op = 1 then x.f.id else if x.op = 6 ∨ x.op = 8 then x.to else -1
theorem ztg (x : Stp) (v : Int) (l : List Frm) (p e : Int) (g : Frm) (n : Int) (hg : g.fields.length ≤ 1000) :
    ltbl E0 67 0 1000020 [iV n] [madO x v l p e, [iV g.id, fldsV g.fields]] = some (0, [iV (thereS x g e n)], [madO x v l p e]) := zst x v l p e g n (by
  have q := z13 l
  have c := c_sAt g n (by omega)
  simp only [frmV, fldsV] at c; simp only [zhs, q, cond_true, zk, z9, za, c, Option.bind_some, u_asC, u_asI, u_asN, zb, List.length_map, ge_iff_le, gt_iff_lt]; unfold thereS
  by_cases e0 : e < 0
  · simp only [e0, decide_true, cond_true, if_true]
  · simp only [e0, decide_false, cond_false, if_false]
    rw [z2g]; simp only [Option.bind_some, Tok.untok_tok, z2g, z7n]
    rcases bor (decide (0 ≤ n) && decide (0 ≤ atS g.fields n)) with a | a
    · simp only [a, cond_true, if_true]
    · simp only [a, cond_false, Bool.false_eq_true, if_false, Option.bind_some, Tok.untok_tok]
      rcases bor (x.op == 1 && decide ((g.fields.length : Int) < x.place)) with b | b
      · simp only [b, cond_true, if_true]
      · simp only [b, cond_false, Bool.false_eq_true, if_false, Option.bind_some, Tok.untok_tok]
        rcases bor (x.op == 7 && decide ((g.fields.length : Int) ≤ x.place)) with c | c <;> simp only [c, cond_true, cond_false, Bool.false_eq_true, if_true, if_false])
theorem z72 (a b : AV) : setAt ((tabAt T0 (E0.an 67 0)).ty 61).zero 0 [a, b] = [a, b] := rfl
theorem s72 : ((tabAt T0 (E0.an 67 0)).ty 61).size = 2 := by kernel_rfl
theorem d72 (g : Frm) : List.map AV.dem1 [iV g.id, fldsV g.fields] = [iV g.id, fldsV g.fields] := rfl
theorem dS72 (g : Frm) : demSL [Sh.int .i64, Sh.lst 5] [iV g.id, fldsV g.fields] = [iV g.id, fldsV g.fields] := rfl
theorem f72 (g : Frm) : (AV.agg [iV g.id, fldsV g.fields]).flat = true := rfl
theorem f72' (g : Frm) : ([iV g.id, fldsV g.fields]).all AV.flat1 = true := rfl
theorem fI (n : Int) : (iV n).flat = true := rfl
theorem b22 : Nat.ble 2 2 = true := rfl
theorem zth {id : Int} {l : List Frm} {g : Frm} (h : l[posS id l]? = some g) (e : g.id = id) : hereS id l = true := by
  simp [hereS, h, e]
set_option maxHeartbeats 4000000 in
theorem zti (x : Stp) (v : Int) (l : List Frm) (p e : Int) (hl : l.length ≤ 1000) (o : x.op = 9) :
    tbl E0 67 [.ref 0 0] [(0, madO x v l p e)] = some ([iV (if hereS x.form l then 9 else 0)], [(0, madO x v l (posS x.form l) e)]) := zdf x v l p e (by
  have q := z13 l; have o5 := oshE5; rw [Bool.and_eq_true] at o5; have c := zg7 x v l p e hl
  have t : (x.op == 9) = true := by simpa using o
  simp only [z8n, z31, o5.1, o5.2, List.all_cons, List.all_nil, fitA, Bool.and_self, cond_true, z9, q, zi, c, Option.bind_some, nbeq, decide_true, u_asN, u_asC, u_asI, u_asS, u_asL, zq, u_asB, t]
  rcases bor (hereS x.form l) with h | h <;> simp only [h, cond_true, cond_false, if_true, Bool.false_eq_true, if_false])
set_option maxHeartbeats 4000000 in
theorem ztj (x : Stp) (v : Int) (l : List Frm) (p e : Int) (hl : l.length ≤ 1000) (o : x.op ≠ 9) (h : hereS x.form l = false) :
    tbl E0 67 [.ref 0 0] [(0, madO x v l p e)] = some ([iV 8], [(0, madO x v l (posS x.form l) e)]) := zdf x v l p e (by
  have q := z13 l; have o5 := oshE5; rw [Bool.and_eq_true] at o5; have c := zg7 x v l p e hl; have t := beq_f o; simp only [z8n, z31, o5.1, o5.2, List.all_cons, List.all_nil, fitA, Bool.and_self, cond_true, z9, q, zi, c, Option.bind_some, nbeq, decide_true, u_asN, u_asC, u_asI, u_asS, u_asL, zq, u_asB, t, h, cond_false, Bool.not_false])
set_option maxHeartbeats 4000000 in
theorem zwz (x : Stp) (v : Int) (l : List Frm) (p e : Int) (hl : l.length ≤ 1000) (hf : ∀ f ∈ l, f.fields.length ≤ 1000) (o : x.op ≠ 9) (g : Frm) (hg : l[posS x.form l]? = some g) (he : g.id = x.form) :
    tbl E0 67 [.ref 0 0] [(0, madO x v l p e)] = some ([iV (thereS x g (atG x g) (freshG x))], [(0, madO x v l (posS x.form l) (atG x g))]) := zdf x v l p e (by
  have q := z13 l; have o5 := oshE5; rw [Bool.and_eq_true] at o5; have c := zg7 x v l p e hl; have t := beq_f o; have h := zth hg he; have hlt : posS x.form l < l.length := (List.getElem?_eq_some_iff.1 hg).1
  have hlt2 : ((posS x.form l : Nat) : Int) < l.length := by omega
  have hgl := hf g (List.mem_of_getElem? hg)
  have cA := c_sAt g x.field (by omega)
  have M := fun (e n : Int) => ztg x v l (posS x.form l) e g n hgl; simp only [frmV, fldsV] at cA; simp only [z8n, z31, o5.1, o5.2, List.all_cons, List.all_nil, fitA, Bool.and_self, cond_true, z9, q, zi, c, Option.bind_some, nbeq, decide_true, u_asN, u_asC, u_asI, u_asS, u_asL, zq, u_asB, t, h, cond_false, Bool.not_true, z7a, List.length_map, hlt2, Int.natCast_nonneg, z3q, nthE, Int.toNat_natCast, List.getElem?_map, hg, Option.map_some, zj, zx, AV.cells, List.length_cons, List.length_nil, List.drop_zero, List.take_succ_cons, List.take_zero, z72, s72]
  simp only [Nat.zero_add, Nat.reduceAdd, b22, cond_true, d72, dS72, f72, f72', fI, List.take_succ_cons, List.take_zero, Bool.and_self, Bool.true_and, za]; simp only [fldsV] at M ⊢; simp only [cA, Option.bind_some, u_asC, u_asI, u_asN]
  by_cases o1 : x.op = 1
  · have t1 : (x.op == 1) = true := by simpa using o1
    have e1 : atG x g = x.place := by simp [atG, o1]
    have e2 : freshG x = x.f.id := by simp [freshG, o1]
    rw [e1, e2]; simp only [t1, cond_true, ze, M, Option.bind_some, z1y, nbeq, decide_true, u_asN, u_asC, u_asI, u_asS, u_asL, zq, q]
  have t1 := beq_f o1
  by_cases o6 : x.op = 6 ∨ x.op = 8
  · have e1 : atG x g = atS g.fields x.field := by
      have : ¬ x.op = 10 := by omega
      simp [atG, o1, this]
    have e2 : freshG x = x.to := by simp [freshG, o1, o6]
    rw [e1, e2]
    have k3 : z55 (OA (tbl E0) (ltbl E0 67 0)) x v l p e (fun r o => some (r, o)) (List.map frmV l) x.to x.op x.form x.field x.place x.a x.b x.f.id x.f.kind x.f.lo x.f.hi x.f.most x.n x.s (List.map (fun n => iV n) x.t) (List.map fldV x.fields) v (posS x.form l) (atS g.fields x.field) (frmV g) = some ([iV (thereS x g (atS g.fields x.field) x.to)], [(0, madO x v l (posS x.form l) (atS g.fields x.field))]) := by
      simp only [z55, q, cond_true, AV.cells, List.drop_zero, List.take_succ_cons, List.take_zero, z72, s72, d72, ze]; simp only [fldsV, M, Option.bind_some, z1y, nbeq, decide_true, cond_true, u_asN, u_asC, u_asI, u_asS, u_asL, zq, q]
    rcases o6 with o6 | o6
    · have t6 : (x.op == 6) = true := by simpa using o6
      simp only [t1, t6, cond_true, cond_false, k3]
    · have t8 : (x.op == 8) = true := by simpa using o6
      have t6 : (x.op == 6) = false := by simp [o6]
      simp only [t1, t6, t8, cond_true, cond_false, k3]
  have t6 : (x.op == 6) = false := beq_f (by omega)
  have t8 : (x.op == 8) = false := beq_f (by omega)
  have e2 : freshG x = -1 := by simp [freshG, o1, o6]
  by_cases o10 : x.op = 10
  · have t10 : (x.op == 10) = true := by simpa using o10
    have e1 : atG x g = 0 := by simp [atG, o10]
    rw [e1, e2]; simp only [t1, t6, t8, t10, cond_true, cond_false, ze, M, Option.bind_some, z1y, nbeq, decide_true, u_asN, u_asC, u_asI, u_asS, u_asL, zq, q]
  · have t10 := beq_f o10
    have e1 : atG x g = atS g.fields x.field := by simp [atG, o1, o10]
    rw [e1, e2]; simp only [t1, t6, t8, t10, cond_true, cond_false, ze, M, Option.bind_some, z1y, nbeq, decide_true, u_asN, u_asC, u_asI, u_asS, u_asL, zq, q])
theorem E0_X : E0.X = X0 := rfl
theorem z11m (l : List Fld) (k : Nat) (hk : k < l.length) : tbl E0 100 [fldsU l, iV k, iV ((k + 1 : Nat) : Int)] [] = some ([fldsU (cutS l k)], []) := tbl_X (by
  have h1 : (0 : Int) ≤ k := by omega
  have h2 : (k : Int) ≤ ((k + 1 : Nat) : Int) := by omega
  have h3 : ((k + 1 : Nat) : Int) ≤ l.length := by omega
  have e : X0 100 [fldsU l, iV k, iV ((k + 1 : Nat) : Int)] [] = delX 5 [fldsU l, iV k, iV ((k + 1 : Nat) : Int)] [] := rfl; rw [E0_X, e]; simp only [delX, fldsU, List.length_map, h1, h2, h3, nbeq, decide_true, Bool.and_self, cond_true, Int.toNat_natCast, cutS, List.map_append, List.map_take, List.map_drop])
theorem z11n (l : List Fld) (n : Nat) (m : List Fld) (hn : n ≤ l.length) (hl : l.length + m.length ≤ 1000) : tbl E0 99 [fldsU l, iV n, fldsU m] [] = some ([fldsU (putS l n m)], []) := tbl_X (by
  have h1 : (0 : Int) ≤ n := by omega
  have h2 : (n : Int) ≤ l.length := by omega
  have h3 : (l.length + m.length) * 40 ≤ 211106232532992 := by omega
  have e : X0 99 [fldsU l, iV n, fldsU m] [] = insX 5 40 [fldsU l, iV n, fldsU m] [] := rfl; rw [E0_X, e]; simp only [insX, fldsU, List.length_map, h1, h2, h3, nbeq, decide_true, Bool.and_self, cond_true, Int.toNat_natCast, putS, List.map_append, List.map_take, List.map_drop])
theorem z11o (l : List Fld) (n k : Nat) (m : List Fld) (hn : n ≤ k) (hk : k ≤ l.length) (hl : l.length + m.length ≤ 1000) : tbl E0 102 [fldsU l, iV n, iV k, fldsU m] [] = some ([fldsU (l.take n ++ m ++ l.drop k)], []) := tbl_X (by
  have h1 : (0 : Int) ≤ n := by omega
  have h2 : (n : Int) ≤ k := by omega
  have h4 : (k : Int) ≤ l.length := by omega
  have h3 : (l.length + m.length) * 40 ≤ 211106232532992 := by omega
  have e : X0 102 [fldsU l, iV n, iV k, fldsU m] [] = repX 5 40 [fldsU l, iV n, iV k, fldsU m] [] := rfl; rw [E0_X, e]; simp only [repX, fldsU, List.length_map, h1, h2, h3, h4, nbeq, decide_true, Bool.and_self, cond_true, Int.toNat_natCast, List.map_append, List.map_take, List.map_drop])
theorem z11p (l : List Frm) (n : Nat) (m : List Frm) (hn : n ≤ l.length) (hl : l.length + m.length ≤ 3000) : tbl E0 68 [frmsU l, iV n, frmsU m] [] = some ([frmsU (l.take n ++ m ++ l.drop n)], []) := tbl_X (by
  have h1 : (0 : Int) ≤ n := by omega
  have h2 : (n : Int) ≤ l.length := by omega
  have h3 : (l.length + m.length) * 32 ≤ 211106232532992 := by omega
  have e : X0 68 [frmsU l, iV n, frmsU m] [] = insX 2 32 [frmsU l, iV n, frmsU m] [] := rfl; rw [E0_X, e]; simp only [insX, frmsU, List.length_map, h1, h2, h3, nbeq, decide_true, Bool.and_self, cond_true, Int.toNat_natCast, List.map_append, List.map_take, List.map_drop])
theorem z11q (l : List Frm) (k : Nat) (hk : k < l.length) : tbl E0 69 [frmsU l, iV k, iV ((k + 1 : Nat) : Int)] [] = some ([frmsU (l.take k ++ l.drop (k + 1))], []) := tbl_X (by
  have h1 : (0 : Int) ≤ k := by omega
  have h2 : (k : Int) ≤ ((k + 1 : Nat) : Int) := by omega
  have h3 : ((k + 1 : Nat) : Int) ≤ l.length := by omega
  have e : X0 69 [frmsU l, iV k, iV ((k + 1 : Nat) : Int)] [] = delX 2 [frmsU l, iV k, iV ((k + 1 : Nat) : Int)] [] := rfl; rw [E0_X, e]; simp only [delX, frmsU, List.length_map, h1, h2, h3, nbeq, decide_true, Bool.and_self, cond_true, Int.toNat_natCast, List.map_append, List.map_take, List.map_drop])
theorem zlu {α : Type} {A : Alg α} (g : Frm) (m : List Fld) (k : AV → α) : putC A (frmV g) (setAt (frmV g).cells 1 [fldsV m]) k = k (frmV ⟨g.id, m⟩) := Eq.trans rfl rfl
set_option maxHeartbeats 4000000 in
theorem zqi (x : Stp) (v : Int) (l : List Frm) (p e n : Nat) (g : Frm) (f : Fld) (hg : l[p]? = some g) (hf : g.fields[e]? = some f) (o7 : x.op = 7) (hn : x.place = n) (hn2 : n < g.fields.length) (hgl : g.fields.length ≤ 900) :
    tbl E0 70 [.ref 0 0] [(0, madO x v l p e)] = some ([.bool true], [(0, madO x v (l.set p ⟨g.id, putS (cutS g.fields e) n [f]⟩) p e)]) := zhw x v l p e (by
  have q := z13 l; have q2 := z3b; have o6 := oshE6; rw [Bool.and_eq_true] at o6; have hp : p < l.length := (List.getElem?_eq_some_iff.1 hg).1
  have hp2 : (p : Int) < l.length := by omega
  have he : e < g.fields.length := (List.getElem?_eq_some_iff.1 hf).1; have cf := zb4 x v l p e g hg
  have cc := z6d g.fields (by omega)
  have co := zt8 x v l p e g f hg hf; have cd := z11m g.fields e he; have hC := zga he
  have ci := z11n (cutS g.fields e) n [f] (by omega) (by simp; omega)
  have e1 := zh (i := e) (by omega)
  have t7 : (x.op == 7) = true := by simpa using o7
  simp only [fldsV, fldsU, fldV, fldC, List.map_cons, List.map_nil] at cf cc co cd ci; rw [← hn] at ci; have qf : ([AV.agg [iV f.id, iV f.kind, iV f.lo, iV f.hi, iV f.most]] : List AV).all AV.flat = true := rfl
  have k5 : z2p (OA (tbl E0) (ltbl E0 70 0)) x v l p e (fun r o => (some (r, o) : Option CR)) [AV.lst .uq 5 (List.map fldV (putS (cutS g.fields e) n [f]))] [] p (List.map frmV l) x.op x.form x.field x.place x.to x.a x.b x.f.id x.f.kind x.f.lo x.f.hi x.f.most x.n x.s (List.map (fun n => iV n) x.t) (List.map fldV x.fields) v e = some ([.bool true], [(0, madO x v (l.set p ⟨g.id, putS (cutS g.fields e) n [f]⟩) p e)]) := by
    have z := zlu (α := Option CR) (A := OA (tbl E0) (ltbl E0 70 0)) g (putS (cutS g.fields e) n [f]); simp only [fldsV] at z; have z2 : Nat.ble (1 + [AV.lst Md.ro 5 (List.map fldV (putS (cutS g.fields e) n [f]))].length) (frmV g).cells.length = true := rfl; have z3 : (frmV ⟨g.id, putS (cutS g.fields e) n [f]⟩).flat = true := rfl; have z4 := z13 (l.set p ⟨g.id, putS (cutS g.fields e) n [f]⟩)
    have z5 : (List.map frmV l).set p (frmV ⟨g.id, putS (cutS g.fields e) n [f]⟩) = List.map frmV (l.set p ⟨g.id, putS (cutS g.fields e) n [f]⟩) := by rw [List.map_set]
    simp only [z2p, u_asC, zq, u_asN, q2, cond_true, zx, z9, Int.natCast_nonneg, List.length_map, hp2, decide_true, Bool.and_self, nthE, Int.toNat_natCast, List.getElem?_map, hg, Option.map_some, z, z2, z3, z4, z5]
  have k1 : z3a (OA (tbl E0) (ltbl E0 70 0)) x v l p e (fun r o => (some (r, o) : Option CR)) (List.map fldV (cutS g.fields e)) x.place f.id f.kind f.lo f.hi f.most p (List.map frmV l) x.op x.form x.field x.to x.a x.b x.f.id x.f.kind x.f.lo x.f.hi x.f.most x.n x.s (List.map (fun n => iV n) x.t) (List.map fldV x.fields) v e = some ([.bool true], [(0, madO x v (l.set p ⟨g.id, putS (cutS g.fields e) n [f]⟩) p e)]) := by
    simp only [z3a, q2, cond_true, zi, ci, Option.bind_some, k5]
  have k2 : z1k (OA (tbl E0) (ltbl E0 70 0)) x v l p e (fun r o => (some (r, o) : Option CR)) (List.map fldV g.fields) e x.place f.id f.kind f.lo f.hi f.most p (List.map frmV l) x.op x.form x.field x.to x.a x.b x.f.id x.f.kind x.f.lo x.f.hi x.f.most x.n x.s (List.map (fun n => iV n) x.t) (List.map fldV x.fields) v = some ([.bool true], [(0, madO x v (l.set p ⟨g.id, putS (cutS g.fields e) n [f]⟩) p e)]) := by
    simp only [z1k, q2, cond_true, zi, e1, cd, Option.bind_some, u_asC, zq, u_asN, k1]
  simp only [zb3, z31, o6.1, o6.2, List.all_cons, List.all_nil, fitA, Bool.and_self, cond_true, z9, q, zi, cf, cc, co, Option.bind_some, nbeq, decide_true, u_asN, u_asC, u_asI, u_asS, u_asL, zq, u_asA, t7, z6b, z6c, z4k, z4l, q2, e1, cd, k1, k2, zj, zx])
set_option maxHeartbeats 4000000 in
theorem zf5 (x : Stp) (v : Int) (l : List Frm) (p e n : Nat) (g : Frm) (m : List Fld) (b : Bool) (hg : l[p]? = some g) (o7 : x.op ≠ 7) (hn : n ≤ 1) (hen : e + n ≤ g.fields.length) (hgl : g.fields.length ≤ 900) (hm : m.length ≤ 8)
    (ht : tbl E0 101 [.ref 0 0] [(0, madO x v l p e)] = some ([fldsU m, iV n, .bool b], [(0, madO x v l p e)])) :
    tbl E0 70 [.ref 0 0] [(0, madO x v l p e)] = some ([.bool b], [(0, madO x v (if b then l.set p ⟨g.id, g.fields.take e ++ m ++ g.fields.drop (e + n)⟩ else l) p e)]) := zhw x v l p e (by
  have q := z13 l; have q2 := z3b; have o6 := oshE6; rw [Bool.and_eq_true] at o6; have hp : p < l.length := (List.getElem?_eq_some_iff.1 hg).1
  have hp2 : (p : Int) < l.length := by omega
  have cf := zb4 x v l p e g hg
  have cc := z6d g.fields (by omega)
  have cr := z11o g.fields e (e + n) m (by omega) hen (by omega)
  have e1 : IntKind.i64.wrap ((e : Int) + n) = ((e + n : Nat) : Int) := by rw [wrap_i64 _ (by omega) (by omega)]; omega
  have t7 := beq_f o7; simp only [fldsV, fldsU] at cf cc cr ht; generalize hN : g.fields.take e ++ m ++ g.fields.drop (e + n) = nw at cr ⊢
  have k5 : z2p (OA (tbl E0) (ltbl E0 70 0)) x v l p e (fun r o => (some (r, o) : Option CR)) [AV.lst .uq 5 (List.map fldV nw)] [] p (List.map frmV l) x.op x.form x.field x.place x.to x.a x.b x.f.id x.f.kind x.f.lo x.f.hi x.f.most x.n x.s (List.map (fun n => iV n) x.t) (List.map fldV x.fields) v e = some ([.bool true], [(0, madO x v (l.set p ⟨g.id, nw⟩) p e)]) := by
    have z := zlu (α := Option CR) (A := OA (tbl E0) (ltbl E0 70 0)) g nw; simp only [fldsV] at z; have z2 : Nat.ble (1 + [AV.lst Md.ro 5 (List.map fldV nw)].length) (frmV g).cells.length = true := rfl; have z3 : (frmV ⟨g.id, nw⟩).flat = true := rfl; have z4 := z13 (l.set p ⟨g.id, nw⟩)
    have z5 : (List.map frmV l).set p (frmV ⟨g.id, nw⟩) = List.map frmV (l.set p ⟨g.id, nw⟩) := by rw [List.map_set]
    simp only [z2p, u_asC, zq, u_asN, q2, cond_true, zx, z9, Int.natCast_nonneg, List.length_map, hp2, decide_true, Bool.and_self, nthE, Int.toNat_natCast, List.getElem?_map, hg, Option.map_some, z, z2, z3, z4, z5]
  simp only [zb3, z31, o6.1, o6.2, List.all_cons, List.all_nil, fitA, Bool.and_self, cond_true, cond_false, z9, q, zi, cf, cc, ht, Option.bind_some, nbeq, decide_true, u_asN, u_asC, u_asI, u_asS, u_asL, zq, u_asA, u_asB, t7, zx]
  rcases bor b with hb | hb
  · simp only [hb, Bool.not_true, cond_false, q2, cond_true, zi, e1, cr, Option.bind_some, k5, if_true]
  · simp only [hb, Bool.not_false, cond_true, q, Bool.false_eq_true, if_false])
end Go.Proofs.YtjkjhgfiaodgmaaGreat.V
namespace Go.Proofs.YtjkjhgfiaodgmaaGreat.V
open Go
theorem z6u (f : Frm) : ∀ (l : List Frm) (n : Int), risingS n l = true → f.id ≤ n → bodyS f true l = l
  | [], _, _, _ => rfl
  | g :: l, n, h, hn => by
    simp only [risingS, Bool.and_eq_true, decide_eq_true_eq] at h
    have : g.id ≠ f.id := by omega
    simp only [bodyS, Bool.not_true, Bool.false_and, Bool.false_eq_true, if_false, List.nil_append, ne_eq, this, not_false_eq_true, if_true, Bool.true_or, z6u f l g.id h.2 (by omega)]
    rfl
theorem z5e (f : Frm) : ∀ l : List Frm, doneS f true l = true
  | [] => rfl
  | g :: l => by simp only [doneS, Bool.true_or, z5e f l]
theorem zi0 (f : Frm) : ∀ (l : List Frm) (n : Int), risingS n l = true → hereS f.id l = true → formsS f false l = l.set (posS f.id l) f
  | [], _, _, h => by simp [hereS, posS] at h
  | g :: l, n, hr, h => by
    simp only [risingS, Bool.and_eq_true, decide_eq_true_eq] at hr
    by_cases c : g.id < f.id
    · have h2 : hereS f.id l = true := by simpa [hereS, posS, c] using h
      have ih := zi0 f l g.id hr.2 h2
      have n1 : ¬ (f.id ≤ g.id) := by omega
      have n2 : g.id ≠ f.id := by omega
      simp only [formsS, bodyS, doneS, n1, n2, decide_false, Bool.and_false, Bool.or_false, Bool.false_eq_true, if_false, ne_eq, not_false_eq_true, if_true, List.nil_append, List.cons_append, posS, c, List.set_cons_succ]; rw [← ih]; rfl
    · have e : g.id = f.id := by simpa [hereS, posS, c] using h
      have n1 : f.id ≤ g.id := by omega
      simp [formsS, bodyS, doneS, n1, e, posS, c, z5e, z6u f l g.id hr.2 n1]
theorem zi1 (f : Frm) : ∀ (l : List Frm) (n : Int), risingS n l = true → hereS f.id l = false → formsS f false l = l.take (posS f.id l) ++ [f] ++ l.drop (posS f.id l)
  | [], _, _, h => by simp [formsS, bodyS, doneS, posS]
  | g :: l, n, hr, h => by
    simp only [risingS, Bool.and_eq_true, decide_eq_true_eq] at hr
    by_cases c : g.id < f.id
    · have h2 : hereS f.id l = false := by simpa [hereS, posS, c] using h
      have ih := zi1 f l g.id hr.2 h2
      have n1 : ¬ (f.id ≤ g.id) := by omega
      have n2 : g.id ≠ f.id := by omega
      simp only [formsS, bodyS, doneS, n1, n2, decide_false, Bool.and_false, Bool.or_false, Bool.false_eq_true, if_false, ne_eq, not_false_eq_true, if_true, List.nil_append, List.cons_append, posS, c, List.take_succ_cons, List.drop_succ_cons]; simp only [formsS] at ih; rw [ih]
    · have e : g.id ≠ f.id := by simpa [hereS, posS, c] using h
      have n1 : f.id ≤ g.id := by omega
      simp [formsS, bodyS, doneS, n1, e, posS, c, z5e, z6u f l g.id hr.2 n1]
theorem zi2 (f : Frm) : ∀ (l : List Frm) (n : Int), risingS n l = true → hereS f.id l = true → formsS f true l = l.take (posS f.id l) ++ l.drop (posS f.id l + 1)
  | [], _, _, h => by simp [hereS, posS] at h
  | g :: l, n, hr, h => by
    simp only [risingS, Bool.and_eq_true, decide_eq_true_eq] at hr
    by_cases c : g.id < f.id
    · have h2 : hereS f.id l = true := by simpa [hereS, posS, c] using h
      have ih := zi2 f l g.id hr.2 h2
      have n2 : g.id ≠ f.id := by omega
      simp only [formsS, z5e, if_true, List.append_nil] at ih ⊢; simp only [bodyS, n2, Bool.not_true, Bool.false_and, Bool.true_or, Bool.false_eq_true, if_false, ne_eq, not_false_eq_true, if_true, List.nil_append, List.cons_append, posS, c, List.take_succ_cons, List.drop_succ_cons, ih]
    · have e : g.id = f.id := by simpa [hereS, posS, c] using h
      have n1 : f.id ≤ g.id := by omega
      simp [formsS, bodyS, z5e, e, posS, c, z6u f l g.id hr.2 n1]
theorem z6v (g : Frm) (l : List Frm) (id : Int) : findS (g :: l) id = if g.id = id then 0 else if findS l id = -1 then -1 else findS l id + 1 := by
  unfold findS firstS; rw [List.findIdx?_cons]
  by_cases e : g.id = id
  · simp [e]
  · have e' : (g.id == id) = false := by simpa using e
    rw [e']; simp only [Bool.false_eq_true, if_false, e]
    cases List.findIdx? (fun f : Frm => f.id == id) l with
    | none => simp
    | some i => simp
theorem zp3 {id : Int} : ∀ (l : List Frm) (n : Int), risingS n l = true → id ≤ n → findS l id = -1
  | [], _, _, _ => rfl
  | g :: l, n, h, hn => by
    simp only [risingS, Bool.and_eq_true, decide_eq_true_eq] at h
    have e : g.id ≠ id := by omega
    rw [z6v, if_neg e, zp3 l g.id h.2 (by omega)]
    rfl
theorem zlv (id : Int) : ∀ (l : List Frm) (n : Int), risingS n l = true → findS l id = if hereS id l then (posS id l : Int) else -1
  | [], _, _ => by simp [hereS, posS]; rfl
  | g :: l, n, hr => by
    simp only [risingS, Bool.and_eq_true, decide_eq_true_eq] at hr; rw [z6v]
    by_cases c : g.id < id
    · have e : g.id ≠ id := by omega
      have h2 : hereS id (g :: l) = hereS id l := by simp [hereS, posS, c]
      rw [if_neg e, h2, zlv id l g.id hr.2]
      cases hereS id l
      · simp
      · simp [posS, c]
    · by_cases e : g.id = id
      · simp [e, hereS, posS]
      · have h1 : hereS id (g :: l) = false := by simp [hereS, posS, c, e]
        rw [if_neg e, h1, zp3 l g.id hr.2 (by omega)]
        rfl
end Go.Proofs.YtjkjhgfiaodgmaaGreat.V
namespace Go.Proofs.YtjkjhgfiaodgmaaGreat.V
open Go
theorem z11r {f : Fld} (h : rgtS f = true) : 0 ≤ f.id := by
  simp only [rgtS, Bool.and_eq_true, decide_eq_true_eq] at h; exact h.1.1
theorem zn1 {s : Sch} {x : Stp} (hx : tRightS x = true) (h10 : x.op ≤ 10) (h9 : x.op ≠ 9) {j : Nat} {g : Frm} (e1 : findS s.forms x.form = (j : Int)) (e2 : s.forms[j]? = some g) :
    thereS x g (atG x g) (freshG x) = namesS s x := by
  have n1 : ¬ ((j : Int) < 0) := by omega
  have en : namesS s x = (if fieldS x.op && decide (atS g.fields x.field < 0) then 8
        else if (x.op == 1 && decide (0 ≤ atS g.fields x.f.id)) || ((x.op == 6 || x.op == 8) && decide (0 ≤ atS g.fields x.to)) then 9
        else if (x.op == 1 && decide ((g.fields.length : Int) < x.place)) || (x.op == 7 && decide ((g.fields.length : Int) ≤ x.place)) then 3 else 0) := by
    simp only [namesS, h9, if_false, e1, n1, Int.toNat_natCast, e2]
  rw [en]
  rcases z3c hx h10 with o | o | o | o | o | o | o | o | o | o
  · obtain ⟨p1, p2⟩ := zbp hx o
    have p3 := z11r p2
    have p4 : ¬ (x.place < 0) := by omega
    simp [thereS, atG, freshG, fieldS, o, p3, p4]
  · simp [thereS, atG, freshG, fieldS, o]
  · simp [thereS, atG, freshG, fieldS, o]
  · simp [thereS, atG, freshG, fieldS, o]
  · simp [thereS, atG, freshG, fieldS, o]
  · have := (zg8 hx o).2
    simp [thereS, atG, freshG, fieldS, o, this]
  · simp [thereS, atG, freshG, fieldS, o]
  · have := zze hx o
    simp [thereS, atG, freshG, fieldS, o, this]
  · exact absurd o h9
  · simp [thereS, atG, freshG, fieldS, o]
theorem zdh (s : Sch) (x : Stp) (v : Int) (l : List Frm) (hl : Sml ⟨v, l⟩) : z8o (OA (tbl E0) (ltbl E0 43 0)) s x (fun r o => (some (r, o) : Option CR)) (l.map frmV) v =
    some ([schV (if schS ⟨v, l⟩ then (⟨v, l⟩, (0 : Int)) else (sch0, 7)).1, iV (if schS ⟨v, l⟩ then ((⟨v, l⟩ : Sch), (0 : Int)) else (sch0, 7)).2], []) := by
  have c := z61 ⟨v, l⟩ hl; simp only [schV, frmsV] at c; simp only [z8o, z13 l, cond_true, z9, za, c, Option.bind_some, u_asC, u_asB, u_asN]
  rcases bor (schS ⟨v, l⟩) with h | h
  · simp [h]
  · simp [h, sch0]
set_option maxHeartbeats 4000000 in
theorem c_gOn (s : Sch) (x : Stp) (hs : Few s) (hx : x.sml) (hxo : x.ok) : tbl E0 43 [schV s, stpV x] [] = some ([schV (onS s x).1, iV (onS s x).2], []) := t_gOn s x (by
  have c1 := z61 s hs.sml; have c2 := zlm x hxo hx; simp only [schV, stpV, stpC, intsV, frmsV, fldsV] at c1 c2
  have gate : onS s x = if !(schS s) || (!(tRightS x) || decide (10 < x.op)) then (sch0, 2) else onS s x := by
    by_cases h : (!(schS s) || (!(tRightS x) || decide (10 < x.op))) = true
    · rw [if_pos h]; unfold onS; rw [if_pos h]
    · rw [if_neg h]
  simp only [s_gOn, z9, cond_true, zk, za, c1, Option.bind_some, u_asC, u_asB, u_asN]
  rcases bor' (schS s) with h1 | h1
  · simp [h1, gate, sch0]
  simp only [h1, Bool.not_true, cond_false, c2, Option.bind_some, u_asC, u_asB, u_asN]
  rcases bor' (tRightS x) with h2 | h2
  · simp [h1, h2, gate, sch0]
  have hop := (z2x h2).2.1
  have hop1 : ¬ (x.op < 1) := by
    simp only [opsL, List.mem_cons, List.not_mem_nil, or_false] at hop; omega
  simp only [h2, Bool.not_true, hop1, decide_false, cond_false, Option.bind_some, Tok.untok_tok, gt_iff_lt]
  by_cases h3 : 10 < x.op
  · simp [h1, h2, h3, gate, sch0]
  have g0 : ¬ ((!(schS s) || (!(tRightS x) || decide (10 < x.op))) = true) := by simp [h1, h2, h3]
  have sf := z3x h1
  have cc := zhy s (by omega) (fun f hf => by have := (sf.2 f hf).1; omega)
  simp only [schV, frmsV, frmsU] at cc; have q := z13 s.forms; simp only [h3, decide_false, cond_false, zi, cc, Option.bind_some, u_asC, u_asA, u_asI, zq, u_asN, q, cond_true]
  have sml8 : ∀ (l : List Frm), l.length ≤ 9 → (∀ f ∈ l, f.fields.length ≤ 900) → Sml ⟨s.ver, l⟩ := fun l a b => ⟨Nat.le_trans a (by decide), fun f hf => Nat.le_trans (b f hf) (by decide)⟩
  have rise : risingS (-1) s.forms = true := by
    simp only [schS, Bool.and_eq_true] at h1; exact h1.2
  have hfind := zlv x.form s.forms (-1) rise; have hpos := zls x.form s.forms
  by_cases h9 : x.op = 9
  · have ct := zti x s.ver s.forms 0 0 (by omega) h9
    have t9 : (x.op == 9) = true := by simpa using h9
    simp only [madO, intsV, fldsV, frmsU] at ct; simp only [ct, Option.bind_some, nbeq, decide_true, cond_true, u_asC, u_asA, u_asI, u_asS, u_asL, zq, u_asN]
    rcases bor (hereS x.form s.forms) with hh | hh
    · have en : namesS s x = 9 := by simp [namesS, h9, hfind, hh]
      have eo : onS s x = (sch0, 9) := by unfold onS; rw [if_neg g0, if_pos (by simp [en]), en]
      rw [eo]; simp [hh, sch0]
    · have en : namesS s x = 0 := by simp [namesS, h9, hfind, hh]
      have eo : onS s x = outS s ⟨x.form, x.fields⟩ := by unfold onS; rw [if_neg g0, if_neg (by simp [en]), if_pos h9]
      have f9 := zg9 h2 h9; have l9 : x.fields.length ≤ 8 := (zan f9).1
      have cl := z6d x.fields (by omega)
      have ci := z11p s.forms (posS x.form s.forms) [⟨x.form, x.fields⟩] hpos (by simp; omega)
      have fn := zi1 ⟨x.form, x.fields⟩ s.forms (-1) rise hh; simp only [fldsV, fldsU, frmsU, List.map_cons, List.map_nil] at cl ci
      have k3 := zdh s x s.ver (s.forms.take (posS x.form s.forms) ++ [⟨x.form, x.fields⟩] ++ s.forms.drop (posS x.form s.forms)) (sml8 _ (by simp; omega) (fun f hf => by
        simp only [List.mem_append, List.mem_singleton] at hf
        rcases hf with (hf | hf) | hf
        · have := (sf.2 f (List.mem_of_mem_take hf)).1; omega
        · subst hf; simp; omega
        · have := (sf.2 f (List.mem_of_mem_drop hf)).1; omega))
      simp only [hh, Bool.false_eq_true, if_false, t9, cond_true, zde, z2y, zi, cl, ci, Option.bind_some, u_asC, zq, u_asN, z3b, z9, q, k3, zj, zx, (by decide : ((0 : Int) != 0) = false), cond_false]
      have hne : (⟨x.form, x.fields⟩ : Frm).fields.isEmpty = false := by
        rw [z38] at f9; have := f9.2.1.1
        cases hxf : x.fields with
        | nil => simp [hxf] at this
        | cons a l => rfl
      rw [eo, outS, hne, fn]
  have t9 := beq_f h9
  rcases bor' (hereS x.form s.forms) with hh | hh
  · have ct := ztj x s.ver s.forms 0 0 (by omega) h9 hh
    have en : namesS s x = 8 := by simp [namesS, h9, hfind, hh]
    have eo : onS s x = (sch0, 8) := by unfold onS; rw [if_neg g0, if_pos (by simp [en]), en]
    simp only [madO, intsV, fldsV, frmsU] at ct; simp only [ct, Option.bind_some, nbeq, decide_true, cond_true, u_asC, u_asA, u_asI, u_asS, u_asL, zq, u_asN]; rw [eo]; simp [sch0]
  · rw [hh] at hfind
    simp only [if_true] at hfind
    obtain ⟨g, hg, he⟩ : ∃ g, s.forms[posS x.form s.forms]? = some g ∧ g.id = x.form := by
      unfold hereS at hh
      split at hh
      · rename_i g hg; exact ⟨g, hg, by simpa using hh⟩
      · cases hh
    have hp : posS x.form s.forms < s.forms.length := (List.getElem?_eq_some_iff.1 hg).1; have hgl := (sf.2 g (List.mem_of_getElem? hg)).1
    have ct := zwz x s.ver s.forms 0 0 (by omega) (fun f hf => by have := (sf.2 f hf).1; omega) h9 g hg he
    rw [zn1 h2 (by omega) h9 hfind hg] at ct
    simp only [madO, intsV, fldsV, frmsU] at ct; simp only [ct, Option.bind_some, nbeq, decide_true, cond_true, u_asC, u_asA, u_asI, u_asS, u_asL, zq, u_asN]
    by_cases h4 : ¬ (namesS s x = 0)
    · have h4' := bne_t h4
      have eo : onS s x = (sch0, namesS s x) := by unfold onS; rw [if_neg g0, if_pos h4]
      rw [eo]; simp only [h4', cond_true, sch0, schV, frmsV, List.map_nil]
    have h4 : namesS s x = 0 := Classical.not_not.1 h4
    have h4' : (namesS s x != 0) = false := by simp [h4]
    simp only [h4', cond_false, t9]
    by_cases o10 : x.op = 10
    · have t10 : (x.op == 10) = true := by simpa using o10
      have o1 : x.op ≠ 1 := by omega
      have eo : onS s x = outS s ⟨x.form, []⟩ := by unfold onS; rw [if_neg g0, if_neg (by simp [h4]), if_neg h9, if_neg o1, if_pos o10]
      have cd := z11q s.forms (posS x.form s.forms) hp; have fn := zi2 ⟨x.form, []⟩ s.forms (-1) rise hh
      have e1 := zh (i := posS x.form s.forms) (by omega)
      have k3 := zdh s x s.ver (s.forms.take (posS x.form s.forms) ++ s.forms.drop (posS x.form s.forms + 1)) (sml8 _ (by simp; omega) (fun f hf => by
        simp only [List.mem_append] at hf
        rcases hf with hf | hf
        · have := (sf.2 f (List.mem_of_mem_take hf)).1; omega
        · have := (sf.2 f (List.mem_of_mem_drop hf)).1; omega))
      simp only [frmsU] at cd; simp only [t10, cond_true, zx, q, zi, e1, cd, Option.bind_some, z2y, u_asC, zq, u_asN, z9, k3, zj]; have hne : (⟨x.form, []⟩ : Frm).fields.isEmpty = true := rfl; rw [eo, outS, hne, fn]
    have t10 := beq_f o10; simp only [t10, cond_false, q, cond_true, zi]
    have tail : ∀ nw : List Fld, (if schS ⟨s.ver, s.forms.set (posS x.form s.forms) ⟨g.id, nw⟩⟩ then ((⟨s.ver, s.forms.set (posS x.form s.forms) ⟨g.id, nw⟩⟩ : Sch), (0 : Int)) else (sch0, 7)) = if nw.isEmpty then (sch0, 7) else outS s ⟨x.form, nw⟩ := by
      intro nw; have fn := zi0 ⟨x.form, nw⟩ s.forms (-1) rise hh; rw [he]
      rcases bor nw.isEmpty with z | z
      · have : schS ⟨s.ver, s.forms.set (posS x.form s.forms) ⟨x.form, nw⟩⟩ = false := by
          cases hb : schS ⟨s.ver, s.forms.set (posS x.form s.forms) ⟨x.form, nw⟩⟩ with
          | false => rfl
          | true =>
            simp only [schS, Bool.and_eq_true] at hb; have hm := z30 _ _ hb.2 ⟨x.form, nw⟩ (List.mem_set hp _); rw [z38] at hm; have := hm.2.1.1
            cases nw with
            | nil => simp at this
            | cons a l => cases z
        rw [this, z]; rfl
      · have hne : (⟨x.form, nw⟩ : Frm).fields.isEmpty = false := z
        rw [z, outS, hne, fn]; rfl
    obtain ⟨j, g', e1, e2, e3, e4, e5, e6, e7, e8⟩ := names0 h4 h9
    have hj : j = posS x.form s.forms := by rw [hfind] at e1; omega
    subst hj
    have hgg : g' = g := by rw [hg] at e2; injection e2 with e2; exact e2.symm
    subst hgg
    have main : ∃ (e : Nat) (nw : List Fld) (b : Bool), atG x g' = (e : Int) ∧ nw.length ≤ 900 ∧ onS s x = (if b then (if nw.isEmpty then (sch0, 7) else outS s ⟨x.form, nw⟩) else (sch0, 17)) ∧
        tbl E0 70 [.ref 0 0] [(0, madO x s.ver s.forms (posS x.form s.forms) e)] = some ([.bool b], [(0, madO x s.ver (if b then s.forms.set (posS x.form s.forms) ⟨g'.id, nw⟩ else s.forms) (posS x.form s.forms) e)]) := by
      by_cases o1 : x.op = 1
      · obtain ⟨p1, p2⟩ := zbp h2 o1
        have p3 := (e6 o1).1
        obtain ⟨k, hk⟩ : ∃ k : Nat, x.place = (k : Int) := ⟨x.place.toNat, by omega⟩
        have eo : onS s x = outS s ⟨x.form, putS g'.fields k [x.f]⟩ := by unfold onS; rw [if_neg g0, if_neg (by simp [h4]), if_neg h9, if_pos o1, e4, hk, Int.toNat_natCast]
        refine ⟨k, putS g'.fields k [x.f], true, by simp [atG, o1, hk], by rw [z5p]; simp; omega, ?_, ?_⟩
        · have : (putS g'.fields k [x.f]).isEmpty = false := by simp [putS]
          rw [eo, this]; rfl
        · exact zf5 x s.ver s.forms (posS x.form s.forms) k 0 g' [x.f] true hg (by omega) (by omega) (by omega) (by omega) (by simp) (zqh x s.ver s.forms _ _ o1)
      have hfield : fieldS x.op = true := by simp [fieldS, o1, h9, o10]
      obtain ⟨k, f, q1, q2⟩ := e5 hfield; have hk : k < g'.fields.length := (List.getElem?_eq_some_iff.1 q2).1; have hf : rgtS f = true := (sf.2 g' (List.mem_of_getElem? hg)).2 f (List.mem_of_getElem? q2)
      have ha : atG x g' = (k : Int) := by simp [atG, o1, o10, q1]
      have hC := zga hk
      have eo : onS s x = if (typesS f x).2 then (if (newS g'.fields x (typesS f x).1).isEmpty then (sch0, 7) else outS s ⟨x.form, newS g'.fields x (typesS f x).1⟩) else (sch0, 17) := by
        unfold onS
        rw [if_neg g0, if_neg (by simp [h4]), if_neg h9, if_neg o1, if_neg o10, e4, q1, Int.toNat_natCast, q2]
      by_cases o7 : x.op = 7
      · have p := zp2 h2 o7
        have p2 := e7 o7
        obtain ⟨n, hn⟩ : ∃ n : Nat, x.place = (n : Int) := ⟨x.place.toNat, by omega⟩
        have et : typesS f x = ([f], true) := by simp [typesS, o7]
        have enw : newS g'.fields x [f] = putS (cutS g'.fields k) n [f] := by simp only [newS, o7, if_true, hn, Int.toNat_natCast, q1]
        refine ⟨k, putS (cutS g'.fields k) n [f], true, ha, by rw [z5p]; simp; omega, ?_, ?_⟩
        · rw [eo, et, enw]
        · exact zqi x s.ver s.forms (posS x.form s.forms) k n g' f hg q2 o7 hn (by omega) (by omega)
      · have ops : x.op = 2 ∨ x.op = 3 ∨ x.op = 4 ∨ x.op = 5 ∨ x.op = 6 ∨ x.op = 8 := by
          have := z3c h2 (by omega)
          omega
        obtain ⟨tt1, tt2⟩ := zlt hf o7 ops
        have ct := ztf x s.ver s.forms (posS x.form s.forms) k g' f hg q2 (fun _ => hf) o1 (fun o6 => by have := zg8 h2 o6; omega)
        have tl : (turnedS f x).1.length ≤ 8 := by
          unfold turnedS
          repeat' split
          all_goals simp
        have enw : newS g'.fields x (turnedS f x).1 = g'.fields.take k ++ (turnedS f x).1 ++ g'.fields.drop (k + 1) := by
          simp only [newS, o7, if_false, Int.toNat_natCast, q1, putS, cutS]
          have e1 : (g'.fields.take k).length = k := by simp; omega
          rw [List.take_append_of_le_length (by omega), List.drop_append_of_le_length (by omega)]
          have e2 : (g'.fields.take k).drop k = [] := List.drop_eq_nil_of_le (by omega)
          rw [e2, List.take_take, Nat.min_self, List.nil_append]
        refine ⟨k, g'.fields.take k ++ (turnedS f x).1 ++ g'.fields.drop (k + 1), (turnedS f x).2, ha, by simp; omega, ?_, ?_⟩
        · rw [eo, tt1]
          rcases bor (typesS f x).2 with t | t
          · rw [t, ← tt2 t, enw]
          · rw [t]
            rfl
        · exact zf5 x s.ver s.forms (posS x.form s.forms) k 1 g' (turnedS f x).1 (turnedS f x).2 hg o7 (by omega) (by omega) (by omega) tl ct
    obtain ⟨e, nw, b, ha, hl, hon, hc⟩ := main; rw [ha, hon]; simp only [madO, intsV, fldsV, frmsU] at hc; simp only [hc, Option.bind_some, nbeq, decide_true, cond_true, u_asC, u_asA, u_asI, u_asS, u_asL, zq, u_asN, u_asB]
    have k3 := zdh s x s.ver (s.forms.set (posS x.form s.forms) ⟨g'.id, nw⟩) (sml8 _ (by simp; omega) (fun f hf => by
      rcases List.mem_or_eq_of_mem_set hf with hf | hf
      · have := (sf.2 f hf).1; omega
      · subst hf; exact hl))
    rcases bor b with hb | hb
    · simp only [hb, Bool.not_true, cond_false, if_true, k3, tail nw]
    · simp [hb, sch0])
end Go.Proofs.YtjkjhgfiaodgmaaGreat.V
namespace Go.Proofs.YtjkjhgfiaodgmaaGreat.V
open Go
theorem zzh (l : List Stp) (hl : l.length ≤ 1000) (hx : ∀ x ∈ l, x.sml ∧ x.ok) : ∀ (r : List Stp) (i : Nat) (s : Sch), l.drop i = r → Few s →
    ltbl E0 26 0 3 [stpsV l, iV l.length, iV i] [[iV 0, frmsV []], [iV s.ver, frmsV s.forms]] =
      some (if (allS s i r).2.2 = 0 then (1, [], [[iV 0, frmsV []], [iV (allS s i r).1.ver, frmsV (allS s i r).1.forms]]) else (0, [iV ((allS s i r).2.1 : Nat), iV (allS s i r).2.2], [[iV 0, frmsV []]])) := by
  intro r
  induction r with
  | nil =>
    intro i s hr hs
    have h : l.length ≤ i := by simpa using hr
    refine zoy _ _ _ _ ?_
    have : ¬ ((i : Int) < l.length) := by omega
    simp [zg4, this, allS]
  | cons x r ih =>
    intro i s hr hs; obtain ⟨hlt, hget, hr2⟩ := zl hr
    have h2 : (i : Int) < l.length := by omega
    have e1 := zh (i := i) (by omega)
    have c := c_gOn s x hs (hx x (z11 hr)).1 (hx x (z11 hr)).2; simp only [schV, frmsV, stpV, stpC, intsV, fldsV] at c; refine zoy _ _ _ _ ?_; simp only [stpV, stpC, intsV, fldsV, frmsV, List.map_nil] at ih ⊢; simp only [zg4, zb, List.length_map, h2, decide_true, cond_true, z9, Int.natCast_nonneg, nthE, Int.toNat_natCast, List.getElem?_map, hget, Option.map_some, u_asA, u_asC, u_asI, u_asS, u_asL, u_asN, stpV, stpC, intsV, fldsV, za, c, Option.bind_some, e1, zx, zj]
    by_cases h : (onS s x).2 = 0
    · have h' : ((onS s x).2 != 0) = false := by simp [h]
      have e := ih (i + 1) (onS s x).1 hr2 (z7o (z3y h)); simp only [h', cond_false, e, allS, if_pos h]
    · have h' := bne_t h
      simp only [h', cond_true, allS, if_neg h]
theorem zzi : ∀ (l : List Stp) (i : Nat) (s : Sch), ((allS s i l).2.2 = 0 → (allS s i l).2.1 = 0) ∧ ((allS s i l).2.2 ≠ 0 → (allS s i l).1 = sch0) := by
  intro l
  induction l with
  | nil => intro i s; simp [allS]
  | cons x l ih =>
    intro i s; unfold allS
    by_cases h : (onS s x).2 = 0
    · rw [if_pos h]; exact ih _ _
    · rw [if_neg h]; exact ⟨fun h2 => absurd h2 h, fun _ => rfl⟩
theorem ztk (s : Sch) (l : List Stp) (hs : Few s) (hl : l.length ≤ 1000) (hx : ∀ x ∈ l, x.sml ∧ x.ok) : tbl E0 26 [schV s, stpsV l] [] = some ([schV (allS s 0 l).1, iV ((allS s 0 l).2.1 : Nat), iV (allS s 0 l).2.2], []) := z11g s l (by
  have c := zzh l hl hx l 0 s rfl hs; obtain ⟨z1, z2⟩ := zzi l 0 s; have cc := zhy s hs.1 hs.2; simp only [Int.natCast_zero, stpsV, frmsV, List.map_nil] at c; have ff := z13 s.forms; simp only [frmsU, schV, frmsV] at cc; simp only [zsr, z9, cond_true, zi, zb, List.length_map, cc, Option.bind_some, u_asC, u_asA, u_asI, zq, u_asN, ff, ze, c]
  by_cases h : (allS s 0 l).2.2 = 0
  · simp [h, z1 h]
  · simp [h, z2 h, sch0])
end Go.Proofs.YtjkjhgfiaodgmaaGreat.V
namespace Go.Proofs.YtjkjhgfiaodgmaaGreat.V
open Go
def stpN : Stp := ⟨0, 0, 0, 0, 0, 0, 0, fld0, 0, [], [], []⟩
def ownAt (s : Sch) (x : Stp) : Fld := match (oldS s x)[(atS (oldS s x) x.field).toNat]? with | some f => f | none => fld0
def backOf (s : Sch) (x : Stp) : Stp :=
  if x.op = 9 then ⟨29, x.form, 0, 0, 0, 0, 0, fld0, 0, [], [], []⟩
  else if x.op = 10 then ⟨30, x.form, 0, 0, 0, 0, 0, fld0, 0, [], [], oldS s x⟩
  else if x.op = 1 then ⟨21, x.form, x.f.id, 0, 0, 0, 0, fld0, 0, [], [], []⟩
  else if x.op = 2 then ⟨22, x.form, 0, atS (oldS s x) x.field, 0, 0, 0, ownAt s x, x.n, x.s, [], []⟩
  else if x.op = 3 then ⟨23, x.form, x.field, 0, 0, 0, 0, ownAt s x, 0, [], [], []⟩
  else if x.op = 4 then ⟨24, x.form, x.field, 0, 0, x.a, x.b, ownAt s x, 0, [], [], []⟩
  else if x.op = 5 then ⟨25, x.form, x.field, 0, 0, 0, 0, fld0, 0, [], x.t, []⟩
  else if x.op = 6 then ⟨26, x.form, x.field, 0, x.to, x.a, 0, ownAt s x, 0, [], [], []⟩
  else if x.op = 7 then ⟨27, x.form, x.field, atS (oldS s x) x.field, 0, 0, 0, fld0, 0, [], [], []⟩
  else ⟨28, x.form, x.to, 0, x.field, 0, 0, fld0, 0, [], [], []⟩
def invS (s : Sch) (x : Stp) : Stp × Int := if (onS s x).2 = 0 then (backOf s x, 0) else (stpN, (onS s x).2)
def backS (s : Sch) (out : List Stp) : List Stp → List Stp × Int
  | [] => (out, 0)
  | x :: l => if (onS s x).2 = 0 then backS (onS s x).1 (backOf s x :: out) l else ([], (onS s x).2)
def trailS (s : Sch) : List Stp → List Stp
  | [] => []
  | x :: l => backOf s x :: trailS (onS s x).1 l
def likeN : List Stp → List Stp → Nat
  | a :: l, b :: r => if a = b then likeN l r + 1 else 0
  | _, _ => 0
theorem z6e : ∀ (l : List Stp) (i : Nat) (s : Sch) (out : List Stp), (backS s out l).2 = (allS s i l).2.2
  | [], i, s, out => rfl
  | x :: l, i, s, out => by
    unfold backS allS
    by_cases h : (onS s x).2 = 0
    · rw [if_pos h, if_pos h]; exact z6e l (i + 1) _ _
    · rw [if_neg h, if_neg h]
theorem zdi : ∀ (l : List Stp) (s : Sch) (out : List Stp), (backS s out l).2 ≠ 0 → (backS s out l).1 = []
  | [], s, out, h => absurd rfl h
  | x :: l, s, out, h => by
    unfold backS at h ⊢
    by_cases e : (onS s x).2 = 0
    · rw [if_pos e] at h ⊢; exact zdi l _ _ h
    · rw [if_neg e]
theorem z7p : ∀ (l : List Stp) (s : Sch) (out : List Stp), (backS s out l).2 = 0 → (backS s out l).1 = (trailS s l).reverse ++ out
  | [], s, out, h => rfl
  | x :: l, s, out, h => by
    unfold backS at h ⊢
    by_cases e : (onS s x).2 = 0
    · rw [if_pos e] at h ⊢
      rw [z7p l _ _ h, trailS]; simp
    · rw [if_neg e] at h; exact absurd h e
theorem zb5 : ∀ (l : List Stp) (s : Sch), (trailS s l).length = l.length
  | [], s => rfl
  | x :: l, s => by rw [trailS, List.length_cons, zb5 l, List.length_cons]
theorem at_id {l : List Fld} {id : Int} {k : Nat} {f : Fld} (h : atS l id = (k : Int)) (hk : l[k]? = some f) : f.id = id := by
  rcases z5d (p := fun f : Fld => f.id == id) (l := l) with ⟨j, g, q1, q2, q3⟩ | q1
  · have q1 : atS l id = (j : Int) := q1
    have : j = k := by omega
    subst this; rw [q2] at hk; injection hk with hk; subst hk
    simpa using q3
  · have q1 : atS l id = -1 := q1
    omega
theorem z16 {s : Sch} {x : Stp} (h : (onS s x).2 = 0) (h1 : x.op ≠ 1) (h9 : x.op ≠ 9) (h10 : x.op ≠ 10) : ∃ (k : Nat) (f : Fld), atS (oldS s x) x.field = (k : Int) ∧ (oldS s x)[k]? = some f ∧ f.id = x.field ∧ rgtS f = true ∧ ownAt s x = f ∧ k ≤ 7 ∧ (typesS f x).2 = true := by
  obtain ⟨_, _, _, _, hs, h4, hr, hle⟩ := z3r h; obtain ⟨j, g, e1, e2, e3, e4, e5, _⟩ := names0 h4 h9
  obtain ⟨k, f, q1, q2⟩ := e5 (by simp [fieldS, h1, h9, h10])
  have sf := z3x hs; have hg := sf.2 g (List.mem_of_getElem? e2); have hk := (List.getElem?_eq_some_iff.1 q2).1
  refine ⟨k, f, by rw [e4]; exact q1, by rw [e4]; exact q2, at_id q1 q2, hg.2 f (List.mem_of_getElem? q2), ?_, by omega, ?_⟩
  · unfold ownAt
    rw [e4, q1, Int.toNat_natCast, q2]
  · have g0 : ¬ (!(schS s) || (!(tRightS x) || decide (10 < x.op))) = true := by simp [hs, hr]; omega
    cases ht : (typesS f x).2 with
    | true => rfl
    | false =>
      exfalso; unfold onS at h
      rw [if_neg g0, if_neg (by simp [h4]), if_neg h9, if_neg h1, if_neg h10, e4, q1, Int.toNat_natCast, q2] at h
      simp [ht] at h
theorem zp4 : ∀ (a b : List Stp), likeN a b ≤ a.length ∧ likeN a b ≤ b.length
  | [], b => by simp [likeN]
  | x :: l, [] => by simp [likeN]
  | x :: l, y :: r => by
    have := zp4 l r; unfold likeN
    split <;> simp <;> omega
end Go.Proofs.YtjkjhgfiaodgmaaGreat.V
