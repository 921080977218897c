/- The data of schemas, typed, and what is said of them. -/
import Derived.Test.YthmocicjocjdoaaBh
set_option linter.unusedVariables false
set_option linter.unusedSimpArgs false
namespace Go.Proofs.Ythmocicjocjdoaa.V
open Go
structure Fld where
  id : Int
  kind : Int
  lo : Int
  hi : Int
  most : Int
  deriving DecidableEq
structure Frm where
  id : Int
  fields : List Fld
  deriving DecidableEq
structure Sch where
  ver : Int
  forms : List Frm
  deriving DecidableEq
abbrev fldC (f : Fld) : List AV := [.int .i64 f.id, .int .i64 f.kind, .int .i64 f.lo, .int .i64 f.hi, .int .i64 f.most]
abbrev fldV (f : Fld) : AV := AV.agg (fldC f)
abbrev fldsV (l : List Fld) : AV := AV.lst .ro 5 (l.map fldV)
abbrev frmV (f : Frm) : AV := AV.agg [.int .i64 f.id, fldsV f.fields]
abbrev frmsV (l : List Frm) : AV := AV.lst .ro 2 (l.map frmV)
abbrev schV (s : Sch) : AV := AV.agg [.int .i64 s.ver, frmsV s.forms]
def i64 (n : Int) : Prop := -9223372036854775808 ≤ n ∧ n ≤ 9223372036854775807
def Fld.ok (f : Fld) : Prop := i64 f.id ∧ i64 f.kind ∧ i64 f.lo ∧ i64 f.hi ∧ i64 f.most
def Frm.ok (f : Frm) : Prop := i64 f.id ∧ ∀ x ∈ f.fields, x.ok
def Sch.ok (s : Sch) : Prop := i64 s.ver ∧ ∀ x ∈ s.forms, x.ok
/-- May a field be? -/
def rgtS (f : Fld) : Bool :=
  decide (0 ≤ f.id ∧ f.id ≤ 255) &&
  (if f.kind = 1 then decide (-1099511627776 ≤ f.lo ∧ f.lo ≤ f.hi ∧ f.hi ≤ 1099511627776 ∧ f.most = 0)
   else if f.kind = 2 then decide (f.lo = 0 ∧ f.hi = 0 ∧ f.most = 0)
   else if f.kind = 3 then decide (f.lo = 0 ∧ f.hi = 0 ∧ 1 ≤ f.most ∧ f.most ≤ 1000)
   else if f.kind = 4 then decide (f.lo = 0 ∧ f.hi = 0 ∧ 0 ≤ f.most ∧ f.most ≤ 32)
   else false)
def wdS (n : Nat) : Nat := if h : n = 0 then 0 else wdS (n / 256) + 1
termination_by n
decreasing_by omega
def loS (f : Fld) : Int := if f.kind = 1 then f.lo else 0
def hiS (f : Fld) : Int := if f.kind = 1 then f.hi else if f.kind = 2 then 1 else if f.kind = 3 then f.most - 1 else 0
def sizeS (f : Fld) : Int := if rgtS f then (if f.kind = 4 then f.most + 1 else (wdS (hiS f - loS f).toNat : Nat)) else 0
def longS (l : List Fld) : Int := (l.map sizeS).sum
def nodupI : List Int → Bool
  | [] => true
  | x :: l => !(l.any fun y => y == x) && nodupI l
def fineS (f : Frm) : Bool := decide (0 ≤ f.id ∧ f.id ≤ 200) && decide (1 ≤ f.fields.length ∧ f.fields.length ≤ 8) && decide (longS f.fields ≤ 64) && f.fields.all rgtS && nodupI (f.fields.map Fld.id)
def risingS : Int → List Frm → Bool
  | _, [] => true
  | last, f :: l => fineS f && decide (last < f.id) && risingS f.id l
def schS (s : Sch) : Bool := decide (1 ≤ s.ver ∧ s.ver ≤ 65535) && decide (s.forms.length ≤ 8) && risingS (-1) s.forms
/-- The place of the first of a list. -/
def firstS {α : Type} (p : α → Bool) (l : List α) : Int := match l.findIdx? p with | some i => (i : Nat) | none => -1
end Go.Proofs.Ythmocicjocjdoaa.V
