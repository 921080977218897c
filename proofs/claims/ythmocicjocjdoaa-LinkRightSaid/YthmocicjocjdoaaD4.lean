/- The data of steps, typed. -/
import Derived.Test.YthmocicjocjdoaaD1
set_option linter.unusedVariables false
set_option linter.unusedSimpArgs false
namespace Go.Proofs.Ythmocicjocjdoaa.V
open Go
structure Stp where
  op : Int
  form : Int
  field : Int
  place : Int
  to : Int
  a : Int
  b : Int
  f : Fld
  n : Int
  s : List UInt8
  t : List Int
  fields : List Fld
  deriving DecidableEq
abbrev intsV (l : List Int) : AV := AV.lst .ro 1 (l.map fun n => AV.int .i64 n)
abbrev stpC (x : Stp) : List AV := [.int .i64 x.op, .int .i64 x.form, .int .i64 x.field, .int .i64 x.place, .int .i64 x.to, .int .i64 x.a, .int .i64 x.b, .int .i64 x.f.id, .int .i64 x.f.kind, .int .i64 x.f.lo, .int .i64 x.f.hi, .int .i64 x.f.most, .int .i64 x.n, .str x.s, intsV x.t, fldsV x.fields]
abbrev stpV (x : Stp) : AV := AV.agg (stpC x)
abbrev stpsV (l : List Stp) : AV := AV.lst .ro 16 (l.map stpV)
end Go.Proofs.Ythmocicjocjdoaa.V
