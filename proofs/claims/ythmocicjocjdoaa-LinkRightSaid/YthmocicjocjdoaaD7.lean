/- The data of links, typed; which may be. -/
import Derived.Test.YthmocicjocjdoaaD5
set_option linter.unusedVariables false
set_option linter.unusedSimpArgs false
namespace Go.Proofs.Ythmocicjocjdoaa.V
open Go
structure Lnk where
  fr : Int
  to : Sch
  on : List Stp
  back : List Stp
  deriving DecidableEq
abbrev lnkC (x : Lnk) : List AV := [.int .i64 x.fr, .int .i64 x.to.ver, frmsV x.to.forms, stpsV x.on, stpsV x.back]
abbrev lnkV (x : Lnk) : AV := AV.agg (lnkC x)
abbrev lnksV (l : List Lnk) : AV := AV.lst .ro 5 (l.map lnkV)
abbrev bytesV (b : List UInt8) : AV := AV.lst .ro 1 (encB b)
def rightsS (l : List Stp) : Bool := decide (l.length ≤ 40) && l.all tRightS
def lnkS (x : Lnk) : Bool := decide (1 ≤ x.fr) && (decide (x.fr ≤ 65535) && (schS x.to && (x.to.ver != x.fr && (rightsS x.on && rightsS x.back))))
def Lnk.ok (x : Lnk) : Prop := i64 x.fr ∧ x.to.ok ∧ (∀ s ∈ x.on, s.ok) ∧ ∀ s ∈ x.back, s.ok
def txtB (s : List UInt8) : List UInt8 := cnt s.length ++ s
def lnkB (x : Lnk) : List UInt8 := cnt x.fr.toNat ++ (txtB (schB x.to) ++ (txtB (lstB x.on) ++ txtB (lstB x.back)))
end Go.Proofs.Ythmocicjocjdoaa.V
