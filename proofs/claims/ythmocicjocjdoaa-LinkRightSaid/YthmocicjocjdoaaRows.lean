/-
  No cell of these rows narrows 'for every input' (looked for: loops, veiled, ifaces, maps, wideKeys, modest, calm, conditions, laid).
  DERIVED. THE GIVEN ROWS OF THIS SEAT. 7 by the template 'for every input the law returns true; each argument reads behind the call as it read before'; 0 by the template 'total and deterministic' (their statements: YthmocicjocjdoaaTotals.lean).
  GIVEN WITH THE SEED: the statements are not yours to turn. If you find one false, say at which input.
  Laid BY PROGRAM, IN A SANDBOX (cutbox-rows.mjs): the forced cells as the released guide's own fill.sh prints them over the translation 9d1f5ce07d858c46… (all of the seat's roots in one cut). By AI agents, Wed Nov 11 2026. No macro, syntax, notation, axiom, sorry.
-/
import Derived.Test.YthmocicjocjdoaaChecked
import GoSem.Claim
import GoSem.ClaimJoined
import GoSem.ClaimMapViews
import Derived.JoinedTies
import Derived.KernelRfl
namespace Go.Proofs.Ythmocicjocjdoaa
/- THE CELL 'sum', in the pinned program and in every row, IS THE sha256 OF THE DUMP (.gsa) THAT YthmocicjocjdoaaProg.lean LOADS. Nothing in Lean hashes anything: it is a label: what it is worth is what the hold of that sum in a sandbox is worth. -/
noncomputable def Try.pinned : Pinned := { name := "ythmocicjocjdoaa", sum := "9d1f5ce07d858c46b2464113589d2f3c29280a835fd4e709c7f6791073295ebc", checked := Try.checked }
namespace Rows
def none {H : Type} : Left H := { results := [], args := [] }

/-- 'instarlaw21.LinkRight': WHATEVER THE INPUT: true; the input reads as it did. -/
def linkRightSpec : ChangeSpec := { name := "linkRight", fn := fun _ => fun
  | [d1, d2] => { results := [.lit (.bool true)], args := [d1, d2] }
  | _ => none }
def linkRightRow : OpenClaim := { program := "ythmocicjocjdoaa", sum := "9d1f5ce07d858c46b2464113589d2f3c29280a835fd4e709c7f6791073295ebc", func := "instar/instarlaw21.LinkRight", spec := "linkRight", unfollowed := true, recurses := true, apart := false }
def LinkRightSaid : Prop := linkRightRow.holds Try.pinned (OpenSpec.ofChange linkRightSpec)

/-- ITS FALSE NEIGHBOUR: 'it returns false'. Refute it at one input. -/
def linkRightWrong : ChangeSpec := { name := "linkRight", fn := fun _ => fun
  | [d1, d2] => { results := [.lit (.bool false)], args := [d1, d2] }
  | _ => none }
def LinkRightWrongFalsely : Prop := linkRightRow.holds Try.pinned (OpenSpec.ofChange linkRightWrong)

/-- 'instarlaw30.ManifestRight': WHATEVER THE INPUT: true; the input reads as it did. -/
def manifestRightSpec : ChangeSpec := { name := "manifestRight", fn := fun _ => fun
  | [d1, d2] => { results := [.lit (.bool true)], args := [d1, d2] }
  | _ => none }
def manifestRightRow : OpenClaim := { program := "ythmocicjocjdoaa", sum := "9d1f5ce07d858c46b2464113589d2f3c29280a835fd4e709c7f6791073295ebc", func := "instar/instarlaw30.ManifestRight", spec := "manifestRight", unfollowed := true, recurses := true, apart := false }
def ManifestRightSaid : Prop := manifestRightRow.holds Try.pinned (OpenSpec.ofChange manifestRightSpec)

/-- ITS FALSE NEIGHBOUR: 'it returns false'. Refute it at one input. -/
def manifestRightWrong : ChangeSpec := { name := "manifestRight", fn := fun _ => fun
  | [d1, d2] => { results := [.lit (.bool false)], args := [d1, d2] }
  | _ => none }
def ManifestRightWrongFalsely : Prop := manifestRightRow.holds Try.pinned (OpenSpec.ofChange manifestRightWrong)

/-- 'instarlaw21.LinkBack': WHATEVER THE INPUT: true; the input reads as it did. -/
def linkBackSpec : ChangeSpec := { name := "linkBack", fn := fun _ => fun
  | [d1, d2] => { results := [.lit (.bool true)], args := [d1, d2] }
  | _ => none }
def linkBackRow : OpenClaim := { program := "ythmocicjocjdoaa", sum := "9d1f5ce07d858c46b2464113589d2f3c29280a835fd4e709c7f6791073295ebc", func := "instar/instarlaw21.LinkBack", spec := "linkBack", unfollowed := true, recurses := true, apart := false }
def LinkBackSaid : Prop := linkBackRow.holds Try.pinned (OpenSpec.ofChange linkBackSpec)

/-- ITS FALSE NEIGHBOUR: 'it returns false'. Refute it at one input. -/
def linkBackWrong : ChangeSpec := { name := "linkBack", fn := fun _ => fun
  | [d1, d2] => { results := [.lit (.bool false)], args := [d1, d2] }
  | _ => none }
def LinkBackWrongFalsely : Prop := linkBackRow.holds Try.pinned (OpenSpec.ofChange linkBackWrong)

/-- 'instarlaw30.ManifestBack': WHATEVER THE INPUT: true; the input reads as it did. -/
def manifestBackSpec : ChangeSpec := { name := "manifestBack", fn := fun _ => fun
  | [d1, d2] => { results := [.lit (.bool true)], args := [d1, d2] }
  | _ => none }
def manifestBackRow : OpenClaim := { program := "ythmocicjocjdoaa", sum := "9d1f5ce07d858c46b2464113589d2f3c29280a835fd4e709c7f6791073295ebc", func := "instar/instarlaw30.ManifestBack", spec := "manifestBack", unfollowed := true, recurses := true, apart := false }
def ManifestBackSaid : Prop := manifestBackRow.holds Try.pinned (OpenSpec.ofChange manifestBackSpec)

/-- ITS FALSE NEIGHBOUR: 'it returns false'. Refute it at one input. -/
def manifestBackWrong : ChangeSpec := { name := "manifestBack", fn := fun _ => fun
  | [d1, d2] => { results := [.lit (.bool false)], args := [d1, d2] }
  | _ => none }
def ManifestBackWrongFalsely : Prop := manifestBackRow.holds Try.pinned (OpenSpec.ofChange manifestBackWrong)

/-- 'instarlaw19.TurnAgain': WHATEVER THE INPUT: true; the input reads as it did. -/
def turnAgainSpec : ChangeSpec := { name := "turnAgain", fn := fun _ => fun
  | [d1, d2, d3] => { results := [.lit (.bool true)], args := [d1, d2, d3] }
  | _ => none }
def turnAgainRow : OpenClaim := { program := "ythmocicjocjdoaa", sum := "9d1f5ce07d858c46b2464113589d2f3c29280a835fd4e709c7f6791073295ebc", func := "instar/instarlaw19.TurnAgain", spec := "turnAgain", inPlace := ["slices.overlaps[instar/api.Form]", "slices.overlaps[instar/api.Field]", "slices.overlaps[instar/api.Value]"], unfollowed := true, recurses := true, apart := false }
def TurnAgainSaid : Prop := turnAgainRow.holds Try.pinned (OpenSpec.ofChange turnAgainSpec)

/-- ITS FALSE NEIGHBOUR: 'it returns false'. Refute it at one input. -/
def turnAgainWrong : ChangeSpec := { name := "turnAgain", fn := fun _ => fun
  | [d1, d2, d3] => { results := [.lit (.bool false)], args := [d1, d2, d3] }
  | _ => none }
def TurnAgainWrongFalsely : Prop := turnAgainRow.holds Try.pinned (OpenSpec.ofChange turnAgainWrong)

/-- 'instarlaw22.PlanWay': WHATEVER THE INPUT: true; the input reads as it did. -/
def planWaySpec : ChangeSpec := { name := "planWay", fn := fun _ => fun
  | [d1, d2, d3] => { results := [.lit (.bool true)], args := [d1, d2, d3] }
  | _ => none }
def planWayRow : OpenClaim := { program := "ythmocicjocjdoaa", sum := "9d1f5ce07d858c46b2464113589d2f3c29280a835fd4e709c7f6791073295ebc", func := "instar/instarlaw22.PlanWay", spec := "planWay", inPlace := ["slices.overlaps[instar/api.Form]", "slices.overlaps[instar/api.Field]"], unfollowed := true, recurses := true, apart := false }
def PlanWaySaid : Prop := planWayRow.holds Try.pinned (OpenSpec.ofChange planWaySpec)

/-- ITS FALSE NEIGHBOUR: 'it returns false'. Refute it at one input. -/
def planWayWrong : ChangeSpec := { name := "planWay", fn := fun _ => fun
  | [d1, d2, d3] => { results := [.lit (.bool false)], args := [d1, d2, d3] }
  | _ => none }
def PlanWayWrongFalsely : Prop := planWayRow.holds Try.pinned (OpenSpec.ofChange planWayWrong)

/-- 'instarlaw22.PlanLeads': WHATEVER THE INPUT: true; the input reads as it did. -/
def planLeadsSpec : ChangeSpec := { name := "planLeads", fn := fun _ => fun
  | [d1, d2, d3] => { results := [.lit (.bool true)], args := [d1, d2, d3] }
  | _ => none }
def planLeadsRow : OpenClaim := { program := "ythmocicjocjdoaa", sum := "9d1f5ce07d858c46b2464113589d2f3c29280a835fd4e709c7f6791073295ebc", func := "instar/instarlaw22.PlanLeads", spec := "planLeads", inPlace := ["slices.overlaps[instar/api.Form]", "slices.overlaps[instar/api.Field]"], unfollowed := true, recurses := true, apart := false }
def PlanLeadsSaid : Prop := planLeadsRow.holds Try.pinned (OpenSpec.ofChange planLeadsSpec)

/-- ITS FALSE NEIGHBOUR: 'it returns false'. Refute it at one input. -/
def planLeadsWrong : ChangeSpec := { name := "planLeads", fn := fun _ => fun
  | [d1, d2, d3] => { results := [.lit (.bool false)], args := [d1, d2, d3] }
  | _ => none }
def PlanLeadsWrongFalsely : Prop := planLeadsRow.holds Try.pinned (OpenSpec.ofChange planLeadsWrong)

/- THE SECOND FORM. 'bulk': how many values and letters a reading holds, each counted each time it is reached (what is shared counts as often as it is met; a slice's spare places count too). A statement '..UptoSaid' is the law's where the arguments, and the package variables that the reading takes, are together of bulk at most 1048576: NARROWER than '..Said'. Prove '..Said' where nothing that the law and all that it calls make is longer than what came in: it says more and counts as full. Else prove '..UptoSaid'. A law counts once. -/
mutual
def uptoBulk {H : Type} : DataW H → Nat
  | .lit (.string bytes) => bytes.length + 1
  | .lit _ => 1
  | .nil => 1
  | .ptr d => uptoBulk d + 1
  | .slice elems spare => uptoBulkAll elems + uptoBulkAll spare + 1
  | .agg parts => uptoBulkAll parts + 1
  | .iface _ d => uptoBulk d + 1
  | .map entries => uptoBulkEntries entries + 1
  | .held _ => 1
def uptoBulkAll {H : Type} : List (DataW H) → Nat
  | [] => 0
  | d :: r => uptoBulk d + uptoBulkAll r
def uptoBulkEntries {H : Type} : List (Lit × DataW H) → Nat
  | [] => 0
  | x :: r => uptoBulkEntry x + uptoBulkEntries r
def uptoBulkEntry {H : Type} : Lit × DataW H → Nat
  | (.string bytes, d) => bytes.length + uptoBulk d + 1
  | (_, d) => uptoBulk d + 1
 end
def uptoSmall : (H : Type) → List (DataW H) → Bool := fun _ ds => decide (uptoBulkAll ds ≤ 1048576)
def OpenSpec.upto (s : _root_.Go.ChangeSpec) : _root_.Go.OpenSpec := { _root_.Go.OpenSpec.ofChange s with cond := some uptoSmall }

/-- 'instarlaw21.LinkRight', WHERE WHAT IT READS IS OF BULK AT MOST 1048576: true; the input reads as it did. -/
def linkRightUptoRow : OpenClaim := { program := "ythmocicjocjdoaa", sum := "9d1f5ce07d858c46b2464113589d2f3c29280a835fd4e709c7f6791073295ebc", func := "instar/instarlaw21.LinkRight", spec := "linkRight", unfollowed := true, recurses := true, apart := false, narrowed := true }
def LinkRightUptoSaid : Prop := linkRightUptoRow.holds Try.pinned (OpenSpec.upto linkRightSpec)

/-- 'instarlaw30.ManifestRight', WHERE WHAT IT READS IS OF BULK AT MOST 1048576: true; the input reads as it did. -/
def manifestRightUptoRow : OpenClaim := { program := "ythmocicjocjdoaa", sum := "9d1f5ce07d858c46b2464113589d2f3c29280a835fd4e709c7f6791073295ebc", func := "instar/instarlaw30.ManifestRight", spec := "manifestRight", unfollowed := true, recurses := true, apart := false, narrowed := true }
def ManifestRightUptoSaid : Prop := manifestRightUptoRow.holds Try.pinned (OpenSpec.upto manifestRightSpec)

/-- 'instarlaw21.LinkBack', WHERE WHAT IT READS IS OF BULK AT MOST 1048576: true; the input reads as it did. -/
def linkBackUptoRow : OpenClaim := { program := "ythmocicjocjdoaa", sum := "9d1f5ce07d858c46b2464113589d2f3c29280a835fd4e709c7f6791073295ebc", func := "instar/instarlaw21.LinkBack", spec := "linkBack", unfollowed := true, recurses := true, apart := false, narrowed := true }
def LinkBackUptoSaid : Prop := linkBackUptoRow.holds Try.pinned (OpenSpec.upto linkBackSpec)

/-- 'instarlaw30.ManifestBack', WHERE WHAT IT READS IS OF BULK AT MOST 1048576: true; the input reads as it did. -/
def manifestBackUptoRow : OpenClaim := { program := "ythmocicjocjdoaa", sum := "9d1f5ce07d858c46b2464113589d2f3c29280a835fd4e709c7f6791073295ebc", func := "instar/instarlaw30.ManifestBack", spec := "manifestBack", unfollowed := true, recurses := true, apart := false, narrowed := true }
def ManifestBackUptoSaid : Prop := manifestBackUptoRow.holds Try.pinned (OpenSpec.upto manifestBackSpec)

/-- 'instarlaw19.TurnAgain', WHERE WHAT IT READS IS OF BULK AT MOST 1048576: true; the input reads as it did. -/
def turnAgainUptoRow : OpenClaim := { program := "ythmocicjocjdoaa", sum := "9d1f5ce07d858c46b2464113589d2f3c29280a835fd4e709c7f6791073295ebc", func := "instar/instarlaw19.TurnAgain", spec := "turnAgain", inPlace := ["slices.overlaps[instar/api.Form]", "slices.overlaps[instar/api.Field]", "slices.overlaps[instar/api.Value]"], unfollowed := true, recurses := true, apart := false, narrowed := true }
def TurnAgainUptoSaid : Prop := turnAgainUptoRow.holds Try.pinned (OpenSpec.upto turnAgainSpec)

/-- 'instarlaw22.PlanWay', WHERE WHAT IT READS IS OF BULK AT MOST 1048576: true; the input reads as it did. -/
def planWayUptoRow : OpenClaim := { program := "ythmocicjocjdoaa", sum := "9d1f5ce07d858c46b2464113589d2f3c29280a835fd4e709c7f6791073295ebc", func := "instar/instarlaw22.PlanWay", spec := "planWay", inPlace := ["slices.overlaps[instar/api.Form]", "slices.overlaps[instar/api.Field]"], unfollowed := true, recurses := true, apart := false, narrowed := true }
def PlanWayUptoSaid : Prop := planWayUptoRow.holds Try.pinned (OpenSpec.upto planWaySpec)

/-- 'instarlaw22.PlanLeads', WHERE WHAT IT READS IS OF BULK AT MOST 1048576: true; the input reads as it did. -/
def planLeadsUptoRow : OpenClaim := { program := "ythmocicjocjdoaa", sum := "9d1f5ce07d858c46b2464113589d2f3c29280a835fd4e709c7f6791073295ebc", func := "instar/instarlaw22.PlanLeads", spec := "planLeads", inPlace := ["slices.overlaps[instar/api.Form]", "slices.overlaps[instar/api.Field]"], unfollowed := true, recurses := true, apart := false, narrowed := true }
def PlanLeadsUptoSaid : Prop := planLeadsUptoRow.holds Try.pinned (OpenSpec.upto planLeadsSpec)

end Rows
end Go.Proofs.Ythmocicjocjdoaa
