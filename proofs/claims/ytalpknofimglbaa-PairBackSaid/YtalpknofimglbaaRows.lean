/-
  No cell of these rows narrows 'for every input' (looked for: loops, veiled, ifaces, maps, wideKeys, modest, calm, conditions, laid).
  DERIVED. THE GIVEN ROWS OF THIS SEAT. 6 by the template 'for every input the law returns true; each argument reads behind the call as it read before'; 0 by the template 'total and deterministic' (their statements: YtalpknofimglbaaTotals.lean).
  GIVEN WITH THE SEED: the statements are not yours to turn. If you find one false, say at which input.
  Laid BY PROGRAM, IN A SANDBOX (cutbox-rows.mjs): the forced cells as the released guide's own fill.sh prints them over the translation df7fbb0ec4796f01… (all of the seat's roots in one cut). By AI agents, Wed Nov 11 2026. No macro, syntax, notation, axiom, sorry.
-/
import Derived.Test.YtalpknofimglbaaChecked
import GoSem.Claim
import GoSem.ClaimJoined
import GoSem.ClaimMapViews
import Derived.JoinedTies
import Derived.KernelRfl
namespace Go.Proofs.Ytalpknofimglbaa
/- THE CELL 'sum', in the pinned program and in every row, IS THE sha256 OF THE DUMP (.gsa) THAT YtalpknofimglbaaProg.lean LOADS. Nothing in Lean hashes anything: it is a label: what it is worth is what the hold of that sum in a sandbox is worth. -/
noncomputable def Try.pinned : Pinned := { name := "ytalpknofimglbaa", sum := "df7fbb0ec4796f01b0cace32d88e510fa703cb2c5fa2746ef601c879a6a928af", checked := Try.checked }
namespace Rows
def none {H : Type} : Left H := { results := [], args := [] }

/-- 'instarlaw16.TypingOn': WHATEVER THE INPUT: true; the input reads as it did. -/
def typingOnSpec : ChangeSpec := { name := "typingOn", fn := fun _ => fun
  | [d1, d2] => { results := [.lit (.bool true)], args := [d1, d2] }
  | _ => none }
def typingOnRow : OpenClaim := { program := "ytalpknofimglbaa", sum := "df7fbb0ec4796f01b0cace32d88e510fa703cb2c5fa2746ef601c879a6a928af", func := "instar/instarlaw16.TypingOn", spec := "typingOn", inPlace := ["slices.overlaps[instar/api.Form]", "slices.overlaps[instar/api.Field]"], unfollowed := true, recurses := true, apart := false }
def TypingOnSaid : Prop := typingOnRow.holds Try.pinned (OpenSpec.ofChange typingOnSpec)

/-- ITS FALSE NEIGHBOUR: 'it returns false'. Refute it at one input. -/
def typingOnWrong : ChangeSpec := { name := "typingOn", fn := fun _ => fun
  | [d1, d2] => { results := [.lit (.bool false)], args := [d1, d2] }
  | _ => none }
def TypingOnWrongFalsely : Prop := typingOnRow.holds Try.pinned (OpenSpec.ofChange typingOnWrong)

/-- 'instarlaw16.TypingAll': WHATEVER THE INPUT: true; the input reads as it did. -/
def typingAllSpec : ChangeSpec := { name := "typingAll", fn := fun _ => fun
  | [d1, d2] => { results := [.lit (.bool true)], args := [d1, d2] }
  | _ => none }
def typingAllRow : OpenClaim := { program := "ytalpknofimglbaa", sum := "df7fbb0ec4796f01b0cace32d88e510fa703cb2c5fa2746ef601c879a6a928af", func := "instar/instarlaw16.TypingAll", spec := "typingAll", inPlace := ["slices.overlaps[instar/api.Form]", "slices.overlaps[instar/api.Field]"], unfollowed := true, recurses := true, apart := false }
def TypingAllSaid : Prop := typingAllRow.holds Try.pinned (OpenSpec.ofChange typingAllSpec)

/-- ITS FALSE NEIGHBOUR: 'it returns false'. Refute it at one input. -/
def typingAllWrong : ChangeSpec := { name := "typingAll", fn := fun _ => fun
  | [d1, d2] => { results := [.lit (.bool false)], args := [d1, d2] }
  | _ => none }
def TypingAllWrongFalsely : Prop := typingAllRow.holds Try.pinned (OpenSpec.ofChange typingAllWrong)

/-- 'instarlaw16.TypingRight': WHATEVER THE INPUT: true; the input reads as it did. -/
def typingRightSpec : ChangeSpec := { name := "typingRight", fn := fun _ => fun
  | [d1, d2] => { results := [.lit (.bool true)], args := [d1, d2] }
  | _ => none }
def typingRightRow : OpenClaim := { program := "ytalpknofimglbaa", sum := "df7fbb0ec4796f01b0cace32d88e510fa703cb2c5fa2746ef601c879a6a928af", func := "instar/instarlaw16.TypingRight", spec := "typingRight", inPlace := ["slices.overlaps[instar/api.Form]", "slices.overlaps[instar/api.Field]"], unfollowed := true, recurses := true, apart := false }
def TypingRightSaid : Prop := typingRightRow.holds Try.pinned (OpenSpec.ofChange typingRightSpec)

/-- ITS FALSE NEIGHBOUR: 'it returns false'. Refute it at one input. -/
def typingRightWrong : ChangeSpec := { name := "typingRight", fn := fun _ => fun
  | [d1, d2] => { results := [.lit (.bool false)], args := [d1, d2] }
  | _ => none }
def TypingRightWrongFalsely : Prop := typingRightRow.holds Try.pinned (OpenSpec.ofChange typingRightWrong)

/-- 'instarlaw17.PairSteps': WHATEVER THE INPUT: true; the input reads as it did. -/
def pairStepsSpec : ChangeSpec := { name := "pairSteps", fn := fun _ => fun
  | [d1, d2, d3] => { results := [.lit (.bool true)], args := [d1, d2, d3] }
  | _ => none }
def pairStepsRow : OpenClaim := { program := "ytalpknofimglbaa", sum := "df7fbb0ec4796f01b0cace32d88e510fa703cb2c5fa2746ef601c879a6a928af", func := "instar/instarlaw17.PairSteps", spec := "pairSteps", inPlace := ["slices.overlaps[instar/api.Form]", "slices.overlaps[instar/api.Field]"], unfollowed := true, recurses := true, apart := false }
def PairStepsSaid : Prop := pairStepsRow.holds Try.pinned (OpenSpec.ofChange pairStepsSpec)

/-- ITS FALSE NEIGHBOUR: 'it returns false'. Refute it at one input. -/
def pairStepsWrong : ChangeSpec := { name := "pairSteps", fn := fun _ => fun
  | [d1, d2, d3] => { results := [.lit (.bool false)], args := [d1, d2, d3] }
  | _ => none }
def PairStepsWrongFalsely : Prop := pairStepsRow.holds Try.pinned (OpenSpec.ofChange pairStepsWrong)

/-- 'instarlaw17.PairChecks': WHATEVER THE INPUT: true; the input reads as it did. -/
def pairChecksSpec : ChangeSpec := { name := "pairChecks", fn := fun _ => fun
  | [d1, d2, d3] => { results := [.lit (.bool true)], args := [d1, d2, d3] }
  | _ => none }
def pairChecksRow : OpenClaim := { program := "ytalpknofimglbaa", sum := "df7fbb0ec4796f01b0cace32d88e510fa703cb2c5fa2746ef601c879a6a928af", func := "instar/instarlaw17.PairChecks", spec := "pairChecks", inPlace := ["slices.overlaps[instar/api.Form]", "slices.overlaps[instar/api.Field]"], unfollowed := true, recurses := true, apart := false }
def PairChecksSaid : Prop := pairChecksRow.holds Try.pinned (OpenSpec.ofChange pairChecksSpec)

/-- ITS FALSE NEIGHBOUR: 'it returns false'. Refute it at one input. -/
def pairChecksWrong : ChangeSpec := { name := "pairChecks", fn := fun _ => fun
  | [d1, d2, d3] => { results := [.lit (.bool false)], args := [d1, d2, d3] }
  | _ => none }
def PairChecksWrongFalsely : Prop := pairChecksRow.holds Try.pinned (OpenSpec.ofChange pairChecksWrong)

/-- 'instarlaw17.PairBack': WHATEVER THE INPUT: true; the input reads as it did. -/
def pairBackSpec : ChangeSpec := { name := "pairBack", fn := fun _ => fun
  | [d1, d2, d3] => { results := [.lit (.bool true)], args := [d1, d2, d3] }
  | _ => none }
def pairBackRow : OpenClaim := { program := "ytalpknofimglbaa", sum := "df7fbb0ec4796f01b0cace32d88e510fa703cb2c5fa2746ef601c879a6a928af", func := "instar/instarlaw17.PairBack", spec := "pairBack", inPlace := ["slices.overlaps[instar/api.Form]", "slices.overlaps[instar/api.Field]"], unfollowed := true, recurses := true, apart := false }
def PairBackSaid : Prop := pairBackRow.holds Try.pinned (OpenSpec.ofChange pairBackSpec)

/-- ITS FALSE NEIGHBOUR: 'it returns false'. Refute it at one input. -/
def pairBackWrong : ChangeSpec := { name := "pairBack", fn := fun _ => fun
  | [d1, d2, d3] => { results := [.lit (.bool false)], args := [d1, d2, d3] }
  | _ => none }
def PairBackWrongFalsely : Prop := pairBackRow.holds Try.pinned (OpenSpec.ofChange pairBackWrong)

/- THE SECOND FORM. 'bulk': how many values and letters a reading holds, each counted each time it is reached (what is shared counts as often as it is met; a slice's spare places count too). A statement '..UptoSaid' is the law's where the arguments, and the package variables that the reading takes, are together of bulk at most 1048576: NARROWER than '..Said'. Prove '..Said' where nothing that the law and all that it calls make is longer than what came in: it says more and counts as full. Else prove '..UptoSaid'. A law counts once. -/
mutual
def uptoBulk {H : Type} : DataW H → Nat
  | .lit (.string bytes) => bytes.length + 1
  | .lit _ => 1
  | .nil => 1
  | .ptr d => uptoBulk d + 1
  | .slice elems spare => uptoBulkAll elems + uptoBulkAll spare + 1
  | .agg parts => uptoBulkAll parts + 1
  | .iface _ d => uptoBulk d + 1
  | .map entries => uptoBulkEntries entries + 1
  | .held _ => 1
def uptoBulkAll {H : Type} : List (DataW H) → Nat
  | [] => 0
  | d :: r => uptoBulk d + uptoBulkAll r
def uptoBulkEntries {H : Type} : List (Lit × DataW H) → Nat
  | [] => 0
  | x :: r => uptoBulkEntry x + uptoBulkEntries r
def uptoBulkEntry {H : Type} : Lit × DataW H → Nat
  | (.string bytes, d) => bytes.length + uptoBulk d + 1
  | (_, d) => uptoBulk d + 1
 end
def uptoSmall : (H : Type) → List (DataW H) → Bool := fun _ ds => decide (uptoBulkAll ds ≤ 1048576)
def OpenSpec.upto (s : _root_.Go.ChangeSpec) : _root_.Go.OpenSpec := { _root_.Go.OpenSpec.ofChange s with cond := some uptoSmall }

/-- 'instarlaw16.TypingOn', WHERE WHAT IT READS IS OF BULK AT MOST 1048576: true; the input reads as it did. -/
def typingOnUptoRow : OpenClaim := { program := "ytalpknofimglbaa", sum := "df7fbb0ec4796f01b0cace32d88e510fa703cb2c5fa2746ef601c879a6a928af", func := "instar/instarlaw16.TypingOn", spec := "typingOn", inPlace := ["slices.overlaps[instar/api.Form]", "slices.overlaps[instar/api.Field]"], unfollowed := true, recurses := true, apart := false, narrowed := true }
def TypingOnUptoSaid : Prop := typingOnUptoRow.holds Try.pinned (OpenSpec.upto typingOnSpec)

/-- 'instarlaw16.TypingAll', WHERE WHAT IT READS IS OF BULK AT MOST 1048576: true; the input reads as it did. -/
def typingAllUptoRow : OpenClaim := { program := "ytalpknofimglbaa", sum := "df7fbb0ec4796f01b0cace32d88e510fa703cb2c5fa2746ef601c879a6a928af", func := "instar/instarlaw16.TypingAll", spec := "typingAll", inPlace := ["slices.overlaps[instar/api.Form]", "slices.overlaps[instar/api.Field]"], unfollowed := true, recurses := true, apart := false, narrowed := true }
def TypingAllUptoSaid : Prop := typingAllUptoRow.holds Try.pinned (OpenSpec.upto typingAllSpec)

/-- 'instarlaw16.TypingRight', WHERE WHAT IT READS IS OF BULK AT MOST 1048576: true; the input reads as it did. -/
def typingRightUptoRow : OpenClaim := { program := "ytalpknofimglbaa", sum := "df7fbb0ec4796f01b0cace32d88e510fa703cb2c5fa2746ef601c879a6a928af", func := "instar/instarlaw16.TypingRight", spec := "typingRight", inPlace := ["slices.overlaps[instar/api.Form]", "slices.overlaps[instar/api.Field]"], unfollowed := true, recurses := true, apart := false, narrowed := true }
def TypingRightUptoSaid : Prop := typingRightUptoRow.holds Try.pinned (OpenSpec.upto typingRightSpec)

/-- 'instarlaw17.PairSteps', WHERE WHAT IT READS IS OF BULK AT MOST 1048576: true; the input reads as it did. -/
def pairStepsUptoRow : OpenClaim := { program := "ytalpknofimglbaa", sum := "df7fbb0ec4796f01b0cace32d88e510fa703cb2c5fa2746ef601c879a6a928af", func := "instar/instarlaw17.PairSteps", spec := "pairSteps", inPlace := ["slices.overlaps[instar/api.Form]", "slices.overlaps[instar/api.Field]"], unfollowed := true, recurses := true, apart := false, narrowed := true }
def PairStepsUptoSaid : Prop := pairStepsUptoRow.holds Try.pinned (OpenSpec.upto pairStepsSpec)

/-- 'instarlaw17.PairChecks', WHERE WHAT IT READS IS OF BULK AT MOST 1048576: true; the input reads as it did. -/
def pairChecksUptoRow : OpenClaim := { program := "ytalpknofimglbaa", sum := "df7fbb0ec4796f01b0cace32d88e510fa703cb2c5fa2746ef601c879a6a928af", func := "instar/instarlaw17.PairChecks", spec := "pairChecks", inPlace := ["slices.overlaps[instar/api.Form]", "slices.overlaps[instar/api.Field]"], unfollowed := true, recurses := true, apart := false, narrowed := true }
def PairChecksUptoSaid : Prop := pairChecksUptoRow.holds Try.pinned (OpenSpec.upto pairChecksSpec)

/-- 'instarlaw17.PairBack', WHERE WHAT IT READS IS OF BULK AT MOST 1048576: true; the input reads as it did. -/
def pairBackUptoRow : OpenClaim := { program := "ytalpknofimglbaa", sum := "df7fbb0ec4796f01b0cace32d88e510fa703cb2c5fa2746ef601c879a6a928af", func := "instar/instarlaw17.PairBack", spec := "pairBack", inPlace := ["slices.overlaps[instar/api.Form]", "slices.overlaps[instar/api.Field]"], unfollowed := true, recurses := true, apart := false, narrowed := true }
def PairBackUptoSaid : Prop := pairBackUptoRow.holds Try.pinned (OpenSpec.upto pairBackSpec)

end Rows
end Go.Proofs.Ytalpknofimglbaa
