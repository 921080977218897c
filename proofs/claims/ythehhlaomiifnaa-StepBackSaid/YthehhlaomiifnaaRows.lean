/-
  No cell of these rows narrows 'for every input' (looked for: loops, veiled, ifaces, maps, wideKeys, modest, calm, conditions, laid).
  DERIVED. THE GIVEN ROWS OF THIS SEAT. 16 by the template 'for every input the law returns true; each argument reads behind the call as it read before'; 0 by the template 'total and deterministic' (their statements: YthehhlaomiifnaaTotals.lean).
  GIVEN WITH THE SEED: the statements are not yours to turn. If you find one false, say at which input.
  Laid BY PROGRAM, IN A SANDBOX (cutbox-rows.mjs): the forced cells as the released guide's own fill.sh prints them over the translation 4b30aadc953df438… (all of the seat's roots in one cut). By AI agents, Wed Nov 11 2026. No macro, syntax, notation, axiom, sorry.
-/
import Derived.Test.YthehhlaomiifnaaChecked
import GoSem.Claim
import GoSem.ClaimJoined
import GoSem.ClaimMapViews
import Derived.JoinedTies
import Derived.KernelRfl
namespace Go.Proofs.Ythehhlaomiifnaa
/- THE CELL 'sum', in the pinned program and in every row, IS THE sha256 OF THE DUMP (.gsa) THAT YthehhlaomiifnaaProg.lean LOADS. Nothing in Lean hashes anything: it is a label: what it is worth is what the hold of that sum in a sandbox is worth. -/
noncomputable def Try.pinned : Pinned := { name := "ythehhlaomiifnaa", sum := "4b30aadc953df438bbcdcf04bfc9edadaa0d249717547a588e0892bd4230bba4", checked := Try.checked }
namespace Rows
def none {H : Type} : Left H := { results := [], args := [] }

/-- 'instarlaw05.PenWrites': WHATEVER THE INPUT: true; the input reads as it did. -/
def penWritesSpec : ChangeSpec := { name := "penWrites", fn := fun _ => fun
  | [d] => { results := [.lit (.bool true)], args := [d] }
  | _ => none }
def penWritesRow : OpenClaim := { program := "ythehhlaomiifnaa", sum := "4b30aadc953df438bbcdcf04bfc9edadaa0d249717547a588e0892bd4230bba4", func := "instar/instarlaw05.PenWrites", spec := "penWrites", apart := false }
def PenWritesSaid : Prop := penWritesRow.holds Try.pinned (OpenSpec.ofChange penWritesSpec)

/-- ITS FALSE NEIGHBOUR: 'it returns false'. Refute it at one input. -/
def penWritesWrong : ChangeSpec := { name := "penWrites", fn := fun _ => fun
  | [d] => { results := [.lit (.bool false)], args := [d] }
  | _ => none }
def PenWritesWrongFalsely : Prop := penWritesRow.holds Try.pinned (OpenSpec.ofChange penWritesWrong)

/-- 'instarlaw05.PenReads': WHATEVER THE INPUT: true; the input reads as it did. -/
def penReadsSpec : ChangeSpec := { name := "penReads", fn := fun _ => fun
  | [d1, d2] => { results := [.lit (.bool true)], args := [d1, d2] }
  | _ => none }
def penReadsRow : OpenClaim := { program := "ythehhlaomiifnaa", sum := "4b30aadc953df438bbcdcf04bfc9edadaa0d249717547a588e0892bd4230bba4", func := "instar/instarlaw05.PenReads", spec := "penReads", apart := false }
def PenReadsSaid : Prop := penReadsRow.holds Try.pinned (OpenSpec.ofChange penReadsSpec)

/-- ITS FALSE NEIGHBOUR: 'it returns false'. Refute it at one input. -/
def penReadsWrong : ChangeSpec := { name := "penReads", fn := fun _ => fun
  | [d1, d2] => { results := [.lit (.bool false)], args := [d1, d2] }
  | _ => none }
def PenReadsWrongFalsely : Prop := penReadsRow.holds Try.pinned (OpenSpec.ofChange penReadsWrong)

/-- 'instarlaw05.PenBack': WHATEVER THE INPUT: true; the input reads as it did. -/
def penBackSpec : ChangeSpec := { name := "penBack", fn := fun _ => fun
  | [d] => { results := [.lit (.bool true)], args := [d] }
  | _ => none }
def penBackRow : OpenClaim := { program := "ythehhlaomiifnaa", sum := "4b30aadc953df438bbcdcf04bfc9edadaa0d249717547a588e0892bd4230bba4", func := "instar/instarlaw05.PenBack", spec := "penBack", apart := false }
def PenBackSaid : Prop := penBackRow.holds Try.pinned (OpenSpec.ofChange penBackSpec)

/-- ITS FALSE NEIGHBOUR: 'it returns false'. Refute it at one input. -/
def penBackWrong : ChangeSpec := { name := "penBack", fn := fun _ => fun
  | [d] => { results := [.lit (.bool false)], args := [d] }
  | _ => none }
def PenBackWrongFalsely : Prop := penBackRow.holds Try.pinned (OpenSpec.ofChange penBackWrong)

/-- 'instarlaw05.PenNone': WHATEVER THE INPUT: true; the input reads as it did. -/
def penNoneSpec : ChangeSpec := { name := "penNone", fn := fun _ => fun
  | [d] => { results := [.lit (.bool true)], args := [d] }
  | _ => none }
def penNoneRow : OpenClaim := { program := "ythehhlaomiifnaa", sum := "4b30aadc953df438bbcdcf04bfc9edadaa0d249717547a588e0892bd4230bba4", func := "instar/instarlaw05.PenNone", spec := "penNone", apart := false }
def PenNoneSaid : Prop := penNoneRow.holds Try.pinned (OpenSpec.ofChange penNoneSpec)

/-- ITS FALSE NEIGHBOUR: 'it returns false'. Refute it at one input. -/
def penNoneWrong : ChangeSpec := { name := "penNone", fn := fun _ => fun
  | [d] => { results := [.lit (.bool false)], args := [d] }
  | _ => none }
def PenNoneWrongFalsely : Prop := penNoneRow.holds Try.pinned (OpenSpec.ofChange penNoneWrong)

/-- 'instarlaw13.SchemaRight': WHATEVER THE INPUT: true; the input reads as it did. -/
def schemaRightSpec : ChangeSpec := { name := "schemaRight", fn := fun _ => fun
  | [d1, d2, d3] => { results := [.lit (.bool true)], args := [d1, d2, d3] }
  | _ => none }
def schemaRightRow : OpenClaim := { program := "ythehhlaomiifnaa", sum := "4b30aadc953df438bbcdcf04bfc9edadaa0d249717547a588e0892bd4230bba4", func := "instar/instarlaw13.SchemaRight", spec := "schemaRight", unfollowed := true, recurses := true, apart := false }
def SchemaRightSaid : Prop := schemaRightRow.holds Try.pinned (OpenSpec.ofChange schemaRightSpec)

/-- ITS FALSE NEIGHBOUR: 'it returns false'. Refute it at one input. -/
def schemaRightWrong : ChangeSpec := { name := "schemaRight", fn := fun _ => fun
  | [d1, d2, d3] => { results := [.lit (.bool false)], args := [d1, d2, d3] }
  | _ => none }
def SchemaRightWrongFalsely : Prop := schemaRightRow.holds Try.pinned (OpenSpec.ofChange schemaRightWrong)

/-- 'instarlaw13.SchemaBytes': WHATEVER THE INPUT: true; the input reads as it did. -/
def schemaBytesSpec : ChangeSpec := { name := "schemaBytes", fn := fun _ => fun
  | [d1, d2] => { results := [.lit (.bool true)], args := [d1, d2] }
  | _ => none }
def schemaBytesRow : OpenClaim := { program := "ythehhlaomiifnaa", sum := "4b30aadc953df438bbcdcf04bfc9edadaa0d249717547a588e0892bd4230bba4", func := "instar/instarlaw13.SchemaBytes", spec := "schemaBytes", apart := false }
def SchemaBytesSaid : Prop := schemaBytesRow.holds Try.pinned (OpenSpec.ofChange schemaBytesSpec)

/-- ITS FALSE NEIGHBOUR: 'it returns false'. Refute it at one input. -/
def schemaBytesWrong : ChangeSpec := { name := "schemaBytes", fn := fun _ => fun
  | [d1, d2] => { results := [.lit (.bool false)], args := [d1, d2] }
  | _ => none }
def SchemaBytesWrongFalsely : Prop := schemaBytesRow.holds Try.pinned (OpenSpec.ofChange schemaBytesWrong)

/-- 'instarlaw13.SchemaBack': WHATEVER THE INPUT: true; the input reads as it did. -/
def schemaBackSpec : ChangeSpec := { name := "schemaBack", fn := fun _ => fun
  | [d1, d2] => { results := [.lit (.bool true)], args := [d1, d2] }
  | _ => none }
def schemaBackRow : OpenClaim := { program := "ythehhlaomiifnaa", sum := "4b30aadc953df438bbcdcf04bfc9edadaa0d249717547a588e0892bd4230bba4", func := "instar/instarlaw13.SchemaBack", spec := "schemaBack", apart := false }
def SchemaBackSaid : Prop := schemaBackRow.holds Try.pinned (OpenSpec.ofChange schemaBackSpec)

/-- ITS FALSE NEIGHBOUR: 'it returns false'. Refute it at one input. -/
def schemaBackWrong : ChangeSpec := { name := "schemaBack", fn := fun _ => fun
  | [d1, d2] => { results := [.lit (.bool false)], args := [d1, d2] }
  | _ => none }
def SchemaBackWrongFalsely : Prop := schemaBackRow.holds Try.pinned (OpenSpec.ofChange schemaBackWrong)

/-- 'instarlaw15.StepRight': WHATEVER THE INPUT: true; the input reads as it did. -/
def stepRightSpec : ChangeSpec := { name := "stepRight", fn := fun _ => fun
  | [d1, d2] => { results := [.lit (.bool true)], args := [d1, d2] }
  | _ => none }
def stepRightRow : OpenClaim := { program := "ythehhlaomiifnaa", sum := "4b30aadc953df438bbcdcf04bfc9edadaa0d249717547a588e0892bd4230bba4", func := "instar/instarlaw15.StepRight", spec := "stepRight", apart := false }
def StepRightSaid : Prop := stepRightRow.holds Try.pinned (OpenSpec.ofChange stepRightSpec)

/-- ITS FALSE NEIGHBOUR: 'it returns false'. Refute it at one input. -/
def stepRightWrong : ChangeSpec := { name := "stepRight", fn := fun _ => fun
  | [d1, d2] => { results := [.lit (.bool false)], args := [d1, d2] }
  | _ => none }
def StepRightWrongFalsely : Prop := stepRightRow.holds Try.pinned (OpenSpec.ofChange stepRightWrong)

/-- 'instarlaw15.StepBytes': WHATEVER THE INPUT: true; the input reads as it did. -/
def stepBytesSpec : ChangeSpec := { name := "stepBytes", fn := fun _ => fun
  | [d1, d2] => { results := [.lit (.bool true)], args := [d1, d2] }
  | _ => none }
def stepBytesRow : OpenClaim := { program := "ythehhlaomiifnaa", sum := "4b30aadc953df438bbcdcf04bfc9edadaa0d249717547a588e0892bd4230bba4", func := "instar/instarlaw15.StepBytes", spec := "stepBytes", unfollowed := true, recurses := true, apart := false }
def StepBytesSaid : Prop := stepBytesRow.holds Try.pinned (OpenSpec.ofChange stepBytesSpec)

/-- ITS FALSE NEIGHBOUR: 'it returns false'. Refute it at one input. -/
def stepBytesWrong : ChangeSpec := { name := "stepBytes", fn := fun _ => fun
  | [d1, d2] => { results := [.lit (.bool false)], args := [d1, d2] }
  | _ => none }
def StepBytesWrongFalsely : Prop := stepBytesRow.holds Try.pinned (OpenSpec.ofChange stepBytesWrong)

/-- 'instarlaw15.StepBack': WHATEVER THE INPUT: true; the input reads as it did. -/
def stepBackSpec : ChangeSpec := { name := "stepBack", fn := fun _ => fun
  | [d1, d2] => { results := [.lit (.bool true)], args := [d1, d2] }
  | _ => none }
def stepBackRow : OpenClaim := { program := "ythehhlaomiifnaa", sum := "4b30aadc953df438bbcdcf04bfc9edadaa0d249717547a588e0892bd4230bba4", func := "instar/instarlaw15.StepBack", spec := "stepBack", unfollowed := true, recurses := true, apart := false }
def StepBackSaid : Prop := stepBackRow.holds Try.pinned (OpenSpec.ofChange stepBackSpec)

/-- ITS FALSE NEIGHBOUR: 'it returns false'. Refute it at one input. -/
def stepBackWrong : ChangeSpec := { name := "stepBack", fn := fun _ => fun
  | [d1, d2] => { results := [.lit (.bool false)], args := [d1, d2] }
  | _ => none }
def StepBackWrongFalsely : Prop := stepBackRow.holds Try.pinned (OpenSpec.ofChange stepBackWrong)

/-- 'instarlaw16.TypingOn': WHATEVER THE INPUT: true; the input reads as it did. -/
def typingOnSpec : ChangeSpec := { name := "typingOn", fn := fun _ => fun
  | [d1, d2] => { results := [.lit (.bool true)], args := [d1, d2] }
  | _ => none }
def typingOnRow : OpenClaim := { program := "ythehhlaomiifnaa", sum := "4b30aadc953df438bbcdcf04bfc9edadaa0d249717547a588e0892bd4230bba4", func := "instar/instarlaw16.TypingOn", spec := "typingOn", inPlace := ["slices.overlaps[instar/api.Form]", "slices.overlaps[instar/api.Field]"], unfollowed := true, recurses := true, apart := false }
def TypingOnSaid : Prop := typingOnRow.holds Try.pinned (OpenSpec.ofChange typingOnSpec)

/-- ITS FALSE NEIGHBOUR: 'it returns false'. Refute it at one input. -/
def typingOnWrong : ChangeSpec := { name := "typingOn", fn := fun _ => fun
  | [d1, d2] => { results := [.lit (.bool false)], args := [d1, d2] }
  | _ => none }
def TypingOnWrongFalsely : Prop := typingOnRow.holds Try.pinned (OpenSpec.ofChange typingOnWrong)

/-- 'instarlaw16.TypingAll': WHATEVER THE INPUT: true; the input reads as it did. -/
def typingAllSpec : ChangeSpec := { name := "typingAll", fn := fun _ => fun
  | [d1, d2] => { results := [.lit (.bool true)], args := [d1, d2] }
  | _ => none }
def typingAllRow : OpenClaim := { program := "ythehhlaomiifnaa", sum := "4b30aadc953df438bbcdcf04bfc9edadaa0d249717547a588e0892bd4230bba4", func := "instar/instarlaw16.TypingAll", spec := "typingAll", inPlace := ["slices.overlaps[instar/api.Form]", "slices.overlaps[instar/api.Field]"], unfollowed := true, recurses := true, apart := false }
def TypingAllSaid : Prop := typingAllRow.holds Try.pinned (OpenSpec.ofChange typingAllSpec)

/-- ITS FALSE NEIGHBOUR: 'it returns false'. Refute it at one input. -/
def typingAllWrong : ChangeSpec := { name := "typingAll", fn := fun _ => fun
  | [d1, d2] => { results := [.lit (.bool false)], args := [d1, d2] }
  | _ => none }
def TypingAllWrongFalsely : Prop := typingAllRow.holds Try.pinned (OpenSpec.ofChange typingAllWrong)

/-- 'instarlaw16.TypingRight': WHATEVER THE INPUT: true; the input reads as it did. -/
def typingRightSpec : ChangeSpec := { name := "typingRight", fn := fun _ => fun
  | [d1, d2] => { results := [.lit (.bool true)], args := [d1, d2] }
  | _ => none }
def typingRightRow : OpenClaim := { program := "ythehhlaomiifnaa", sum := "4b30aadc953df438bbcdcf04bfc9edadaa0d249717547a588e0892bd4230bba4", func := "instar/instarlaw16.TypingRight", spec := "typingRight", inPlace := ["slices.overlaps[instar/api.Form]", "slices.overlaps[instar/api.Field]"], unfollowed := true, recurses := true, apart := false }
def TypingRightSaid : Prop := typingRightRow.holds Try.pinned (OpenSpec.ofChange typingRightSpec)

/-- ITS FALSE NEIGHBOUR: 'it returns false'. Refute it at one input. -/
def typingRightWrong : ChangeSpec := { name := "typingRight", fn := fun _ => fun
  | [d1, d2] => { results := [.lit (.bool false)], args := [d1, d2] }
  | _ => none }
def TypingRightWrongFalsely : Prop := typingRightRow.holds Try.pinned (OpenSpec.ofChange typingRightWrong)

/-- 'instarlaw17.PairSteps': WHATEVER THE INPUT: true; the input reads as it did. -/
def pairStepsSpec : ChangeSpec := { name := "pairSteps", fn := fun _ => fun
  | [d1, d2, d3] => { results := [.lit (.bool true)], args := [d1, d2, d3] }
  | _ => none }
def pairStepsRow : OpenClaim := { program := "ythehhlaomiifnaa", sum := "4b30aadc953df438bbcdcf04bfc9edadaa0d249717547a588e0892bd4230bba4", func := "instar/instarlaw17.PairSteps", spec := "pairSteps", inPlace := ["slices.overlaps[instar/api.Form]", "slices.overlaps[instar/api.Field]"], unfollowed := true, recurses := true, apart := false }
def PairStepsSaid : Prop := pairStepsRow.holds Try.pinned (OpenSpec.ofChange pairStepsSpec)

/-- ITS FALSE NEIGHBOUR: 'it returns false'. Refute it at one input. -/
def pairStepsWrong : ChangeSpec := { name := "pairSteps", fn := fun _ => fun
  | [d1, d2, d3] => { results := [.lit (.bool false)], args := [d1, d2, d3] }
  | _ => none }
def PairStepsWrongFalsely : Prop := pairStepsRow.holds Try.pinned (OpenSpec.ofChange pairStepsWrong)

/-- 'instarlaw17.PairChecks': WHATEVER THE INPUT: true; the input reads as it did. -/
def pairChecksSpec : ChangeSpec := { name := "pairChecks", fn := fun _ => fun
  | [d1, d2, d3] => { results := [.lit (.bool true)], args := [d1, d2, d3] }
  | _ => none }
def pairChecksRow : OpenClaim := { program := "ythehhlaomiifnaa", sum := "4b30aadc953df438bbcdcf04bfc9edadaa0d249717547a588e0892bd4230bba4", func := "instar/instarlaw17.PairChecks", spec := "pairChecks", inPlace := ["slices.overlaps[instar/api.Form]", "slices.overlaps[instar/api.Field]"], unfollowed := true, recurses := true, apart := false }
def PairChecksSaid : Prop := pairChecksRow.holds Try.pinned (OpenSpec.ofChange pairChecksSpec)

/-- ITS FALSE NEIGHBOUR: 'it returns false'. Refute it at one input. -/
def pairChecksWrong : ChangeSpec := { name := "pairChecks", fn := fun _ => fun
  | [d1, d2, d3] => { results := [.lit (.bool false)], args := [d1, d2, d3] }
  | _ => none }
def PairChecksWrongFalsely : Prop := pairChecksRow.holds Try.pinned (OpenSpec.ofChange pairChecksWrong)

/-- 'instarlaw17.PairBack': WHATEVER THE INPUT: true; the input reads as it did. -/
def pairBackSpec : ChangeSpec := { name := "pairBack", fn := fun _ => fun
  | [d1, d2, d3] => { results := [.lit (.bool true)], args := [d1, d2, d3] }
  | _ => none }
def pairBackRow : OpenClaim := { program := "ythehhlaomiifnaa", sum := "4b30aadc953df438bbcdcf04bfc9edadaa0d249717547a588e0892bd4230bba4", func := "instar/instarlaw17.PairBack", spec := "pairBack", inPlace := ["slices.overlaps[instar/api.Form]", "slices.overlaps[instar/api.Field]"], unfollowed := true, recurses := true, apart := false }
def PairBackSaid : Prop := pairBackRow.holds Try.pinned (OpenSpec.ofChange pairBackSpec)

/-- ITS FALSE NEIGHBOUR: 'it returns false'. Refute it at one input. -/
def pairBackWrong : ChangeSpec := { name := "pairBack", fn := fun _ => fun
  | [d1, d2, d3] => { results := [.lit (.bool false)], args := [d1, d2, d3] }
  | _ => none }
def PairBackWrongFalsely : Prop := pairBackRow.holds Try.pinned (OpenSpec.ofChange pairBackWrong)

/- THE SECOND FORM. 'bulk': how many values and letters a reading holds, each counted each time it is reached (what is shared counts as often as it is met; a slice's spare places count too). A statement '..UptoSaid' is the law's where the arguments, and the package variables that the reading takes, are together of bulk at most 1048576: NARROWER than '..Said'. Prove '..Said' where nothing that the law and all that it calls make is longer than what came in: it says more and counts as full. Else prove '..UptoSaid'. A law counts once. -/
mutual
def uptoBulk {H : Type} : DataW H → Nat
  | .lit (.string bytes) => bytes.length + 1
  | .lit _ => 1
  | .nil => 1
  | .ptr d => uptoBulk d + 1
  | .slice elems spare => uptoBulkAll elems + uptoBulkAll spare + 1
  | .agg parts => uptoBulkAll parts + 1
  | .iface _ d => uptoBulk d + 1
  | .map entries => uptoBulkEntries entries + 1
  | .held _ => 1
def uptoBulkAll {H : Type} : List (DataW H) → Nat
  | [] => 0
  | d :: r => uptoBulk d + uptoBulkAll r
def uptoBulkEntries {H : Type} : List (Lit × DataW H) → Nat
  | [] => 0
  | x :: r => uptoBulkEntry x + uptoBulkEntries r
def uptoBulkEntry {H : Type} : Lit × DataW H → Nat
  | (.string bytes, d) => bytes.length + uptoBulk d + 1
  | (_, d) => uptoBulk d + 1
 end
def uptoSmall : (H : Type) → List (DataW H) → Bool := fun _ ds => decide (uptoBulkAll ds ≤ 1048576)
def OpenSpec.upto (s : _root_.Go.ChangeSpec) : _root_.Go.OpenSpec := { _root_.Go.OpenSpec.ofChange s with cond := some uptoSmall }

/-- 'instarlaw05.PenWrites', WHERE WHAT IT READS IS OF BULK AT MOST 1048576: true; the input reads as it did. -/
def penWritesUptoRow : OpenClaim := { program := "ythehhlaomiifnaa", sum := "4b30aadc953df438bbcdcf04bfc9edadaa0d249717547a588e0892bd4230bba4", func := "instar/instarlaw05.PenWrites", spec := "penWrites", apart := false, narrowed := true }
def PenWritesUptoSaid : Prop := penWritesUptoRow.holds Try.pinned (OpenSpec.upto penWritesSpec)

/-- 'instarlaw05.PenReads', WHERE WHAT IT READS IS OF BULK AT MOST 1048576: true; the input reads as it did. -/
def penReadsUptoRow : OpenClaim := { program := "ythehhlaomiifnaa", sum := "4b30aadc953df438bbcdcf04bfc9edadaa0d249717547a588e0892bd4230bba4", func := "instar/instarlaw05.PenReads", spec := "penReads", apart := false, narrowed := true }
def PenReadsUptoSaid : Prop := penReadsUptoRow.holds Try.pinned (OpenSpec.upto penReadsSpec)

/-- 'instarlaw05.PenBack', WHERE WHAT IT READS IS OF BULK AT MOST 1048576: true; the input reads as it did. -/
def penBackUptoRow : OpenClaim := { program := "ythehhlaomiifnaa", sum := "4b30aadc953df438bbcdcf04bfc9edadaa0d249717547a588e0892bd4230bba4", func := "instar/instarlaw05.PenBack", spec := "penBack", apart := false, narrowed := true }
def PenBackUptoSaid : Prop := penBackUptoRow.holds Try.pinned (OpenSpec.upto penBackSpec)

/-- 'instarlaw05.PenNone', WHERE WHAT IT READS IS OF BULK AT MOST 1048576: true; the input reads as it did. -/
def penNoneUptoRow : OpenClaim := { program := "ythehhlaomiifnaa", sum := "4b30aadc953df438bbcdcf04bfc9edadaa0d249717547a588e0892bd4230bba4", func := "instar/instarlaw05.PenNone", spec := "penNone", apart := false, narrowed := true }
def PenNoneUptoSaid : Prop := penNoneUptoRow.holds Try.pinned (OpenSpec.upto penNoneSpec)

/-- 'instarlaw13.SchemaRight', WHERE WHAT IT READS IS OF BULK AT MOST 1048576: true; the input reads as it did. -/
def schemaRightUptoRow : OpenClaim := { program := "ythehhlaomiifnaa", sum := "4b30aadc953df438bbcdcf04bfc9edadaa0d249717547a588e0892bd4230bba4", func := "instar/instarlaw13.SchemaRight", spec := "schemaRight", unfollowed := true, recurses := true, apart := false, narrowed := true }
def SchemaRightUptoSaid : Prop := schemaRightUptoRow.holds Try.pinned (OpenSpec.upto schemaRightSpec)

/-- 'instarlaw13.SchemaBytes', WHERE WHAT IT READS IS OF BULK AT MOST 1048576: true; the input reads as it did. -/
def schemaBytesUptoRow : OpenClaim := { program := "ythehhlaomiifnaa", sum := "4b30aadc953df438bbcdcf04bfc9edadaa0d249717547a588e0892bd4230bba4", func := "instar/instarlaw13.SchemaBytes", spec := "schemaBytes", apart := false, narrowed := true }
def SchemaBytesUptoSaid : Prop := schemaBytesUptoRow.holds Try.pinned (OpenSpec.upto schemaBytesSpec)

/-- 'instarlaw13.SchemaBack', WHERE WHAT IT READS IS OF BULK AT MOST 1048576: true; the input reads as it did. -/
def schemaBackUptoRow : OpenClaim := { program := "ythehhlaomiifnaa", sum := "4b30aadc953df438bbcdcf04bfc9edadaa0d249717547a588e0892bd4230bba4", func := "instar/instarlaw13.SchemaBack", spec := "schemaBack", apart := false, narrowed := true }
def SchemaBackUptoSaid : Prop := schemaBackUptoRow.holds Try.pinned (OpenSpec.upto schemaBackSpec)

/-- 'instarlaw15.StepRight', WHERE WHAT IT READS IS OF BULK AT MOST 1048576: true; the input reads as it did. -/
def stepRightUptoRow : OpenClaim := { program := "ythehhlaomiifnaa", sum := "4b30aadc953df438bbcdcf04bfc9edadaa0d249717547a588e0892bd4230bba4", func := "instar/instarlaw15.StepRight", spec := "stepRight", apart := false, narrowed := true }
def StepRightUptoSaid : Prop := stepRightUptoRow.holds Try.pinned (OpenSpec.upto stepRightSpec)

/-- 'instarlaw15.StepBytes', WHERE WHAT IT READS IS OF BULK AT MOST 1048576: true; the input reads as it did. -/
def stepBytesUptoRow : OpenClaim := { program := "ythehhlaomiifnaa", sum := "4b30aadc953df438bbcdcf04bfc9edadaa0d249717547a588e0892bd4230bba4", func := "instar/instarlaw15.StepBytes", spec := "stepBytes", unfollowed := true, recurses := true, apart := false, narrowed := true }
def StepBytesUptoSaid : Prop := stepBytesUptoRow.holds Try.pinned (OpenSpec.upto stepBytesSpec)

/-- 'instarlaw15.StepBack', WHERE WHAT IT READS IS OF BULK AT MOST 1048576: true; the input reads as it did. -/
def stepBackUptoRow : OpenClaim := { program := "ythehhlaomiifnaa", sum := "4b30aadc953df438bbcdcf04bfc9edadaa0d249717547a588e0892bd4230bba4", func := "instar/instarlaw15.StepBack", spec := "stepBack", unfollowed := true, recurses := true, apart := false, narrowed := true }
def StepBackUptoSaid : Prop := stepBackUptoRow.holds Try.pinned (OpenSpec.upto stepBackSpec)

/-- 'instarlaw16.TypingOn', WHERE WHAT IT READS IS OF BULK AT MOST 1048576: true; the input reads as it did. -/
def typingOnUptoRow : OpenClaim := { program := "ythehhlaomiifnaa", sum := "4b30aadc953df438bbcdcf04bfc9edadaa0d249717547a588e0892bd4230bba4", func := "instar/instarlaw16.TypingOn", spec := "typingOn", inPlace := ["slices.overlaps[instar/api.Form]", "slices.overlaps[instar/api.Field]"], unfollowed := true, recurses := true, apart := false, narrowed := true }
def TypingOnUptoSaid : Prop := typingOnUptoRow.holds Try.pinned (OpenSpec.upto typingOnSpec)

/-- 'instarlaw16.TypingAll', WHERE WHAT IT READS IS OF BULK AT MOST 1048576: true; the input reads as it did. -/
def typingAllUptoRow : OpenClaim := { program := "ythehhlaomiifnaa", sum := "4b30aadc953df438bbcdcf04bfc9edadaa0d249717547a588e0892bd4230bba4", func := "instar/instarlaw16.TypingAll", spec := "typingAll", inPlace := ["slices.overlaps[instar/api.Form]", "slices.overlaps[instar/api.Field]"], unfollowed := true, recurses := true, apart := false, narrowed := true }
def TypingAllUptoSaid : Prop := typingAllUptoRow.holds Try.pinned (OpenSpec.upto typingAllSpec)

/-- 'instarlaw16.TypingRight', WHERE WHAT IT READS IS OF BULK AT MOST 1048576: true; the input reads as it did. -/
def typingRightUptoRow : OpenClaim := { program := "ythehhlaomiifnaa", sum := "4b30aadc953df438bbcdcf04bfc9edadaa0d249717547a588e0892bd4230bba4", func := "instar/instarlaw16.TypingRight", spec := "typingRight", inPlace := ["slices.overlaps[instar/api.Form]", "slices.overlaps[instar/api.Field]"], unfollowed := true, recurses := true, apart := false, narrowed := true }
def TypingRightUptoSaid : Prop := typingRightUptoRow.holds Try.pinned (OpenSpec.upto typingRightSpec)

/-- 'instarlaw17.PairSteps', WHERE WHAT IT READS IS OF BULK AT MOST 1048576: true; the input reads as it did. -/
def pairStepsUptoRow : OpenClaim := { program := "ythehhlaomiifnaa", sum := "4b30aadc953df438bbcdcf04bfc9edadaa0d249717547a588e0892bd4230bba4", func := "instar/instarlaw17.PairSteps", spec := "pairSteps", inPlace := ["slices.overlaps[instar/api.Form]", "slices.overlaps[instar/api.Field]"], unfollowed := true, recurses := true, apart := false, narrowed := true }
def PairStepsUptoSaid : Prop := pairStepsUptoRow.holds Try.pinned (OpenSpec.upto pairStepsSpec)

/-- 'instarlaw17.PairChecks', WHERE WHAT IT READS IS OF BULK AT MOST 1048576: true; the input reads as it did. -/
def pairChecksUptoRow : OpenClaim := { program := "ythehhlaomiifnaa", sum := "4b30aadc953df438bbcdcf04bfc9edadaa0d249717547a588e0892bd4230bba4", func := "instar/instarlaw17.PairChecks", spec := "pairChecks", inPlace := ["slices.overlaps[instar/api.Form]", "slices.overlaps[instar/api.Field]"], unfollowed := true, recurses := true, apart := false, narrowed := true }
def PairChecksUptoSaid : Prop := pairChecksUptoRow.holds Try.pinned (OpenSpec.upto pairChecksSpec)

/-- 'instarlaw17.PairBack', WHERE WHAT IT READS IS OF BULK AT MOST 1048576: true; the input reads as it did. -/
def pairBackUptoRow : OpenClaim := { program := "ythehhlaomiifnaa", sum := "4b30aadc953df438bbcdcf04bfc9edadaa0d249717547a588e0892bd4230bba4", func := "instar/instarlaw17.PairBack", spec := "pairBack", inPlace := ["slices.overlaps[instar/api.Form]", "slices.overlaps[instar/api.Field]"], unfollowed := true, recurses := true, apart := false, narrowed := true }
def PairBackUptoSaid : Prop := pairBackUptoRow.holds Try.pinned (OpenSpec.upto pairBackSpec)

end Rows
end Go.Proofs.Ythehhlaomiifnaa
