/-
  No cell of these rows narrows 'for every input' (looked for: loops, veiled, ifaces, maps, wideKeys, modest, calm, conditions, laid).
  DERIVED. THE GIVEN ROWS OF THIS SEAT. 10 by the template 'for every input the law returns true; each argument reads behind the call as it read before'; 0 by the template 'total and deterministic' (their statements: YteaeolklkioceaaTotals.lean).
  GIVEN WITH THE SEED: the statements are not yours to turn. If you find one false, say at which input.
  Laid BY PROGRAM, IN A SANDBOX (cutbox-rows.mjs): the forced cells as the released guide's own fill.sh prints them over the translation 85c970e512f1af30… (all of the seat's roots in one cut). By AI agents, Wed Nov 11 2026. No macro, syntax, notation, axiom, sorry.
-/
import Derived.Test.YteaeolklkioceaaChecked
import GoSem.Claim
import GoSem.ClaimJoined
import GoSem.ClaimMapViews
import Derived.JoinedTies
import Derived.KernelRfl
namespace Go.Proofs.Yteaeolklkioceaa
/- THE CELL 'sum', in the pinned program and in every row, IS THE sha256 OF THE DUMP (.gsa) THAT YteaeolklkioceaaProg.lean LOADS. Nothing in Lean hashes anything: it is a label: what it is worth is what the hold of that sum in a sandbox is worth. -/
noncomputable def Try.pinned : Pinned := { name := "yteaeolklkioceaa", sum := "85c970e512f1af301d431c4228951133dc17758d501dbb398c45804f9a37f961", checked := Try.checked }
namespace Rows
def none {H : Type} : Left H := { results := [], args := [] }

/-- 'leatlaw03.SerialUnwraps': WHATEVER THE INPUT: true; the input reads as it did. -/
def serialUnwrapsSpec : ChangeSpec := { name := "serialUnwraps", fn := fun _ => fun
  | [d1, d2, d3] => { results := [.lit (.bool true)], args := [d1, d2, d3] }
  | _ => none }
def serialUnwrapsRow : OpenClaim := { program := "yteaeolklkioceaa", sum := "85c970e512f1af301d431c4228951133dc17758d501dbb398c45804f9a37f961", func := "leat/leatlaw03.SerialUnwraps", spec := "serialUnwraps", unfollowed := true, recurses := true, apart := false }
def SerialUnwrapsSaid : Prop := serialUnwrapsRow.holds Try.pinned (OpenSpec.ofChange serialUnwrapsSpec)

/-- ITS FALSE NEIGHBOUR: 'it returns false'. Refute it at one input. -/
def serialUnwrapsWrong : ChangeSpec := { name := "serialUnwraps", fn := fun _ => fun
  | [d1, d2, d3] => { results := [.lit (.bool false)], args := [d1, d2, d3] }
  | _ => none }
def SerialUnwrapsWrongFalsely : Prop := serialUnwrapsRow.holds Try.pinned (OpenSpec.ofChange serialUnwrapsWrong)

/-- 'leatlaw03.SerialDiffs': WHATEVER THE INPUT: true; the input reads as it did. -/
def serialDiffsSpec : ChangeSpec := { name := "serialDiffs", fn := fun _ => fun
  | [d1, d2, d3] => { results := [.lit (.bool true)], args := [d1, d2, d3] }
  | _ => none }
def serialDiffsRow : OpenClaim := { program := "yteaeolklkioceaa", sum := "85c970e512f1af301d431c4228951133dc17758d501dbb398c45804f9a37f961", func := "leat/leatlaw03.SerialDiffs", spec := "serialDiffs", unfollowed := true, recurses := true, apart := false }
def SerialDiffsSaid : Prop := serialDiffsRow.holds Try.pinned (OpenSpec.ofChange serialDiffsSpec)

/-- ITS FALSE NEIGHBOUR: 'it returns false'. Refute it at one input. -/
def serialDiffsWrong : ChangeSpec := { name := "serialDiffs", fn := fun _ => fun
  | [d1, d2, d3] => { results := [.lit (.bool false)], args := [d1, d2, d3] }
  | _ => none }
def SerialDiffsWrongFalsely : Prop := serialDiffsRow.holds Try.pinned (OpenSpec.ofChange serialDiffsWrong)

/-- 'leatlaw03.SerialBack': WHATEVER THE INPUT: true; the input reads as it did. -/
def serialBackSpec : ChangeSpec := { name := "serialBack", fn := fun _ => fun
  | [d1, d2, d3] => { results := [.lit (.bool true)], args := [d1, d2, d3] }
  | _ => none }
def serialBackRow : OpenClaim := { program := "yteaeolklkioceaa", sum := "85c970e512f1af301d431c4228951133dc17758d501dbb398c45804f9a37f961", func := "leat/leatlaw03.SerialBack", spec := "serialBack", unfollowed := true, recurses := true, apart := false }
def SerialBackSaid : Prop := serialBackRow.holds Try.pinned (OpenSpec.ofChange serialBackSpec)

/-- ITS FALSE NEIGHBOUR: 'it returns false'. Refute it at one input. -/
def serialBackWrong : ChangeSpec := { name := "serialBack", fn := fun _ => fun
  | [d1, d2, d3] => { results := [.lit (.bool false)], args := [d1, d2, d3] }
  | _ => none }
def SerialBackWrongFalsely : Prop := serialBackRow.holds Try.pinned (OpenSpec.ofChange serialBackWrong)

/-- 'leatlaw03.SerialCuts': WHATEVER THE INPUT: true; the input reads as it did. -/
def serialCutsSpec : ChangeSpec := { name := "serialCuts", fn := fun _ => fun
  | [d1, d2, d3] => { results := [.lit (.bool true)], args := [d1, d2, d3] }
  | _ => none }
def serialCutsRow : OpenClaim := { program := "yteaeolklkioceaa", sum := "85c970e512f1af301d431c4228951133dc17758d501dbb398c45804f9a37f961", func := "leat/leatlaw03.SerialCuts", spec := "serialCuts", unfollowed := true, recurses := true, apart := false }
def SerialCutsSaid : Prop := serialCutsRow.holds Try.pinned (OpenSpec.ofChange serialCutsSpec)

/-- ITS FALSE NEIGHBOUR: 'it returns false'. Refute it at one input. -/
def serialCutsWrong : ChangeSpec := { name := "serialCuts", fn := fun _ => fun
  | [d1, d2, d3] => { results := [.lit (.bool false)], args := [d1, d2, d3] }
  | _ => none }
def SerialCutsWrongFalsely : Prop := serialCutsRow.holds Try.pinned (OpenSpec.ofChange serialCutsWrong)

/-- 'leatlaw32.PiHolds': WHATEVER THE INPUT: true; the input reads as it did. -/
def piHoldsSpec : ChangeSpec := { name := "piHolds", fn := fun _ => fun
  | [d1, d2, d3] => { results := [.lit (.bool true)], args := [d1, d2, d3] }
  | _ => none }
def piHoldsRow : OpenClaim := { program := "yteaeolklkioceaa", sum := "85c970e512f1af301d431c4228951133dc17758d501dbb398c45804f9a37f961", func := "leat/leatlaw32.PiHolds", spec := "piHolds", unfollowed := true, recurses := true, apart := false }
def PiHoldsSaid : Prop := piHoldsRow.holds Try.pinned (OpenSpec.ofChange piHoldsSpec)

/-- ITS FALSE NEIGHBOUR: 'it returns false'. Refute it at one input. -/
def piHoldsWrong : ChangeSpec := { name := "piHolds", fn := fun _ => fun
  | [d1, d2, d3] => { results := [.lit (.bool false)], args := [d1, d2, d3] }
  | _ => none }
def PiHoldsWrongFalsely : Prop := piHoldsRow.holds Try.pinned (OpenSpec.ofChange piHoldsWrong)

/-- 'leatlaw09.EcnPuts': WHATEVER THE INPUT: true; the input reads as it did. -/
def ecnPutsSpec : ChangeSpec := { name := "ecnPuts", fn := fun _ => fun
  | [d1, d2] => { results := [.lit (.bool true)], args := [d1, d2] }
  | _ => none }
def ecnPutsRow : OpenClaim := { program := "yteaeolklkioceaa", sum := "85c970e512f1af301d431c4228951133dc17758d501dbb398c45804f9a37f961", func := "leat/leatlaw09.EcnPuts", spec := "ecnPuts", apart := false }
def EcnPutsSaid : Prop := ecnPutsRow.holds Try.pinned (OpenSpec.ofChange ecnPutsSpec)

/-- ITS FALSE NEIGHBOUR: 'it returns false'. Refute it at one input. -/
def ecnPutsWrong : ChangeSpec := { name := "ecnPuts", fn := fun _ => fun
  | [d1, d2] => { results := [.lit (.bool false)], args := [d1, d2] }
  | _ => none }
def EcnPutsWrongFalsely : Prop := ecnPutsRow.holds Try.pinned (OpenSpec.ofChange ecnPutsWrong)

/-- 'leatlaw09.EcnMarks': WHATEVER THE INPUT: true; the input reads as it did. -/
def ecnMarksSpec : ChangeSpec := { name := "ecnMarks", fn := fun _ => fun
  | [d1, d2] => { results := [.lit (.bool true)], args := [d1, d2] }
  | _ => none }
def ecnMarksRow : OpenClaim := { program := "yteaeolklkioceaa", sum := "85c970e512f1af301d431c4228951133dc17758d501dbb398c45804f9a37f961", func := "leat/leatlaw09.EcnMarks", spec := "ecnMarks", apart := false }
def EcnMarksSaid : Prop := ecnMarksRow.holds Try.pinned (OpenSpec.ofChange ecnMarksSpec)

/-- ITS FALSE NEIGHBOUR: 'it returns false'. Refute it at one input. -/
def ecnMarksWrong : ChangeSpec := { name := "ecnMarks", fn := fun _ => fun
  | [d1, d2] => { results := [.lit (.bool false)], args := [d1, d2] }
  | _ => none }
def EcnMarksWrongFalsely : Prop := ecnMarksRow.holds Try.pinned (OpenSpec.ofChange ecnMarksWrong)

/-- 'leatlaw09.EcnStays': WHATEVER THE INPUT: true; the input reads as it did. -/
def ecnStaysSpec : ChangeSpec := { name := "ecnStays", fn := fun _ => fun
  | [d] => { results := [.lit (.bool true)], args := [d] }
  | _ => none }
def ecnStaysRow : OpenClaim := { program := "yteaeolklkioceaa", sum := "85c970e512f1af301d431c4228951133dc17758d501dbb398c45804f9a37f961", func := "leat/leatlaw09.EcnStays", spec := "ecnStays", apart := false }
def EcnStaysSaid : Prop := ecnStaysRow.holds Try.pinned (OpenSpec.ofChange ecnStaysSpec)

/-- ITS FALSE NEIGHBOUR: 'it returns false'. Refute it at one input. -/
def ecnStaysWrong : ChangeSpec := { name := "ecnStays", fn := fun _ => fun
  | [d] => { results := [.lit (.bool false)], args := [d] }
  | _ => none }
def EcnStaysWrongFalsely : Prop := ecnStaysRow.holds Try.pinned (OpenSpec.ofChange ecnStaysWrong)

/-- 'leatlaw09.EcnNames': WHATEVER THE INPUT: true; the input reads as it did. -/
def ecnNamesSpec : ChangeSpec := { name := "ecnNames", fn := fun _ => fun
  | [d1, d2] => { results := [.lit (.bool true)], args := [d1, d2] }
  | _ => none }
def ecnNamesRow : OpenClaim := { program := "yteaeolklkioceaa", sum := "85c970e512f1af301d431c4228951133dc17758d501dbb398c45804f9a37f961", func := "leat/leatlaw09.EcnNames", spec := "ecnNames", apart := false }
def EcnNamesSaid : Prop := ecnNamesRow.holds Try.pinned (OpenSpec.ofChange ecnNamesSpec)

/-- ITS FALSE NEIGHBOUR: 'it returns false'. Refute it at one input. -/
def ecnNamesWrong : ChangeSpec := { name := "ecnNames", fn := fun _ => fun
  | [d1, d2] => { results := [.lit (.bool false)], args := [d1, d2] }
  | _ => none }
def EcnNamesWrongFalsely : Prop := ecnNamesRow.holds Try.pinned (OpenSpec.ofChange ecnNamesWrong)

/-- 'leatlaw09.EcnPaths': WHATEVER THE INPUT: true; the input reads as it did. -/
def ecnPathsSpec : ChangeSpec := { name := "ecnPaths", fn := fun _ => fun
  | [d1, d2] => { results := [.lit (.bool true)], args := [d1, d2] }
  | _ => none }
def ecnPathsRow : OpenClaim := { program := "yteaeolklkioceaa", sum := "85c970e512f1af301d431c4228951133dc17758d501dbb398c45804f9a37f961", func := "leat/leatlaw09.EcnPaths", spec := "ecnPaths", inPlace := ["internal/abi.NoEscape", "internal/bytealg.MakeNoZero"], apart := false }
def EcnPathsSaid : Prop := ecnPathsRow.holds Try.pinned (OpenSpec.ofChange ecnPathsSpec)

/-- ITS FALSE NEIGHBOUR: 'it returns false'. Refute it at one input. -/
def ecnPathsWrong : ChangeSpec := { name := "ecnPaths", fn := fun _ => fun
  | [d1, d2] => { results := [.lit (.bool false)], args := [d1, d2] }
  | _ => none }
def EcnPathsWrongFalsely : Prop := ecnPathsRow.holds Try.pinned (OpenSpec.ofChange ecnPathsWrong)

/- THE SECOND FORM. 'bulk': how many values and letters a reading holds, each counted each time it is reached (what is shared counts as often as it is met; a slice's spare places count too). A statement '..UptoSaid' is the law's where the arguments, and the package variables that the reading takes, are together of bulk at most 1048576: NARROWER than '..Said'. Prove '..Said' where nothing that the law and all that it calls make is longer than what came in: it says more and counts as full. Else prove '..UptoSaid'. A law counts once. -/
mutual
def uptoBulk {H : Type} : DataW H → Nat
  | .lit (.string bytes) => bytes.length + 1
  | .lit _ => 1
  | .nil => 1
  | .ptr d => uptoBulk d + 1
  | .slice elems spare => uptoBulkAll elems + uptoBulkAll spare + 1
  | .agg parts => uptoBulkAll parts + 1
  | .iface _ d => uptoBulk d + 1
  | .map entries => uptoBulkEntries entries + 1
  | .held _ => 1
def uptoBulkAll {H : Type} : List (DataW H) → Nat
  | [] => 0
  | d :: r => uptoBulk d + uptoBulkAll r
def uptoBulkEntries {H : Type} : List (Lit × DataW H) → Nat
  | [] => 0
  | x :: r => uptoBulkEntry x + uptoBulkEntries r
def uptoBulkEntry {H : Type} : Lit × DataW H → Nat
  | (.string bytes, d) => bytes.length + uptoBulk d + 1
  | (_, d) => uptoBulk d + 1
 end
def uptoSmall : (H : Type) → List (DataW H) → Bool := fun _ ds => decide (uptoBulkAll ds ≤ 1048576)
def OpenSpec.upto (s : _root_.Go.ChangeSpec) : _root_.Go.OpenSpec := { _root_.Go.OpenSpec.ofChange s with cond := some uptoSmall }

/-- 'leatlaw03.SerialUnwraps', WHERE WHAT IT READS IS OF BULK AT MOST 1048576: true; the input reads as it did. -/
def serialUnwrapsUptoRow : OpenClaim := { program := "yteaeolklkioceaa", sum := "85c970e512f1af301d431c4228951133dc17758d501dbb398c45804f9a37f961", func := "leat/leatlaw03.SerialUnwraps", spec := "serialUnwraps", unfollowed := true, recurses := true, apart := false, narrowed := true }
def SerialUnwrapsUptoSaid : Prop := serialUnwrapsUptoRow.holds Try.pinned (OpenSpec.upto serialUnwrapsSpec)

/-- 'leatlaw03.SerialDiffs', WHERE WHAT IT READS IS OF BULK AT MOST 1048576: true; the input reads as it did. -/
def serialDiffsUptoRow : OpenClaim := { program := "yteaeolklkioceaa", sum := "85c970e512f1af301d431c4228951133dc17758d501dbb398c45804f9a37f961", func := "leat/leatlaw03.SerialDiffs", spec := "serialDiffs", unfollowed := true, recurses := true, apart := false, narrowed := true }
def SerialDiffsUptoSaid : Prop := serialDiffsUptoRow.holds Try.pinned (OpenSpec.upto serialDiffsSpec)

/-- 'leatlaw03.SerialBack', WHERE WHAT IT READS IS OF BULK AT MOST 1048576: true; the input reads as it did. -/
def serialBackUptoRow : OpenClaim := { program := "yteaeolklkioceaa", sum := "85c970e512f1af301d431c4228951133dc17758d501dbb398c45804f9a37f961", func := "leat/leatlaw03.SerialBack", spec := "serialBack", unfollowed := true, recurses := true, apart := false, narrowed := true }
def SerialBackUptoSaid : Prop := serialBackUptoRow.holds Try.pinned (OpenSpec.upto serialBackSpec)

/-- 'leatlaw03.SerialCuts', WHERE WHAT IT READS IS OF BULK AT MOST 1048576: true; the input reads as it did. -/
def serialCutsUptoRow : OpenClaim := { program := "yteaeolklkioceaa", sum := "85c970e512f1af301d431c4228951133dc17758d501dbb398c45804f9a37f961", func := "leat/leatlaw03.SerialCuts", spec := "serialCuts", unfollowed := true, recurses := true, apart := false, narrowed := true }
def SerialCutsUptoSaid : Prop := serialCutsUptoRow.holds Try.pinned (OpenSpec.upto serialCutsSpec)

/-- 'leatlaw32.PiHolds', WHERE WHAT IT READS IS OF BULK AT MOST 1048576: true; the input reads as it did. -/
def piHoldsUptoRow : OpenClaim := { program := "yteaeolklkioceaa", sum := "85c970e512f1af301d431c4228951133dc17758d501dbb398c45804f9a37f961", func := "leat/leatlaw32.PiHolds", spec := "piHolds", unfollowed := true, recurses := true, apart := false, narrowed := true }
def PiHoldsUptoSaid : Prop := piHoldsUptoRow.holds Try.pinned (OpenSpec.upto piHoldsSpec)

/-- 'leatlaw09.EcnPuts', WHERE WHAT IT READS IS OF BULK AT MOST 1048576: true; the input reads as it did. -/
def ecnPutsUptoRow : OpenClaim := { program := "yteaeolklkioceaa", sum := "85c970e512f1af301d431c4228951133dc17758d501dbb398c45804f9a37f961", func := "leat/leatlaw09.EcnPuts", spec := "ecnPuts", apart := false, narrowed := true }
def EcnPutsUptoSaid : Prop := ecnPutsUptoRow.holds Try.pinned (OpenSpec.upto ecnPutsSpec)

/-- 'leatlaw09.EcnMarks', WHERE WHAT IT READS IS OF BULK AT MOST 1048576: true; the input reads as it did. -/
def ecnMarksUptoRow : OpenClaim := { program := "yteaeolklkioceaa", sum := "85c970e512f1af301d431c4228951133dc17758d501dbb398c45804f9a37f961", func := "leat/leatlaw09.EcnMarks", spec := "ecnMarks", apart := false, narrowed := true }
def EcnMarksUptoSaid : Prop := ecnMarksUptoRow.holds Try.pinned (OpenSpec.upto ecnMarksSpec)

/-- 'leatlaw09.EcnStays', WHERE WHAT IT READS IS OF BULK AT MOST 1048576: true; the input reads as it did. -/
def ecnStaysUptoRow : OpenClaim := { program := "yteaeolklkioceaa", sum := "85c970e512f1af301d431c4228951133dc17758d501dbb398c45804f9a37f961", func := "leat/leatlaw09.EcnStays", spec := "ecnStays", apart := false, narrowed := true }
def EcnStaysUptoSaid : Prop := ecnStaysUptoRow.holds Try.pinned (OpenSpec.upto ecnStaysSpec)

/-- 'leatlaw09.EcnNames', WHERE WHAT IT READS IS OF BULK AT MOST 1048576: true; the input reads as it did. -/
def ecnNamesUptoRow : OpenClaim := { program := "yteaeolklkioceaa", sum := "85c970e512f1af301d431c4228951133dc17758d501dbb398c45804f9a37f961", func := "leat/leatlaw09.EcnNames", spec := "ecnNames", apart := false, narrowed := true }
def EcnNamesUptoSaid : Prop := ecnNamesUptoRow.holds Try.pinned (OpenSpec.upto ecnNamesSpec)

/-- 'leatlaw09.EcnPaths', WHERE WHAT IT READS IS OF BULK AT MOST 1048576: true; the input reads as it did. -/
def ecnPathsUptoRow : OpenClaim := { program := "yteaeolklkioceaa", sum := "85c970e512f1af301d431c4228951133dc17758d501dbb398c45804f9a37f961", func := "leat/leatlaw09.EcnPaths", spec := "ecnPaths", inPlace := ["internal/abi.NoEscape", "internal/bytealg.MakeNoZero"], apart := false, narrowed := true }
def EcnPathsUptoSaid : Prop := ecnPathsUptoRow.holds Try.pinned (OpenSpec.upto ecnPathsSpec)

end Rows
end Go.Proofs.Yteaeolklkioceaa
