/-
  No cell of these rows narrows 'for every input' (looked for: loops, veiled, ifaces, maps, wideKeys, modest, calm, conditions, laid).
  DERIVED. THE GIVEN ROWS OF THIS SEAT. 4 by the template 'for every input the law returns true; each argument reads behind the call as it read before'; 0 by the template 'total and deterministic' (their statements: YteagpmfnhjhlfaaTotals.lean).
  GIVEN WITH THE SEED: the statements are not yours to turn. If you find one false, say at which input.
  Laid BY PROGRAM, IN A SANDBOX (cutbox-rows.mjs): the forced cells as the released guide's own fill.sh prints them over the translation 2c41ea2978ec377d… (all of the seat's roots in one cut). By AI agents, Wed Nov 11 2026. No macro, syntax, notation, axiom, sorry.
-/
import Derived.Test.YteagpmfnhjhlfaaChecked
import GoSem.Claim
import GoSem.ClaimJoined
import GoSem.ClaimMapViews
import Derived.JoinedTies
import Derived.KernelRfl
namespace Go.Proofs.Yteagpmfnhjhlfaa
/- THE CELL 'sum', in the pinned program and in every row, IS THE sha256 OF THE DUMP (.gsa) THAT YteagpmfnhjhlfaaProg.lean LOADS. Nothing in Lean hashes anything: it is a label: what it is worth is what the hold of that sum in a sandbox is worth. -/
noncomputable def Try.pinned : Pinned := { name := "yteagpmfnhjhlfaa", sum := "2c41ea2978ec377db5b702858c923ef7b7ef2bdc3560982aa11dbb2c28eea655", checked := Try.checked }
namespace Rows
def none {H : Type} : Left H := { results := [], args := [] }

/-- 'leatlaw48.ConnTakes': WHATEVER THE INPUT: true; the input reads as it did. -/
def connTakesSpec : ChangeSpec := { name := "connTakes", fn := fun _ => fun
  | [d1, d2, d3] => { results := [.lit (.bool true)], args := [d1, d2, d3] }
  | _ => none }
def connTakesRow : OpenClaim := { program := "yteagpmfnhjhlfaa", sum := "2c41ea2978ec377db5b702858c923ef7b7ef2bdc3560982aa11dbb2c28eea655", func := "leat/leatlaw48.ConnTakes", spec := "connTakes", apart := false }
def ConnTakesSaid : Prop := connTakesRow.holds Try.pinned (OpenSpec.ofChange connTakesSpec)

/-- ITS FALSE NEIGHBOUR: 'it returns false'. Refute it at one input. -/
def connTakesWrong : ChangeSpec := { name := "connTakes", fn := fun _ => fun
  | [d1, d2, d3] => { results := [.lit (.bool false)], args := [d1, d2, d3] }
  | _ => none }
def ConnTakesWrongFalsely : Prop := connTakesRow.holds Try.pinned (OpenSpec.ofChange connTakesWrong)

/-- 'leatlaw48.ConnAgrees': WHATEVER THE INPUT: true; the input reads as it did. -/
def connAgreesSpec : ChangeSpec := { name := "connAgrees", fn := fun _ => fun
  | [d1, d2, d3] => { results := [.lit (.bool true)], args := [d1, d2, d3] }
  | _ => none }
def connAgreesRow : OpenClaim := { program := "yteagpmfnhjhlfaa", sum := "2c41ea2978ec377db5b702858c923ef7b7ef2bdc3560982aa11dbb2c28eea655", func := "leat/leatlaw48.ConnAgrees", spec := "connAgrees", unfollowed := true, recurses := true, apart := false }
def ConnAgreesSaid : Prop := connAgreesRow.holds Try.pinned (OpenSpec.ofChange connAgreesSpec)

/-- ITS FALSE NEIGHBOUR: 'it returns false'. Refute it at one input. -/
def connAgreesWrong : ChangeSpec := { name := "connAgrees", fn := fun _ => fun
  | [d1, d2, d3] => { results := [.lit (.bool false)], args := [d1, d2, d3] }
  | _ => none }
def ConnAgreesWrongFalsely : Prop := connAgreesRow.holds Try.pinned (OpenSpec.ofChange connAgreesWrong)

/-- 'leatlaw48.ConnMoves': WHATEVER THE INPUT: true; the input reads as it did. -/
def connMovesSpec : ChangeSpec := { name := "connMoves", fn := fun _ => fun
  | [d1, d2, d3] => { results := [.lit (.bool true)], args := [d1, d2, d3] }
  | _ => none }
def connMovesRow : OpenClaim := { program := "yteagpmfnhjhlfaa", sum := "2c41ea2978ec377db5b702858c923ef7b7ef2bdc3560982aa11dbb2c28eea655", func := "leat/leatlaw48.ConnMoves", spec := "connMoves", unfollowed := true, recurses := true, apart := false }
def ConnMovesSaid : Prop := connMovesRow.holds Try.pinned (OpenSpec.ofChange connMovesSpec)

/-- ITS FALSE NEIGHBOUR: 'it returns false'. Refute it at one input. -/
def connMovesWrong : ChangeSpec := { name := "connMoves", fn := fun _ => fun
  | [d1, d2, d3] => { results := [.lit (.bool false)], args := [d1, d2, d3] }
  | _ => none }
def ConnMovesWrongFalsely : Prop := connMovesRow.holds Try.pinned (OpenSpec.ofChange connMovesWrong)

/-- 'leatlaw48.ConnParts': WHATEVER THE INPUT: true; the input reads as it did. -/
def connPartsSpec : ChangeSpec := { name := "connParts", fn := fun _ => fun
  | [d1, d2, d3] => { results := [.lit (.bool true)], args := [d1, d2, d3] }
  | _ => none }
def connPartsRow : OpenClaim := { program := "yteagpmfnhjhlfaa", sum := "2c41ea2978ec377db5b702858c923ef7b7ef2bdc3560982aa11dbb2c28eea655", func := "leat/leatlaw48.ConnParts", spec := "connParts", unfollowed := true, recurses := true, apart := false }
def ConnPartsSaid : Prop := connPartsRow.holds Try.pinned (OpenSpec.ofChange connPartsSpec)

/-- ITS FALSE NEIGHBOUR: 'it returns false'. Refute it at one input. -/
def connPartsWrong : ChangeSpec := { name := "connParts", fn := fun _ => fun
  | [d1, d2, d3] => { results := [.lit (.bool false)], args := [d1, d2, d3] }
  | _ => none }
def ConnPartsWrongFalsely : Prop := connPartsRow.holds Try.pinned (OpenSpec.ofChange connPartsWrong)

/- THE SECOND FORM. 'bulk': how many values and letters a reading holds, each counted each time it is reached (what is shared counts as often as it is met; a slice's spare places count too). A statement '..UptoSaid' is the law's where the arguments, and the package variables that the reading takes, are together of bulk at most 1048576: NARROWER than '..Said'. Prove '..Said' where nothing that the law and all that it calls make is longer than what came in: it says more and counts as full. Else prove '..UptoSaid'. A law counts once. -/
mutual
def uptoBulk {H : Type} : DataW H → Nat
  | .lit (.string bytes) => bytes.length + 1
  | .lit _ => 1
  | .nil => 1
  | .ptr d => uptoBulk d + 1
  | .slice elems spare => uptoBulkAll elems + uptoBulkAll spare + 1
  | .agg parts => uptoBulkAll parts + 1
  | .iface _ d => uptoBulk d + 1
  | .map entries => uptoBulkEntries entries + 1
  | .held _ => 1
def uptoBulkAll {H : Type} : List (DataW H) → Nat
  | [] => 0
  | d :: r => uptoBulk d + uptoBulkAll r
def uptoBulkEntries {H : Type} : List (Lit × DataW H) → Nat
  | [] => 0
  | x :: r => uptoBulkEntry x + uptoBulkEntries r
def uptoBulkEntry {H : Type} : Lit × DataW H → Nat
  | (.string bytes, d) => bytes.length + uptoBulk d + 1
  | (_, d) => uptoBulk d + 1
 end
def uptoSmall : (H : Type) → List (DataW H) → Bool := fun _ ds => decide (uptoBulkAll ds ≤ 1048576)
def OpenSpec.upto (s : _root_.Go.ChangeSpec) : _root_.Go.OpenSpec := { _root_.Go.OpenSpec.ofChange s with cond := some uptoSmall }

/-- 'leatlaw48.ConnTakes', WHERE WHAT IT READS IS OF BULK AT MOST 1048576: true; the input reads as it did. -/
def connTakesUptoRow : OpenClaim := { program := "yteagpmfnhjhlfaa", sum := "2c41ea2978ec377db5b702858c923ef7b7ef2bdc3560982aa11dbb2c28eea655", func := "leat/leatlaw48.ConnTakes", spec := "connTakes", apart := false, narrowed := true }
def ConnTakesUptoSaid : Prop := connTakesUptoRow.holds Try.pinned (OpenSpec.upto connTakesSpec)

/-- 'leatlaw48.ConnAgrees', WHERE WHAT IT READS IS OF BULK AT MOST 1048576: true; the input reads as it did. -/
def connAgreesUptoRow : OpenClaim := { program := "yteagpmfnhjhlfaa", sum := "2c41ea2978ec377db5b702858c923ef7b7ef2bdc3560982aa11dbb2c28eea655", func := "leat/leatlaw48.ConnAgrees", spec := "connAgrees", unfollowed := true, recurses := true, apart := false, narrowed := true }
def ConnAgreesUptoSaid : Prop := connAgreesUptoRow.holds Try.pinned (OpenSpec.upto connAgreesSpec)

/-- 'leatlaw48.ConnMoves', WHERE WHAT IT READS IS OF BULK AT MOST 1048576: true; the input reads as it did. -/
def connMovesUptoRow : OpenClaim := { program := "yteagpmfnhjhlfaa", sum := "2c41ea2978ec377db5b702858c923ef7b7ef2bdc3560982aa11dbb2c28eea655", func := "leat/leatlaw48.ConnMoves", spec := "connMoves", unfollowed := true, recurses := true, apart := false, narrowed := true }
def ConnMovesUptoSaid : Prop := connMovesUptoRow.holds Try.pinned (OpenSpec.upto connMovesSpec)

/-- 'leatlaw48.ConnParts', WHERE WHAT IT READS IS OF BULK AT MOST 1048576: true; the input reads as it did. -/
def connPartsUptoRow : OpenClaim := { program := "yteagpmfnhjhlfaa", sum := "2c41ea2978ec377db5b702858c923ef7b7ef2bdc3560982aa11dbb2c28eea655", func := "leat/leatlaw48.ConnParts", spec := "connParts", unfollowed := true, recurses := true, apart := false, narrowed := true }
def ConnPartsUptoSaid : Prop := connPartsUptoRow.holds Try.pinned (OpenSpec.upto connPartsSpec)

end Rows
end Go.Proofs.Yteagpmfnhjhlfaa
