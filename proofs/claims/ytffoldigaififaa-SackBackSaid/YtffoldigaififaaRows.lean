/-
  No cell of these rows narrows 'for every input' (looked for: loops, veiled, ifaces, maps, wideKeys, modest, calm, conditions, laid).
  DERIVED. THE GIVEN ROWS OF THIS SEAT. 5 by the template 'for every input the law returns true; each argument reads behind the call as it read before'; 0 by the template 'total and deterministic' (their statements: YtffoldigaififaaTotals.lean).
  GIVEN WITH THE SEED: the statements are not yours to turn. If you find one false, say at which input.
  Laid BY PROGRAM, IN A SANDBOX (cutbox-rows.mjs): the forced cells as the released guide's own fill.sh prints them over the translation d5fdc224b4493492… (all of the seat's roots in one cut). By AI agents, Wed Nov 11 2026. No macro, syntax, notation, axiom, sorry.
-/
import Derived.Test.YtffoldigaififaaChecked
import GoSem.Claim
import GoSem.ClaimJoined
import GoSem.ClaimMapViews
import Derived.JoinedTies
import Derived.KernelRfl
namespace Go.Proofs.Ytffoldigaififaa
/- THE CELL 'sum', in the pinned program and in every row, IS THE sha256 OF THE DUMP (.gsa) THAT YtffoldigaififaaProg.lean LOADS. Nothing in Lean hashes anything: it is a label: what it is worth is what the hold of that sum in a sandbox is worth. -/
noncomputable def Try.pinned : Pinned := { name := "ytffoldigaififaa", sum := "d5fdc224b449349247738ddd5f2d62648c4a392cca5ff2487137cdda3bb3d673", checked := Try.checked }
namespace Rows
def none {H : Type} : Left H := { results := [], args := [] }

/-- 'leatlaw47.SackBoards': WHATEVER THE INPUT: true; the input reads as it did. -/
def sackBoardsSpec : ChangeSpec := { name := "sackBoards", fn := fun _ => fun
  | [d1, d2] => { results := [.lit (.bool true)], args := [d1, d2] }
  | _ => none }
def sackBoardsRow : OpenClaim := { program := "ytffoldigaififaa", sum := "d5fdc224b449349247738ddd5f2d62648c4a392cca5ff2487137cdda3bb3d673", func := "leat/leatlaw47.SackBoards", spec := "sackBoards", inPlace := ["slices.overlaps[leat/api.Range]"], unfollowed := true, recurses := true, apart := false }
def SackBoardsSaid : Prop := sackBoardsRow.holds Try.pinned (OpenSpec.ofChange sackBoardsSpec)

/-- ITS FALSE NEIGHBOUR: 'it returns false'. Refute it at one input. -/
def sackBoardsWrong : ChangeSpec := { name := "sackBoards", fn := fun _ => fun
  | [d1, d2] => { results := [.lit (.bool false)], args := [d1, d2] }
  | _ => none }
def SackBoardsWrongFalsely : Prop := sackBoardsRow.holds Try.pinned (OpenSpec.ofChange sackBoardsWrong)

/-- 'leatlaw47.SackSets': WHATEVER THE INPUT: true; the input reads as it did. -/
def sackSetsSpec : ChangeSpec := { name := "sackSets", fn := fun _ => fun
  | [d1, d2] => { results := [.lit (.bool true)], args := [d1, d2] }
  | _ => none }
def sackSetsRow : OpenClaim := { program := "ytffoldigaififaa", sum := "d5fdc224b449349247738ddd5f2d62648c4a392cca5ff2487137cdda3bb3d673", func := "leat/leatlaw47.SackSets", spec := "sackSets", inPlace := ["slices.overlaps[leat/api.Range]"], unfollowed := true, recurses := true, apart := false }
def SackSetsSaid : Prop := sackSetsRow.holds Try.pinned (OpenSpec.ofChange sackSetsSpec)

/-- ITS FALSE NEIGHBOUR: 'it returns false'. Refute it at one input. -/
def sackSetsWrong : ChangeSpec := { name := "sackSets", fn := fun _ => fun
  | [d1, d2] => { results := [.lit (.bool false)], args := [d1, d2] }
  | _ => none }
def SackSetsWrongFalsely : Prop := sackSetsRow.holds Try.pinned (OpenSpec.ofChange sackSetsWrong)

/-- 'leatlaw47.SackKeeps': WHATEVER THE INPUT: true; the input reads as it did. -/
def sackKeepsSpec : ChangeSpec := { name := "sackKeeps", fn := fun _ => fun
  | [d] => { results := [.lit (.bool true)], args := [d] }
  | _ => none }
def sackKeepsRow : OpenClaim := { program := "ytffoldigaififaa", sum := "d5fdc224b449349247738ddd5f2d62648c4a392cca5ff2487137cdda3bb3d673", func := "leat/leatlaw47.SackKeeps", spec := "sackKeeps", inPlace := ["slices.overlaps[leat/api.Range]"], unfollowed := true, recurses := true, apart := false }
def SackKeepsSaid : Prop := sackKeepsRow.holds Try.pinned (OpenSpec.ofChange sackKeepsSpec)

/-- ITS FALSE NEIGHBOUR: 'it returns false'. Refute it at one input. -/
def sackKeepsWrong : ChangeSpec := { name := "sackKeeps", fn := fun _ => fun
  | [d] => { results := [.lit (.bool false)], args := [d] }
  | _ => none }
def SackKeepsWrongFalsely : Prop := sackKeepsRow.holds Try.pinned (OpenSpec.ofChange sackKeepsWrong)

/-- 'leatlaw47.SackCodes': WHATEVER THE INPUT: true; the input reads as it did. -/
def sackCodesSpec : ChangeSpec := { name := "sackCodes", fn := fun _ => fun
  | [d1, d2, d3] => { results := [.lit (.bool true)], args := [d1, d2, d3] }
  | _ => none }
def sackCodesRow : OpenClaim := { program := "ytffoldigaififaa", sum := "d5fdc224b449349247738ddd5f2d62648c4a392cca5ff2487137cdda3bb3d673", func := "leat/leatlaw47.SackCodes", spec := "sackCodes", inPlace := ["slices.overlaps[leat/api.Range]"], unfollowed := true, recurses := true, apart := false }
def SackCodesSaid : Prop := sackCodesRow.holds Try.pinned (OpenSpec.ofChange sackCodesSpec)

/-- ITS FALSE NEIGHBOUR: 'it returns false'. Refute it at one input. -/
def sackCodesWrong : ChangeSpec := { name := "sackCodes", fn := fun _ => fun
  | [d1, d2, d3] => { results := [.lit (.bool false)], args := [d1, d2, d3] }
  | _ => none }
def SackCodesWrongFalsely : Prop := sackCodesRow.holds Try.pinned (OpenSpec.ofChange sackCodesWrong)

/-- 'leatlaw47.SackBack': WHATEVER THE INPUT: true; the input reads as it did. -/
def sackBackSpec : ChangeSpec := { name := "sackBack", fn := fun _ => fun
  | [d1, d2] => { results := [.lit (.bool true)], args := [d1, d2] }
  | _ => none }
def sackBackRow : OpenClaim := { program := "ytffoldigaififaa", sum := "d5fdc224b449349247738ddd5f2d62648c4a392cca5ff2487137cdda3bb3d673", func := "leat/leatlaw47.SackBack", spec := "sackBack", inPlace := ["slices.overlaps[leat/api.Range]"], unfollowed := true, recurses := true, apart := false }
def SackBackSaid : Prop := sackBackRow.holds Try.pinned (OpenSpec.ofChange sackBackSpec)

/-- ITS FALSE NEIGHBOUR: 'it returns false'. Refute it at one input. -/
def sackBackWrong : ChangeSpec := { name := "sackBack", fn := fun _ => fun
  | [d1, d2] => { results := [.lit (.bool false)], args := [d1, d2] }
  | _ => none }
def SackBackWrongFalsely : Prop := sackBackRow.holds Try.pinned (OpenSpec.ofChange sackBackWrong)

/- THE SECOND FORM. 'bulk': how many values and letters a reading holds, each counted each time it is reached (what is shared counts as often as it is met; a slice's spare places count too). A statement '..UptoSaid' is the law's where the arguments, and the package variables that the reading takes, are together of bulk at most 1048576: NARROWER than '..Said'. Prove '..Said' where nothing that the law and all that it calls make is longer than what came in: it says more and counts as full. Else prove '..UptoSaid'. A law counts once. -/
mutual
def uptoBulk {H : Type} : DataW H → Nat
  | .lit (.string bytes) => bytes.length + 1
  | .lit _ => 1
  | .nil => 1
  | .ptr d => uptoBulk d + 1
  | .slice elems spare => uptoBulkAll elems + uptoBulkAll spare + 1
  | .agg parts => uptoBulkAll parts + 1
  | .iface _ d => uptoBulk d + 1
  | .map entries => uptoBulkEntries entries + 1
  | .held _ => 1
def uptoBulkAll {H : Type} : List (DataW H) → Nat
  | [] => 0
  | d :: r => uptoBulk d + uptoBulkAll r
def uptoBulkEntries {H : Type} : List (Lit × DataW H) → Nat
  | [] => 0
  | x :: r => uptoBulkEntry x + uptoBulkEntries r
def uptoBulkEntry {H : Type} : Lit × DataW H → Nat
  | (.string bytes, d) => bytes.length + uptoBulk d + 1
  | (_, d) => uptoBulk d + 1
 end
def uptoSmall : (H : Type) → List (DataW H) → Bool := fun _ ds => decide (uptoBulkAll ds ≤ 1048576)
def OpenSpec.upto (s : _root_.Go.ChangeSpec) : _root_.Go.OpenSpec := { _root_.Go.OpenSpec.ofChange s with cond := some uptoSmall }

/-- 'leatlaw47.SackBoards', WHERE WHAT IT READS IS OF BULK AT MOST 1048576: true; the input reads as it did. -/
def sackBoardsUptoRow : OpenClaim := { program := "ytffoldigaififaa", sum := "d5fdc224b449349247738ddd5f2d62648c4a392cca5ff2487137cdda3bb3d673", func := "leat/leatlaw47.SackBoards", spec := "sackBoards", inPlace := ["slices.overlaps[leat/api.Range]"], unfollowed := true, recurses := true, apart := false, narrowed := true }
def SackBoardsUptoSaid : Prop := sackBoardsUptoRow.holds Try.pinned (OpenSpec.upto sackBoardsSpec)

/-- 'leatlaw47.SackSets', WHERE WHAT IT READS IS OF BULK AT MOST 1048576: true; the input reads as it did. -/
def sackSetsUptoRow : OpenClaim := { program := "ytffoldigaififaa", sum := "d5fdc224b449349247738ddd5f2d62648c4a392cca5ff2487137cdda3bb3d673", func := "leat/leatlaw47.SackSets", spec := "sackSets", inPlace := ["slices.overlaps[leat/api.Range]"], unfollowed := true, recurses := true, apart := false, narrowed := true }
def SackSetsUptoSaid : Prop := sackSetsUptoRow.holds Try.pinned (OpenSpec.upto sackSetsSpec)

/-- 'leatlaw47.SackKeeps', WHERE WHAT IT READS IS OF BULK AT MOST 1048576: true; the input reads as it did. -/
def sackKeepsUptoRow : OpenClaim := { program := "ytffoldigaififaa", sum := "d5fdc224b449349247738ddd5f2d62648c4a392cca5ff2487137cdda3bb3d673", func := "leat/leatlaw47.SackKeeps", spec := "sackKeeps", inPlace := ["slices.overlaps[leat/api.Range]"], unfollowed := true, recurses := true, apart := false, narrowed := true }
def SackKeepsUptoSaid : Prop := sackKeepsUptoRow.holds Try.pinned (OpenSpec.upto sackKeepsSpec)

/-- 'leatlaw47.SackCodes', WHERE WHAT IT READS IS OF BULK AT MOST 1048576: true; the input reads as it did. -/
def sackCodesUptoRow : OpenClaim := { program := "ytffoldigaififaa", sum := "d5fdc224b449349247738ddd5f2d62648c4a392cca5ff2487137cdda3bb3d673", func := "leat/leatlaw47.SackCodes", spec := "sackCodes", inPlace := ["slices.overlaps[leat/api.Range]"], unfollowed := true, recurses := true, apart := false, narrowed := true }
def SackCodesUptoSaid : Prop := sackCodesUptoRow.holds Try.pinned (OpenSpec.upto sackCodesSpec)

/-- 'leatlaw47.SackBack', WHERE WHAT IT READS IS OF BULK AT MOST 1048576: true; the input reads as it did. -/
def sackBackUptoRow : OpenClaim := { program := "ytffoldigaififaa", sum := "d5fdc224b449349247738ddd5f2d62648c4a392cca5ff2487137cdda3bb3d673", func := "leat/leatlaw47.SackBack", spec := "sackBack", inPlace := ["slices.overlaps[leat/api.Range]"], unfollowed := true, recurses := true, apart := false, narrowed := true }
def SackBackUptoSaid : Prop := sackBackUptoRow.holds Try.pinned (OpenSpec.upto sackBackSpec)

end Rows
end Go.Proofs.Ytffoldigaififaa
