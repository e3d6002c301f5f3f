/-
  No cell of these rows narrows 'for every input' (looked for: loops, veiled, ifaces, maps, wideKeys, modest, calm, conditions, laid).
  DERIVED. THE GIVEN ROWS OF THIS SEAT. 3 by the template 'for every input the law returns true; each argument reads behind the call as it read before'; 0 by the template 'total and deterministic' (their statements: YtmaalibjfjokeaaTotals.lean).
  GIVEN WITH THE SEED: the statements are not yours to turn. If you find one false, say at which input.
  Laid BY PROGRAM, IN A SANDBOX (cutbox-rows.mjs): the forced cells as the released guide's own fill.sh prints them over the translation bf47b2be0b725309… (all of the seat's roots in one cut). By AI agents, Wed Nov 11 2026. No macro, syntax, notation, axiom, sorry.
-/
import Derived.Test.YtmaalibjfjokeaaChecked
import GoSem.Claim
import GoSem.ClaimJoined
import GoSem.ClaimMapViews
import Derived.JoinedTies
import Derived.KernelRfl
namespace Go.Proofs.Ytmaalibjfjokeaa
/- THE CELL 'sum', in the pinned program and in every row, IS THE sha256 OF THE DUMP (.gsa) THAT YtmaalibjfjokeaaProg.lean LOADS. Nothing in Lean hashes anything: it is a label: what it is worth is what the hold of that sum in a sandbox is worth. -/
noncomputable def Try.pinned : Pinned := { name := "ytmaalibjfjokeaa", sum := "bf47b2be0b7253095f687c3dc755b14d0fac2557c227f6252ec59633bb5632fb", checked := Try.checked }
namespace Rows
def none {H : Type} : Left H := { results := [], args := [] }

/-- 'leatlaw19.FeedbackCounts': WHATEVER THE INPUT: true; the input reads as it did. -/
def feedbackCountsSpec : ChangeSpec := { name := "feedbackCounts", fn := fun _ => fun
  | [d] => { results := [.lit (.bool true)], args := [d] }
  | _ => none }
def feedbackCountsRow : OpenClaim := { program := "ytmaalibjfjokeaa", sum := "bf47b2be0b7253095f687c3dc755b14d0fac2557c227f6252ec59633bb5632fb", func := "leat/leatlaw19.FeedbackCounts", spec := "feedbackCounts", unfollowed := true, recurses := true, apart := false }
def FeedbackCountsSaid : Prop := feedbackCountsRow.holds Try.pinned (OpenSpec.ofChange feedbackCountsSpec)

/-- ITS FALSE NEIGHBOUR: 'it returns false'. Refute it at one input. -/
def feedbackCountsWrong : ChangeSpec := { name := "feedbackCounts", fn := fun _ => fun
  | [d] => { results := [.lit (.bool false)], args := [d] }
  | _ => none }
def FeedbackCountsWrongFalsely : Prop := feedbackCountsRow.holds Try.pinned (OpenSpec.ofChange feedbackCountsWrong)

/-- 'leatlaw19.FeedbackTakes': WHATEVER THE INPUT: true; the input reads as it did. -/
def feedbackTakesSpec : ChangeSpec := { name := "feedbackTakes", fn := fun _ => fun
  | [d1, d2, d3] => { results := [.lit (.bool true)], args := [d1, d2, d3] }
  | _ => none }
def feedbackTakesRow : OpenClaim := { program := "ytmaalibjfjokeaa", sum := "bf47b2be0b7253095f687c3dc755b14d0fac2557c227f6252ec59633bb5632fb", func := "leat/leatlaw19.FeedbackTakes", spec := "feedbackTakes", unfollowed := true, recurses := true, apart := false }
def FeedbackTakesSaid : Prop := feedbackTakesRow.holds Try.pinned (OpenSpec.ofChange feedbackTakesSpec)

/-- ITS FALSE NEIGHBOUR: 'it returns false'. Refute it at one input. -/
def feedbackTakesWrong : ChangeSpec := { name := "feedbackTakes", fn := fun _ => fun
  | [d1, d2, d3] => { results := [.lit (.bool false)], args := [d1, d2, d3] }
  | _ => none }
def FeedbackTakesWrongFalsely : Prop := feedbackTakesRow.holds Try.pinned (OpenSpec.ofChange feedbackTakesWrong)

/-- 'leatlaw19.FeedbackStays': WHATEVER THE INPUT: true; the input reads as it did. -/
def feedbackStaysSpec : ChangeSpec := { name := "feedbackStays", fn := fun _ => fun
  | [d1, d2] => { results := [.lit (.bool true)], args := [d1, d2] }
  | _ => none }
def feedbackStaysRow : OpenClaim := { program := "ytmaalibjfjokeaa", sum := "bf47b2be0b7253095f687c3dc755b14d0fac2557c227f6252ec59633bb5632fb", func := "leat/leatlaw19.FeedbackStays", spec := "feedbackStays", unfollowed := true, recurses := true, apart := false }
def FeedbackStaysSaid : Prop := feedbackStaysRow.holds Try.pinned (OpenSpec.ofChange feedbackStaysSpec)

/-- ITS FALSE NEIGHBOUR: 'it returns false'. Refute it at one input. -/
def feedbackStaysWrong : ChangeSpec := { name := "feedbackStays", fn := fun _ => fun
  | [d1, d2] => { results := [.lit (.bool false)], args := [d1, d2] }
  | _ => none }
def FeedbackStaysWrongFalsely : Prop := feedbackStaysRow.holds Try.pinned (OpenSpec.ofChange feedbackStaysWrong)

/- THE SECOND FORM. 'bulk': how many values and letters a reading holds, each counted each time it is reached (what is shared counts as often as it is met; a slice's spare places count too). A statement '..UptoSaid' is the law's where the arguments, and the package variables that the reading takes, are together of bulk at most 1048576: NARROWER than '..Said'. Prove '..Said' where nothing that the law and all that it calls make is longer than what came in: it says more and counts as full. Else prove '..UptoSaid'. A law counts once. -/
mutual
def uptoBulk {H : Type} : DataW H → Nat
  | .lit (.string bytes) => bytes.length + 1
  | .lit _ => 1
  | .nil => 1
  | .ptr d => uptoBulk d + 1
  | .slice elems spare => uptoBulkAll elems + uptoBulkAll spare + 1
  | .agg parts => uptoBulkAll parts + 1
  | .iface _ d => uptoBulk d + 1
  | .map entries => uptoBulkEntries entries + 1
  | .held _ => 1
def uptoBulkAll {H : Type} : List (DataW H) → Nat
  | [] => 0
  | d :: r => uptoBulk d + uptoBulkAll r
def uptoBulkEntries {H : Type} : List (Lit × DataW H) → Nat
  | [] => 0
  | x :: r => uptoBulkEntry x + uptoBulkEntries r
def uptoBulkEntry {H : Type} : Lit × DataW H → Nat
  | (.string bytes, d) => bytes.length + uptoBulk d + 1
  | (_, d) => uptoBulk d + 1
 end
def uptoSmall : (H : Type) → List (DataW H) → Bool := fun _ ds => decide (uptoBulkAll ds ≤ 1048576)
def OpenSpec.upto (s : _root_.Go.ChangeSpec) : _root_.Go.OpenSpec := { _root_.Go.OpenSpec.ofChange s with cond := some uptoSmall }

/-- 'leatlaw19.FeedbackCounts', WHERE WHAT IT READS IS OF BULK AT MOST 1048576: true; the input reads as it did. -/
def feedbackCountsUptoRow : OpenClaim := { program := "ytmaalibjfjokeaa", sum := "bf47b2be0b7253095f687c3dc755b14d0fac2557c227f6252ec59633bb5632fb", func := "leat/leatlaw19.FeedbackCounts", spec := "feedbackCounts", unfollowed := true, recurses := true, apart := false, narrowed := true }
def FeedbackCountsUptoSaid : Prop := feedbackCountsUptoRow.holds Try.pinned (OpenSpec.upto feedbackCountsSpec)

/-- 'leatlaw19.FeedbackTakes', WHERE WHAT IT READS IS OF BULK AT MOST 1048576: true; the input reads as it did. -/
def feedbackTakesUptoRow : OpenClaim := { program := "ytmaalibjfjokeaa", sum := "bf47b2be0b7253095f687c3dc755b14d0fac2557c227f6252ec59633bb5632fb", func := "leat/leatlaw19.FeedbackTakes", spec := "feedbackTakes", unfollowed := true, recurses := true, apart := false, narrowed := true }
def FeedbackTakesUptoSaid : Prop := feedbackTakesUptoRow.holds Try.pinned (OpenSpec.upto feedbackTakesSpec)

/-- 'leatlaw19.FeedbackStays', WHERE WHAT IT READS IS OF BULK AT MOST 1048576: true; the input reads as it did. -/
def feedbackStaysUptoRow : OpenClaim := { program := "ytmaalibjfjokeaa", sum := "bf47b2be0b7253095f687c3dc755b14d0fac2557c227f6252ec59633bb5632fb", func := "leat/leatlaw19.FeedbackStays", spec := "feedbackStays", unfollowed := true, recurses := true, apart := false, narrowed := true }
def FeedbackStaysUptoSaid : Prop := feedbackStaysUptoRow.holds Try.pinned (OpenSpec.upto feedbackStaysSpec)

end Rows
end Go.Proofs.Ytmaalibjfjokeaa
