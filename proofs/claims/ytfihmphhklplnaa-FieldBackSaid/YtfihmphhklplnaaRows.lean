/-
  No cell of these rows narrows 'for every input' (looked for: loops, veiled, ifaces, maps, wideKeys, modest, calm, conditions, laid).
  DERIVED. THE GIVEN ROWS OF THIS SEAT. 11 by the template 'for every input the law returns true; each argument reads behind the call as it read before'; 0 by the template 'total and deterministic' (their statements: YtfihmphhklplnaaTotals.lean).
  GIVEN WITH THE SEED: the statements are not yours to turn. If you find one false, say at which input.
  Laid BY PROGRAM, IN A SANDBOX (cutbox-rows.mjs): the forced cells as the released guide's own fill.sh prints them over the translation 6f090a579071c217… (all of the seat's roots in one cut). By AI agents, Wed Nov 11 2026. No macro, syntax, notation, axiom, sorry.
-/
import Derived.Test.YtfihmphhklplnaaChecked
import GoSem.Claim
import GoSem.ClaimJoined
import GoSem.ClaimMapViews
import Derived.JoinedTies
import Derived.KernelRfl
namespace Go.Proofs.Ytfihmphhklplnaa
/- THE CELL 'sum', in the pinned program and in every row, IS THE sha256 OF THE DUMP (.gsa) THAT YtfihmphhklplnaaProg.lean LOADS. Nothing in Lean hashes anything: it is a label: what it is worth is what the hold of that sum in a sandbox is worth. -/
noncomputable def Try.pinned : Pinned := { name := "ytfihmphhklplnaa", sum := "6f090a579071c217db0545205b023ceb7a8b87a802160a4dff2a256682ac2fbe", checked := Try.checked }
namespace Rows
def none {H : Type} : Left H := { results := [], args := [] }

/-- 'leatlaw18.FreshNewest': WHATEVER THE INPUT: true; the input reads as it did. -/
def freshNewestSpec : ChangeSpec := { name := "freshNewest", fn := fun _ => fun
  | [d1, d2] => { results := [.lit (.bool true)], args := [d1, d2] }
  | _ => none }
def freshNewestRow : OpenClaim := { program := "ytfihmphhklplnaa", sum := "6f090a579071c217db0545205b023ceb7a8b87a802160a4dff2a256682ac2fbe", func := "leat/leatlaw18.FreshNewest", spec := "freshNewest", apart := false }
def FreshNewestSaid : Prop := freshNewestRow.holds Try.pinned (OpenSpec.ofChange freshNewestSpec)

/-- ITS FALSE NEIGHBOUR: 'it returns false'. Refute it at one input. -/
def freshNewestWrong : ChangeSpec := { name := "freshNewest", fn := fun _ => fun
  | [d1, d2] => { results := [.lit (.bool false)], args := [d1, d2] }
  | _ => none }
def FreshNewestWrongFalsely : Prop := freshNewestRow.holds Try.pinned (OpenSpec.ofChange freshNewestWrong)

/-- 'leatlaw28.RetryKeeps': WHATEVER THE INPUT: true; the input reads as it did. -/
def retryKeepsSpec : ChangeSpec := { name := "retryKeeps", fn := fun _ => fun
  | [d1, d2] => { results := [.lit (.bool true)], args := [d1, d2] }
  | _ => none }
def retryKeepsRow : OpenClaim := { program := "ytfihmphhklplnaa", sum := "6f090a579071c217db0545205b023ceb7a8b87a802160a4dff2a256682ac2fbe", func := "leat/leatlaw28.RetryKeeps", spec := "retryKeeps", apart := false }
def RetryKeepsSaid : Prop := retryKeepsRow.holds Try.pinned (OpenSpec.ofChange retryKeepsSpec)

/-- ITS FALSE NEIGHBOUR: 'it returns false'. Refute it at one input. -/
def retryKeepsWrong : ChangeSpec := { name := "retryKeeps", fn := fun _ => fun
  | [d1, d2] => { results := [.lit (.bool false)], args := [d1, d2] }
  | _ => none }
def RetryKeepsWrongFalsely : Prop := retryKeepsRow.holds Try.pinned (OpenSpec.ofChange retryKeepsWrong)

/-- 'leatlaw17.FieldSteps': WHATEVER THE INPUT: true; the input reads as it did. -/
def fieldStepsSpec : ChangeSpec := { name := "fieldSteps", fn := fun _ => fun
  | [d1, d2] => { results := [.lit (.bool true)], args := [d1, d2] }
  | _ => none }
def fieldStepsRow : OpenClaim := { program := "ytfihmphhklplnaa", sum := "6f090a579071c217db0545205b023ceb7a8b87a802160a4dff2a256682ac2fbe", func := "leat/leatlaw17.FieldSteps", spec := "fieldSteps", apart := false }
def FieldStepsSaid : Prop := fieldStepsRow.holds Try.pinned (OpenSpec.ofChange fieldStepsSpec)

/-- ITS FALSE NEIGHBOUR: 'it returns false'. Refute it at one input. -/
def fieldStepsWrong : ChangeSpec := { name := "fieldSteps", fn := fun _ => fun
  | [d1, d2] => { results := [.lit (.bool false)], args := [d1, d2] }
  | _ => none }
def FieldStepsWrongFalsely : Prop := fieldStepsRow.holds Try.pinned (OpenSpec.ofChange fieldStepsWrong)

/-- 'leatlaw17.FieldBack': WHATEVER THE INPUT: true; the input reads as it did. -/
def fieldBackSpec : ChangeSpec := { name := "fieldBack", fn := fun _ => fun
  | [d1, d2] => { results := [.lit (.bool true)], args := [d1, d2] }
  | _ => none }
def fieldBackRow : OpenClaim := { program := "ytfihmphhklplnaa", sum := "6f090a579071c217db0545205b023ceb7a8b87a802160a4dff2a256682ac2fbe", func := "leat/leatlaw17.FieldBack", spec := "fieldBack", apart := false }
def FieldBackSaid : Prop := fieldBackRow.holds Try.pinned (OpenSpec.ofChange fieldBackSpec)

/-- ITS FALSE NEIGHBOUR: 'it returns false'. Refute it at one input. -/
def fieldBackWrong : ChangeSpec := { name := "fieldBack", fn := fun _ => fun
  | [d1, d2] => { results := [.lit (.bool false)], args := [d1, d2] }
  | _ => none }
def FieldBackWrongFalsely : Prop := fieldBackRow.holds Try.pinned (OpenSpec.ofChange fieldBackWrong)

/-- 'leatlaw16.AceSteps': WHATEVER THE INPUT: true; the input reads as it did. -/
def aceStepsSpec : ChangeSpec := { name := "aceSteps", fn := fun _ => fun
  | [d1, d2] => { results := [.lit (.bool true)], args := [d1, d2] }
  | _ => none }
def aceStepsRow : OpenClaim := { program := "ytfihmphhklplnaa", sum := "6f090a579071c217db0545205b023ceb7a8b87a802160a4dff2a256682ac2fbe", func := "leat/leatlaw16.AceSteps", spec := "aceSteps", unfollowed := true, recurses := true, apart := false }
def AceStepsSaid : Prop := aceStepsRow.holds Try.pinned (OpenSpec.ofChange aceStepsSpec)

/-- ITS FALSE NEIGHBOUR: 'it returns false'. Refute it at one input. -/
def aceStepsWrong : ChangeSpec := { name := "aceSteps", fn := fun _ => fun
  | [d1, d2] => { results := [.lit (.bool false)], args := [d1, d2] }
  | _ => none }
def AceStepsWrongFalsely : Prop := aceStepsRow.holds Try.pinned (OpenSpec.ofChange aceStepsWrong)

/-- 'leatlaw16.AceGuesses': WHATEVER THE INPUT: true; the input reads as it did. -/
def aceGuessesSpec : ChangeSpec := { name := "aceGuesses", fn := fun _ => fun
  | [d1, d2, d3] => { results := [.lit (.bool true)], args := [d1, d2, d3] }
  | _ => none }
def aceGuessesRow : OpenClaim := { program := "ytfihmphhklplnaa", sum := "6f090a579071c217db0545205b023ceb7a8b87a802160a4dff2a256682ac2fbe", func := "leat/leatlaw16.AceGuesses", spec := "aceGuesses", unfollowed := true, recurses := true, apart := false }
def AceGuessesSaid : Prop := aceGuessesRow.holds Try.pinned (OpenSpec.ofChange aceGuessesSpec)

/-- ITS FALSE NEIGHBOUR: 'it returns false'. Refute it at one input. -/
def aceGuessesWrong : ChangeSpec := { name := "aceGuesses", fn := fun _ => fun
  | [d1, d2, d3] => { results := [.lit (.bool false)], args := [d1, d2, d3] }
  | _ => none }
def AceGuessesWrongFalsely : Prop := aceGuessesRow.holds Try.pinned (OpenSpec.ofChange aceGuessesWrong)

/-- 'leatlaw16.AceFew': WHATEVER THE INPUT: true; the input reads as it did. -/
def aceFewSpec : ChangeSpec := { name := "aceFew", fn := fun _ => fun
  | [d1, d2] => { results := [.lit (.bool true)], args := [d1, d2] }
  | _ => none }
def aceFewRow : OpenClaim := { program := "ytfihmphhklplnaa", sum := "6f090a579071c217db0545205b023ceb7a8b87a802160a4dff2a256682ac2fbe", func := "leat/leatlaw16.AceFew", spec := "aceFew", unfollowed := true, recurses := true, apart := false }
def AceFewSaid : Prop := aceFewRow.holds Try.pinned (OpenSpec.ofChange aceFewSpec)

/-- ITS FALSE NEIGHBOUR: 'it returns false'. Refute it at one input. -/
def aceFewWrong : ChangeSpec := { name := "aceFew", fn := fun _ => fun
  | [d1, d2] => { results := [.lit (.bool false)], args := [d1, d2] }
  | _ => none }
def AceFewWrongFalsely : Prop := aceFewRow.holds Try.pinned (OpenSpec.ofChange aceFewWrong)

/-- 'leatlaw16.AceFull': WHATEVER THE INPUT: true; the input reads as it did. -/
def aceFullSpec : ChangeSpec := { name := "aceFull", fn := fun _ => fun
  | [d1, d2, d3] => { results := [.lit (.bool true)], args := [d1, d2, d3] }
  | _ => none }
def aceFullRow : OpenClaim := { program := "ytfihmphhklplnaa", sum := "6f090a579071c217db0545205b023ceb7a8b87a802160a4dff2a256682ac2fbe", func := "leat/leatlaw16.AceFull", spec := "aceFull", unfollowed := true, recurses := true, apart := false }
def AceFullSaid : Prop := aceFullRow.holds Try.pinned (OpenSpec.ofChange aceFullSpec)

/-- ITS FALSE NEIGHBOUR: 'it returns false'. Refute it at one input. -/
def aceFullWrong : ChangeSpec := { name := "aceFull", fn := fun _ => fun
  | [d1, d2, d3] => { results := [.lit (.bool false)], args := [d1, d2, d3] }
  | _ => none }
def AceFullWrongFalsely : Prop := aceFullRow.holds Try.pinned (OpenSpec.ofChange aceFullWrong)

/-- 'leatlaw28.RetryTakes': WHATEVER THE INPUT: true; the input reads as it did. -/
def retryTakesSpec : ChangeSpec := { name := "retryTakes", fn := fun _ => fun
  | [d1, d2, d3] => { results := [.lit (.bool true)], args := [d1, d2, d3] }
  | _ => none }
def retryTakesRow : OpenClaim := { program := "ytfihmphhklplnaa", sum := "6f090a579071c217db0545205b023ceb7a8b87a802160a4dff2a256682ac2fbe", func := "leat/leatlaw28.RetryTakes", spec := "retryTakes", apart := false }
def RetryTakesSaid : Prop := retryTakesRow.holds Try.pinned (OpenSpec.ofChange retryTakesSpec)

/-- ITS FALSE NEIGHBOUR: 'it returns false'. Refute it at one input. -/
def retryTakesWrong : ChangeSpec := { name := "retryTakes", fn := fun _ => fun
  | [d1, d2, d3] => { results := [.lit (.bool false)], args := [d1, d2, d3] }
  | _ => none }
def RetryTakesWrongFalsely : Prop := retryTakesRow.holds Try.pinned (OpenSpec.ofChange retryTakesWrong)

/-- 'leatlaw18.FreshTakes': WHATEVER THE INPUT: true; the input reads as it did. -/
def freshTakesSpec : ChangeSpec := { name := "freshTakes", fn := fun _ => fun
  | [d] => { results := [.lit (.bool true)], args := [d] }
  | _ => none }
def freshTakesRow : OpenClaim := { program := "ytfihmphhklplnaa", sum := "6f090a579071c217db0545205b023ceb7a8b87a802160a4dff2a256682ac2fbe", func := "leat/leatlaw18.FreshTakes", spec := "freshTakes", apart := false }
def FreshTakesSaid : Prop := freshTakesRow.holds Try.pinned (OpenSpec.ofChange freshTakesSpec)

/-- ITS FALSE NEIGHBOUR: 'it returns false'. Refute it at one input. -/
def freshTakesWrong : ChangeSpec := { name := "freshTakes", fn := fun _ => fun
  | [d] => { results := [.lit (.bool false)], args := [d] }
  | _ => none }
def FreshTakesWrongFalsely : Prop := freshTakesRow.holds Try.pinned (OpenSpec.ofChange freshTakesWrong)

/-- 'leatlaw18.FreshNil': WHATEVER THE INPUT: true; the input reads as it did. -/
def freshNilSpec : ChangeSpec := { name := "freshNil", fn := fun _ => fun
  | [d] => { results := [.lit (.bool true)], args := [d] }
  | _ => none }
def freshNilRow : OpenClaim := { program := "ytfihmphhklplnaa", sum := "6f090a579071c217db0545205b023ceb7a8b87a802160a4dff2a256682ac2fbe", func := "leat/leatlaw18.FreshNil", spec := "freshNil", apart := false }
def FreshNilSaid : Prop := freshNilRow.holds Try.pinned (OpenSpec.ofChange freshNilSpec)

/-- ITS FALSE NEIGHBOUR: 'it returns false'. Refute it at one input. -/
def freshNilWrong : ChangeSpec := { name := "freshNil", fn := fun _ => fun
  | [d] => { results := [.lit (.bool false)], args := [d] }
  | _ => none }
def FreshNilWrongFalsely : Prop := freshNilRow.holds Try.pinned (OpenSpec.ofChange freshNilWrong)

/- THE SECOND FORM. 'bulk': how many values and letters a reading holds, each counted each time it is reached (what is shared counts as often as it is met; a slice's spare places count too). A statement '..UptoSaid' is the law's where the arguments, and the package variables that the reading takes, are together of bulk at most 1048576: NARROWER than '..Said'. Prove '..Said' where nothing that the law and all that it calls make is longer than what came in: it says more and counts as full. Else prove '..UptoSaid'. A law counts once. -/
mutual
def uptoBulk {H : Type} : DataW H → Nat
  | .lit (.string bytes) => bytes.length + 1
  | .lit _ => 1
  | .nil => 1
  | .ptr d => uptoBulk d + 1
  | .slice elems spare => uptoBulkAll elems + uptoBulkAll spare + 1
  | .agg parts => uptoBulkAll parts + 1
  | .iface _ d => uptoBulk d + 1
  | .map entries => uptoBulkEntries entries + 1
  | .held _ => 1
def uptoBulkAll {H : Type} : List (DataW H) → Nat
  | [] => 0
  | d :: r => uptoBulk d + uptoBulkAll r
def uptoBulkEntries {H : Type} : List (Lit × DataW H) → Nat
  | [] => 0
  | x :: r => uptoBulkEntry x + uptoBulkEntries r
def uptoBulkEntry {H : Type} : Lit × DataW H → Nat
  | (.string bytes, d) => bytes.length + uptoBulk d + 1
  | (_, d) => uptoBulk d + 1
 end
def uptoSmall : (H : Type) → List (DataW H) → Bool := fun _ ds => decide (uptoBulkAll ds ≤ 1048576)
def OpenSpec.upto (s : _root_.Go.ChangeSpec) : _root_.Go.OpenSpec := { _root_.Go.OpenSpec.ofChange s with cond := some uptoSmall }

/-- 'leatlaw18.FreshNewest', WHERE WHAT IT READS IS OF BULK AT MOST 1048576: true; the input reads as it did. -/
def freshNewestUptoRow : OpenClaim := { program := "ytfihmphhklplnaa", sum := "6f090a579071c217db0545205b023ceb7a8b87a802160a4dff2a256682ac2fbe", func := "leat/leatlaw18.FreshNewest", spec := "freshNewest", apart := false, narrowed := true }
def FreshNewestUptoSaid : Prop := freshNewestUptoRow.holds Try.pinned (OpenSpec.upto freshNewestSpec)

/-- 'leatlaw28.RetryKeeps', WHERE WHAT IT READS IS OF BULK AT MOST 1048576: true; the input reads as it did. -/
def retryKeepsUptoRow : OpenClaim := { program := "ytfihmphhklplnaa", sum := "6f090a579071c217db0545205b023ceb7a8b87a802160a4dff2a256682ac2fbe", func := "leat/leatlaw28.RetryKeeps", spec := "retryKeeps", apart := false, narrowed := true }
def RetryKeepsUptoSaid : Prop := retryKeepsUptoRow.holds Try.pinned (OpenSpec.upto retryKeepsSpec)

/-- 'leatlaw17.FieldSteps', WHERE WHAT IT READS IS OF BULK AT MOST 1048576: true; the input reads as it did. -/
def fieldStepsUptoRow : OpenClaim := { program := "ytfihmphhklplnaa", sum := "6f090a579071c217db0545205b023ceb7a8b87a802160a4dff2a256682ac2fbe", func := "leat/leatlaw17.FieldSteps", spec := "fieldSteps", apart := false, narrowed := true }
def FieldStepsUptoSaid : Prop := fieldStepsUptoRow.holds Try.pinned (OpenSpec.upto fieldStepsSpec)

/-- 'leatlaw17.FieldBack', WHERE WHAT IT READS IS OF BULK AT MOST 1048576: true; the input reads as it did. -/
def fieldBackUptoRow : OpenClaim := { program := "ytfihmphhklplnaa", sum := "6f090a579071c217db0545205b023ceb7a8b87a802160a4dff2a256682ac2fbe", func := "leat/leatlaw17.FieldBack", spec := "fieldBack", apart := false, narrowed := true }
def FieldBackUptoSaid : Prop := fieldBackUptoRow.holds Try.pinned (OpenSpec.upto fieldBackSpec)

/-- 'leatlaw16.AceSteps', WHERE WHAT IT READS IS OF BULK AT MOST 1048576: true; the input reads as it did. -/
def aceStepsUptoRow : OpenClaim := { program := "ytfihmphhklplnaa", sum := "6f090a579071c217db0545205b023ceb7a8b87a802160a4dff2a256682ac2fbe", func := "leat/leatlaw16.AceSteps", spec := "aceSteps", unfollowed := true, recurses := true, apart := false, narrowed := true }
def AceStepsUptoSaid : Prop := aceStepsUptoRow.holds Try.pinned (OpenSpec.upto aceStepsSpec)

/-- 'leatlaw16.AceGuesses', WHERE WHAT IT READS IS OF BULK AT MOST 1048576: true; the input reads as it did. -/
def aceGuessesUptoRow : OpenClaim := { program := "ytfihmphhklplnaa", sum := "6f090a579071c217db0545205b023ceb7a8b87a802160a4dff2a256682ac2fbe", func := "leat/leatlaw16.AceGuesses", spec := "aceGuesses", unfollowed := true, recurses := true, apart := false, narrowed := true }
def AceGuessesUptoSaid : Prop := aceGuessesUptoRow.holds Try.pinned (OpenSpec.upto aceGuessesSpec)

/-- 'leatlaw16.AceFew', WHERE WHAT IT READS IS OF BULK AT MOST 1048576: true; the input reads as it did. -/
def aceFewUptoRow : OpenClaim := { program := "ytfihmphhklplnaa", sum := "6f090a579071c217db0545205b023ceb7a8b87a802160a4dff2a256682ac2fbe", func := "leat/leatlaw16.AceFew", spec := "aceFew", unfollowed := true, recurses := true, apart := false, narrowed := true }
def AceFewUptoSaid : Prop := aceFewUptoRow.holds Try.pinned (OpenSpec.upto aceFewSpec)

/-- 'leatlaw16.AceFull', WHERE WHAT IT READS IS OF BULK AT MOST 1048576: true; the input reads as it did. -/
def aceFullUptoRow : OpenClaim := { program := "ytfihmphhklplnaa", sum := "6f090a579071c217db0545205b023ceb7a8b87a802160a4dff2a256682ac2fbe", func := "leat/leatlaw16.AceFull", spec := "aceFull", unfollowed := true, recurses := true, apart := false, narrowed := true }
def AceFullUptoSaid : Prop := aceFullUptoRow.holds Try.pinned (OpenSpec.upto aceFullSpec)

/-- 'leatlaw28.RetryTakes', WHERE WHAT IT READS IS OF BULK AT MOST 1048576: true; the input reads as it did. -/
def retryTakesUptoRow : OpenClaim := { program := "ytfihmphhklplnaa", sum := "6f090a579071c217db0545205b023ceb7a8b87a802160a4dff2a256682ac2fbe", func := "leat/leatlaw28.RetryTakes", spec := "retryTakes", apart := false, narrowed := true }
def RetryTakesUptoSaid : Prop := retryTakesUptoRow.holds Try.pinned (OpenSpec.upto retryTakesSpec)

/-- 'leatlaw18.FreshTakes', WHERE WHAT IT READS IS OF BULK AT MOST 1048576: true; the input reads as it did. -/
def freshTakesUptoRow : OpenClaim := { program := "ytfihmphhklplnaa", sum := "6f090a579071c217db0545205b023ceb7a8b87a802160a4dff2a256682ac2fbe", func := "leat/leatlaw18.FreshTakes", spec := "freshTakes", apart := false, narrowed := true }
def FreshTakesUptoSaid : Prop := freshTakesUptoRow.holds Try.pinned (OpenSpec.upto freshTakesSpec)

/-- 'leatlaw18.FreshNil', WHERE WHAT IT READS IS OF BULK AT MOST 1048576: true; the input reads as it did. -/
def freshNilUptoRow : OpenClaim := { program := "ytfihmphhklplnaa", sum := "6f090a579071c217db0545205b023ceb7a8b87a802160a4dff2a256682ac2fbe", func := "leat/leatlaw18.FreshNil", spec := "freshNil", apart := false, narrowed := true }
def FreshNilUptoSaid : Prop := freshNilUptoRow.holds Try.pinned (OpenSpec.upto freshNilSpec)

end Rows
end Go.Proofs.Ytfihmphhklplnaa
