/-
  No cell of these rows narrows 'for every input' (looked for: loops, veiled, ifaces, maps, wideKeys, modest, calm, conditions, laid).
  DERIVED. THE GIVEN ROWS OF THIS SEAT. 9 by the template 'for every input the law returns true; each argument reads behind the call as it read before'; 0 by the template 'total and deterministic' (their statements: YtfijbmnkbfljfaaTotals.lean).
  GIVEN WITH THE SEED: the statements are not yours to turn. If you find one false, say at which input.
  Laid BY PROGRAM, IN A SANDBOX (cutbox-rows.mjs): the forced cells as the released guide's own fill.sh prints them over the translation 7c7ee1059cb89c3e… (all of the seat's roots in one cut). By AI agents, Wed Nov 11 2026. No macro, syntax, notation, axiom, sorry.
-/
import Derived.Test.YtfijbmnkbfljfaaChecked
import GoSem.Claim
import GoSem.ClaimJoined
import GoSem.ClaimMapViews
import Derived.JoinedTies
import Derived.KernelRfl
namespace Go.Proofs.Ytfijbmnkbfljfaa
/- THE CELL 'sum', in the pinned program and in every row, IS THE sha256 OF THE DUMP (.gsa) THAT YtfijbmnkbfljfaaProg.lean LOADS. Nothing in Lean hashes anything: it is a label: what it is worth is what the hold of that sum in a sandbox is worth. -/
noncomputable def Try.pinned : Pinned := { name := "ytfijbmnkbfljfaa", sum := "7c7ee1059cb89c3e4f4975f0e9c389c3c703df5013d49231f9fa9cff4b23349b", checked := Try.checked }
namespace Rows
def none {H : Type} : Left H := { results := [], args := [] }

/-- 'leatlaw21.LeastFinds': WHATEVER THE INPUT: true; the input reads as it did. -/
def leastFindsSpec : ChangeSpec := { name := "leastFinds", fn := fun _ => fun
  | [d1, d2, d3] => { results := [.lit (.bool true)], args := [d1, d2, d3] }
  | _ => none }
def leastFindsRow : OpenClaim := { program := "ytfijbmnkbfljfaa", sum := "7c7ee1059cb89c3e4f4975f0e9c389c3c703df5013d49231f9fa9cff4b23349b", func := "leat/leatlaw21.LeastFinds", spec := "leastFinds", unfollowed := true, recurses := true, apart := false }
def LeastFindsSaid : Prop := leastFindsRow.holds Try.pinned (OpenSpec.ofChange leastFindsSpec)

/-- ITS FALSE NEIGHBOUR: 'it returns false'. Refute it at one input. -/
def leastFindsWrong : ChangeSpec := { name := "leastFinds", fn := fun _ => fun
  | [d1, d2, d3] => { results := [.lit (.bool false)], args := [d1, d2, d3] }
  | _ => none }
def LeastFindsWrongFalsely : Prop := leastFindsRow.holds Try.pinned (OpenSpec.ofChange leastFindsWrong)

/-- 'leatlaw21.LeastBelow': WHATEVER THE INPUT: true; the input reads as it did. -/
def leastBelowSpec : ChangeSpec := { name := "leastBelow", fn := fun _ => fun
  | [d1, d2, d3] => { results := [.lit (.bool true)], args := [d1, d2, d3] }
  | _ => none }
def leastBelowRow : OpenClaim := { program := "ytfijbmnkbfljfaa", sum := "7c7ee1059cb89c3e4f4975f0e9c389c3c703df5013d49231f9fa9cff4b23349b", func := "leat/leatlaw21.LeastBelow", spec := "leastBelow", unfollowed := true, recurses := true, apart := false }
def LeastBelowSaid : Prop := leastBelowRow.holds Try.pinned (OpenSpec.ofChange leastBelowSpec)

/-- ITS FALSE NEIGHBOUR: 'it returns false'. Refute it at one input. -/
def leastBelowWrong : ChangeSpec := { name := "leastBelow", fn := fun _ => fun
  | [d1, d2, d3] => { results := [.lit (.bool false)], args := [d1, d2, d3] }
  | _ => none }
def LeastBelowWrongFalsely : Prop := leastBelowRow.holds Try.pinned (OpenSpec.ofChange leastBelowWrong)

/-- 'leatlaw08.DicePlays': WHATEVER THE INPUT: true; the input reads as it did. -/
def dicePlaysSpec : ChangeSpec := { name := "dicePlays", fn := fun _ => fun
  | [d1, d2] => { results := [.lit (.bool true)], args := [d1, d2] }
  | _ => none }
def dicePlaysRow : OpenClaim := { program := "ytfijbmnkbfljfaa", sum := "7c7ee1059cb89c3e4f4975f0e9c389c3c703df5013d49231f9fa9cff4b23349b", func := "leat/leatlaw08.DicePlays", spec := "dicePlays", unfollowed := true, recurses := true, apart := false }
def DicePlaysSaid : Prop := dicePlaysRow.holds Try.pinned (OpenSpec.ofChange dicePlaysSpec)

/-- ITS FALSE NEIGHBOUR: 'it returns false'. Refute it at one input. -/
def dicePlaysWrong : ChangeSpec := { name := "dicePlays", fn := fun _ => fun
  | [d1, d2] => { results := [.lit (.bool false)], args := [d1, d2] }
  | _ => none }
def DicePlaysWrongFalsely : Prop := dicePlaysRow.holds Try.pinned (OpenSpec.ofChange dicePlaysWrong)

/-- 'leatlaw08.DiceRises': WHATEVER THE INPUT: true; the input reads as it did. -/
def diceRisesSpec : ChangeSpec := { name := "diceRises", fn := fun _ => fun
  | [d1, d2, d3] => { results := [.lit (.bool true)], args := [d1, d2, d3] }
  | _ => none }
def diceRisesRow : OpenClaim := { program := "ytfijbmnkbfljfaa", sum := "7c7ee1059cb89c3e4f4975f0e9c389c3c703df5013d49231f9fa9cff4b23349b", func := "leat/leatlaw08.DiceRises", spec := "diceRises", unfollowed := true, recurses := true, apart := false }
def DiceRisesSaid : Prop := diceRisesRow.holds Try.pinned (OpenSpec.ofChange diceRisesSpec)

/-- ITS FALSE NEIGHBOUR: 'it returns false'. Refute it at one input. -/
def diceRisesWrong : ChangeSpec := { name := "diceRises", fn := fun _ => fun
  | [d1, d2, d3] => { results := [.lit (.bool false)], args := [d1, d2, d3] }
  | _ => none }
def DiceRisesWrongFalsely : Prop := diceRisesRow.holds Try.pinned (OpenSpec.ofChange diceRisesWrong)

/-- 'leatlaw08.DiceSpreads': WHATEVER THE INPUT: true; the input reads as it did. -/
def diceSpreadsSpec : ChangeSpec := { name := "diceSpreads", fn := fun _ => fun
  | [d1, d2] => { results := [.lit (.bool true)], args := [d1, d2] }
  | _ => none }
def diceSpreadsRow : OpenClaim := { program := "ytfijbmnkbfljfaa", sum := "7c7ee1059cb89c3e4f4975f0e9c389c3c703df5013d49231f9fa9cff4b23349b", func := "leat/leatlaw08.DiceSpreads", spec := "diceSpreads", unfollowed := true, recurses := true, apart := false }
def DiceSpreadsSaid : Prop := diceSpreadsRow.holds Try.pinned (OpenSpec.ofChange diceSpreadsSpec)

/-- ITS FALSE NEIGHBOUR: 'it returns false'. Refute it at one input. -/
def diceSpreadsWrong : ChangeSpec := { name := "diceSpreads", fn := fun _ => fun
  | [d1, d2] => { results := [.lit (.bool false)], args := [d1, d2] }
  | _ => none }
def DiceSpreadsWrongFalsely : Prop := diceSpreadsRow.holds Try.pinned (OpenSpec.ofChange diceSpreadsWrong)

/-- 'leatlaw14.NegoAnswers': WHATEVER THE INPUT: true; the input reads as it did. -/
def negoAnswersSpec : ChangeSpec := { name := "negoAnswers", fn := fun _ => fun
  | [d1, d2, d3] => { results := [.lit (.bool true)], args := [d1, d2, d3] }
  | _ => none }
def negoAnswersRow : OpenClaim := { program := "ytfijbmnkbfljfaa", sum := "7c7ee1059cb89c3e4f4975f0e9c389c3c703df5013d49231f9fa9cff4b23349b", func := "leat/leatlaw14.NegoAnswers", spec := "negoAnswers", apart := false }
def NegoAnswersSaid : Prop := negoAnswersRow.holds Try.pinned (OpenSpec.ofChange negoAnswersSpec)

/-- ITS FALSE NEIGHBOUR: 'it returns false'. Refute it at one input. -/
def negoAnswersWrong : ChangeSpec := { name := "negoAnswers", fn := fun _ => fun
  | [d1, d2, d3] => { results := [.lit (.bool false)], args := [d1, d2, d3] }
  | _ => none }
def NegoAnswersWrongFalsely : Prop := negoAnswersRow.holds Try.pinned (OpenSpec.ofChange negoAnswersWrong)

/-- 'leatlaw14.NegoAgrees': WHATEVER THE INPUT: true; the input reads as it did. -/
def negoAgreesSpec : ChangeSpec := { name := "negoAgrees", fn := fun _ => fun
  | [d1, d2, d3] => { results := [.lit (.bool true)], args := [d1, d2, d3] }
  | _ => none }
def negoAgreesRow : OpenClaim := { program := "ytfijbmnkbfljfaa", sum := "7c7ee1059cb89c3e4f4975f0e9c389c3c703df5013d49231f9fa9cff4b23349b", func := "leat/leatlaw14.NegoAgrees", spec := "negoAgrees", apart := false }
def NegoAgreesSaid : Prop := negoAgreesRow.holds Try.pinned (OpenSpec.ofChange negoAgreesSpec)

/-- ITS FALSE NEIGHBOUR: 'it returns false'. Refute it at one input. -/
def negoAgreesWrong : ChangeSpec := { name := "negoAgrees", fn := fun _ => fun
  | [d1, d2, d3] => { results := [.lit (.bool false)], args := [d1, d2, d3] }
  | _ => none }
def NegoAgreesWrongFalsely : Prop := negoAgreesRow.holds Try.pinned (OpenSpec.ofChange negoAgreesWrong)

/-- 'leatlaw08.DiceGaps': WHATEVER THE INPUT: true; the input reads as it did. -/
def diceGapsSpec : ChangeSpec := { name := "diceGaps", fn := fun _ => fun
  | [d1, d2] => { results := [.lit (.bool true)], args := [d1, d2] }
  | _ => none }
def diceGapsRow : OpenClaim := { program := "ytfijbmnkbfljfaa", sum := "7c7ee1059cb89c3e4f4975f0e9c389c3c703df5013d49231f9fa9cff4b23349b", func := "leat/leatlaw08.DiceGaps", spec := "diceGaps", unfollowed := true, recurses := true, apart := false }
def DiceGapsSaid : Prop := diceGapsRow.holds Try.pinned (OpenSpec.ofChange diceGapsSpec)

/-- ITS FALSE NEIGHBOUR: 'it returns false'. Refute it at one input. -/
def diceGapsWrong : ChangeSpec := { name := "diceGaps", fn := fun _ => fun
  | [d1, d2] => { results := [.lit (.bool false)], args := [d1, d2] }
  | _ => none }
def DiceGapsWrongFalsely : Prop := diceGapsRow.holds Try.pinned (OpenSpec.ofChange diceGapsWrong)

/-- 'leatlaw14.NegoShakes': WHATEVER THE INPUT: true; the input reads as it did. -/
def negoShakesSpec : ChangeSpec := { name := "negoShakes", fn := fun _ => fun
  | [d1, d2, d3] => { results := [.lit (.bool true)], args := [d1, d2, d3] }
  | _ => none }
def negoShakesRow : OpenClaim := { program := "ytfijbmnkbfljfaa", sum := "7c7ee1059cb89c3e4f4975f0e9c389c3c703df5013d49231f9fa9cff4b23349b", func := "leat/leatlaw14.NegoShakes", spec := "negoShakes", apart := false }
def NegoShakesSaid : Prop := negoShakesRow.holds Try.pinned (OpenSpec.ofChange negoShakesSpec)

/-- ITS FALSE NEIGHBOUR: 'it returns false'. Refute it at one input. -/
def negoShakesWrong : ChangeSpec := { name := "negoShakes", fn := fun _ => fun
  | [d1, d2, d3] => { results := [.lit (.bool false)], args := [d1, d2, d3] }
  | _ => none }
def NegoShakesWrongFalsely : Prop := negoShakesRow.holds Try.pinned (OpenSpec.ofChange negoShakesWrong)

/- THE SECOND FORM. 'bulk': how many values and letters a reading holds, each counted each time it is reached (what is shared counts as often as it is met; a slice's spare places count too). A statement '..UptoSaid' is the law's where the arguments, and the package variables that the reading takes, are together of bulk at most 1048576: NARROWER than '..Said'. Prove '..Said' where nothing that the law and all that it calls make is longer than what came in: it says more and counts as full. Else prove '..UptoSaid'. A law counts once. -/
mutual
def uptoBulk {H : Type} : DataW H → Nat
  | .lit (.string bytes) => bytes.length + 1
  | .lit _ => 1
  | .nil => 1
  | .ptr d => uptoBulk d + 1
  | .slice elems spare => uptoBulkAll elems + uptoBulkAll spare + 1
  | .agg parts => uptoBulkAll parts + 1
  | .iface _ d => uptoBulk d + 1
  | .map entries => uptoBulkEntries entries + 1
  | .held _ => 1
def uptoBulkAll {H : Type} : List (DataW H) → Nat
  | [] => 0
  | d :: r => uptoBulk d + uptoBulkAll r
def uptoBulkEntries {H : Type} : List (Lit × DataW H) → Nat
  | [] => 0
  | x :: r => uptoBulkEntry x + uptoBulkEntries r
def uptoBulkEntry {H : Type} : Lit × DataW H → Nat
  | (.string bytes, d) => bytes.length + uptoBulk d + 1
  | (_, d) => uptoBulk d + 1
 end
def uptoSmall : (H : Type) → List (DataW H) → Bool := fun _ ds => decide (uptoBulkAll ds ≤ 1048576)
def OpenSpec.upto (s : _root_.Go.ChangeSpec) : _root_.Go.OpenSpec := { _root_.Go.OpenSpec.ofChange s with cond := some uptoSmall }

/-- 'leatlaw21.LeastFinds', WHERE WHAT IT READS IS OF BULK AT MOST 1048576: true; the input reads as it did. -/
def leastFindsUptoRow : OpenClaim := { program := "ytfijbmnkbfljfaa", sum := "7c7ee1059cb89c3e4f4975f0e9c389c3c703df5013d49231f9fa9cff4b23349b", func := "leat/leatlaw21.LeastFinds", spec := "leastFinds", unfollowed := true, recurses := true, apart := false, narrowed := true }
def LeastFindsUptoSaid : Prop := leastFindsUptoRow.holds Try.pinned (OpenSpec.upto leastFindsSpec)

/-- 'leatlaw21.LeastBelow', WHERE WHAT IT READS IS OF BULK AT MOST 1048576: true; the input reads as it did. -/
def leastBelowUptoRow : OpenClaim := { program := "ytfijbmnkbfljfaa", sum := "7c7ee1059cb89c3e4f4975f0e9c389c3c703df5013d49231f9fa9cff4b23349b", func := "leat/leatlaw21.LeastBelow", spec := "leastBelow", unfollowed := true, recurses := true, apart := false, narrowed := true }
def LeastBelowUptoSaid : Prop := leastBelowUptoRow.holds Try.pinned (OpenSpec.upto leastBelowSpec)

/-- 'leatlaw08.DicePlays', WHERE WHAT IT READS IS OF BULK AT MOST 1048576: true; the input reads as it did. -/
def dicePlaysUptoRow : OpenClaim := { program := "ytfijbmnkbfljfaa", sum := "7c7ee1059cb89c3e4f4975f0e9c389c3c703df5013d49231f9fa9cff4b23349b", func := "leat/leatlaw08.DicePlays", spec := "dicePlays", unfollowed := true, recurses := true, apart := false, narrowed := true }
def DicePlaysUptoSaid : Prop := dicePlaysUptoRow.holds Try.pinned (OpenSpec.upto dicePlaysSpec)

/-- 'leatlaw08.DiceRises', WHERE WHAT IT READS IS OF BULK AT MOST 1048576: true; the input reads as it did. -/
def diceRisesUptoRow : OpenClaim := { program := "ytfijbmnkbfljfaa", sum := "7c7ee1059cb89c3e4f4975f0e9c389c3c703df5013d49231f9fa9cff4b23349b", func := "leat/leatlaw08.DiceRises", spec := "diceRises", unfollowed := true, recurses := true, apart := false, narrowed := true }
def DiceRisesUptoSaid : Prop := diceRisesUptoRow.holds Try.pinned (OpenSpec.upto diceRisesSpec)

/-- 'leatlaw08.DiceSpreads', WHERE WHAT IT READS IS OF BULK AT MOST 1048576: true; the input reads as it did. -/
def diceSpreadsUptoRow : OpenClaim := { program := "ytfijbmnkbfljfaa", sum := "7c7ee1059cb89c3e4f4975f0e9c389c3c703df5013d49231f9fa9cff4b23349b", func := "leat/leatlaw08.DiceSpreads", spec := "diceSpreads", unfollowed := true, recurses := true, apart := false, narrowed := true }
def DiceSpreadsUptoSaid : Prop := diceSpreadsUptoRow.holds Try.pinned (OpenSpec.upto diceSpreadsSpec)

/-- 'leatlaw14.NegoAnswers', WHERE WHAT IT READS IS OF BULK AT MOST 1048576: true; the input reads as it did. -/
def negoAnswersUptoRow : OpenClaim := { program := "ytfijbmnkbfljfaa", sum := "7c7ee1059cb89c3e4f4975f0e9c389c3c703df5013d49231f9fa9cff4b23349b", func := "leat/leatlaw14.NegoAnswers", spec := "negoAnswers", apart := false, narrowed := true }
def NegoAnswersUptoSaid : Prop := negoAnswersUptoRow.holds Try.pinned (OpenSpec.upto negoAnswersSpec)

/-- 'leatlaw14.NegoAgrees', WHERE WHAT IT READS IS OF BULK AT MOST 1048576: true; the input reads as it did. -/
def negoAgreesUptoRow : OpenClaim := { program := "ytfijbmnkbfljfaa", sum := "7c7ee1059cb89c3e4f4975f0e9c389c3c703df5013d49231f9fa9cff4b23349b", func := "leat/leatlaw14.NegoAgrees", spec := "negoAgrees", apart := false, narrowed := true }
def NegoAgreesUptoSaid : Prop := negoAgreesUptoRow.holds Try.pinned (OpenSpec.upto negoAgreesSpec)

/-- 'leatlaw08.DiceGaps', WHERE WHAT IT READS IS OF BULK AT MOST 1048576: true; the input reads as it did. -/
def diceGapsUptoRow : OpenClaim := { program := "ytfijbmnkbfljfaa", sum := "7c7ee1059cb89c3e4f4975f0e9c389c3c703df5013d49231f9fa9cff4b23349b", func := "leat/leatlaw08.DiceGaps", spec := "diceGaps", unfollowed := true, recurses := true, apart := false, narrowed := true }
def DiceGapsUptoSaid : Prop := diceGapsUptoRow.holds Try.pinned (OpenSpec.upto diceGapsSpec)

/-- 'leatlaw14.NegoShakes', WHERE WHAT IT READS IS OF BULK AT MOST 1048576: true; the input reads as it did. -/
def negoShakesUptoRow : OpenClaim := { program := "ytfijbmnkbfljfaa", sum := "7c7ee1059cb89c3e4f4975f0e9c389c3c703df5013d49231f9fa9cff4b23349b", func := "leat/leatlaw14.NegoShakes", spec := "negoShakes", apart := false, narrowed := true }
def NegoShakesUptoSaid : Prop := negoShakesUptoRow.holds Try.pinned (OpenSpec.upto negoShakesSpec)

end Rows
end Go.Proofs.Ytfijbmnkbfljfaa
