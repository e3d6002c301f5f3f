/- Any seed spreads to the document's draws. (P8.3) -/
import Derived.Test.YtfijbmnkbfljfaaRows
import Derived.Test.YtfijbmnkbfljfaaSprH
import Derived.Test.YtfijbmnkbfljfaaAbsW
import Derived.WalkKit
import Derived.ProofKit
import Derived.OpenShut
import Derived.ShutString
import Derived.ChangeOld
import Derived.Below
import Derived.SizedLaws
set_option linter.unusedVariables false
namespace Go.Proofs.Ytfijbmnkbfljfaa.diceSpreads
open Go.ChangeShapes Go.WideShapes Go.ChangeAt Go.RowKit
open Go.ChangeMaps (open_string shut_string)
theorem own : ownKnob Try.prog.godebug = none := by kernel_rfl
def S0 : Go.Abs.PS := .int .u32
theorem ok0 : Go.Abs.psOk Try.prog 41 S0 = true := by kernel_rfl
def S1 : Go.Abs.PS := .int .i64
theorem ok1 : Go.Abs.psOk Try.prog 3 S1 = true := by kernel_rfl
set_option maxRecDepth 100000 in
theorem lifted (os : Os) (started : os.Started) (H : Type) (enc : TypeId × Value → H) :
    ReturnsInHanded {} Try.checked os 7 .any (Rows.diceSpreadsSpec.pre6 enc Try.prog Try.f7 Rows.diceSpreadsRow.domain false) (Rows.diceSpreadsSpec.post enc Try.prog Try.f7 false true false false) := by
  refine returnsInHanded_of_change_sized (C := Try.checked) own started (by kernel_rfl) Try.func7
    (ChangeSpec.witness6 (enc := enc) (C := Try.checked) false ⟨#[], #[.int .u32 0, .int .i64 0], []⟩ 8 (by kernel_rfl) (by kernel_rfl) (by kernel_rfl) (by kernel_rfl)) ?_
  intro W base args ds gs before hval0 hW hcnd hsz0 _
  have hval : ∀ (j : Nat) t v, Try.f7.params[j]? = some t → args[j]? = some v → Value.okWide Try.prog W .any base t v := hval0
  have hW' := hW
  obtain ⟨p, q, hA0, hV, rfl, hfz, hnd⟩ := hW
  have hA : DataW.TrodAll enc Try.prog W 0 (fun _ => true) true Try.f7.params.toList args.toList ds p := hA0
  rw [Try.params7] at hA hval
  obtain ⟨v0, vs0, d0, ds0, p0, q0, hargs, rfl, rfl, h0, r0⟩ := trodAll_cons hA
  obtain ⟨v1, vs1, d1, ds1, p1, q1, rfl, rfl, rfl, h1, r1⟩ := trodAll_cons r0
  obtain ⟨rfl, rfl, rfl⟩ := trodAll_nil r1
  obtain rfl : args = #[v0, v1] := by cases args; simp_all
  obtain ⟨rfl, rfl⟩ := trodVars_none hV
  obtain ⟨c0, rfl, g0, rfl⟩ := Go.Abs.open_ps ok0 (hval 0 41 v0 rfl rfl) h0
  have b0 := g0
  obtain ⟨a0, rfl, rfl, w0⟩ := g0
  obtain ⟨c1, rfl, g1, rfl⟩ := Go.Abs.open_ps ok1 (hval 1 3 v1 rfl rfl) h1
  have b1 := g1
  obtain ⟨a1, rfl, rfl, w1⟩ := g1
  clear hA0 hval0 hsz0
  refine (Go.Abs.ACalls.walk (Dice.law_spreads a0 a1 w0 w1) (fun σ => rfl) #[.int .u32 a0, .int .i64 a1] (fun σ => ⟨rfl, ⟨trivial, ⟨trivial, trivial⟩⟩⟩) W).mono fun e W' ⟨he, bel⟩ => ?_
  subst he
  exact ⟨_, rfl, _, _, _, [], _, [], hW', trodAll_mk1 (shut_bool Try.underlying4 _), (trodAll_cons_mk (Go.Abs.shut_ps ok0 b0) (trodAll_cons_mk (Go.Abs.shut_ps ok1 b1) trodAll_mk0)), rfl, bel.frame _, fun h => by cases h⟩
theorem over : Rows.diceSpreadsRow.holds Try.pinned (OpenSpec.ofChange Rows.diceSpreadsSpec) :=
  OpenClaim.holds_of_wide 7 Try.f7 rfl rfl rfl rfl rfl rfl rfl ⟨rfl, rfl, rfl, rfl, rfl⟩ rfl rfl rfl rfl rfl (by kernel_rfl) Try.func7 (by kernel_rfl)
    (of_decide_eq_true (by kernel_rfl)) (by unfold Func.isWrapper; first | (rw [if_pos (by decide +kernel)]; kernel_rfl) | (rw [if_neg (by decide +kernel)]; exact ⟨rfl, rfl⟩))
    (fun os started H enc _ => lifted os started H enc)
theorem proved : Rows.DiceSpreadsSaid := over
end Go.Proofs.Ytfijbmnkbfljfaa.diceSpreads
namespace Go.Proofs.Ytfijbmnkbfljfaa
theorem diceSpreads_holds : Rows.DiceSpreadsSaid := diceSpreads.proved
end Go.Proofs.Ytfijbmnkbfljfaa
