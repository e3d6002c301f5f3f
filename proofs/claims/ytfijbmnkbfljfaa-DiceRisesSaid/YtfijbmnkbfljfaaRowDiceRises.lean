/- A draw that hits a share hits each greater one, and none that is not above it; what is nil answers as the document says. (P8.1, P8.2, P8.4) -/
import Derived.Test.YtfijbmnkbfljfaaRows
import Derived.Test.YtfijbmnkbfljfaaDiceH
import Derived.Test.YtfijbmnkbfljfaaAbsW
import Derived.WalkKit
import Derived.ProofKit
import Derived.OpenShut
import Derived.ShutString
import Derived.ChangeOld
import Derived.Below
import Derived.SizedLaws
set_option linter.unusedVariables false
namespace Go.Proofs.Ytfijbmnkbfljfaa.diceRises
open Go.ChangeShapes Go.WideShapes Go.ChangeAt Go.RowKit
open Go.ChangeMaps (open_string shut_string)
theorem own : ownKnob Try.prog.godebug = none := by kernel_rfl
def S0 : Go.Abs.PS := .int .u32
theorem ok0 : Go.Abs.psOk Try.prog 41 S0 = true := by kernel_rfl
def S1 : Go.Abs.PS := .int .i64
theorem ok1 : Go.Abs.psOk Try.prog 2 S1 = true := by kernel_rfl
def S2 : Go.Abs.PS := .int .i64
theorem ok2 : Go.Abs.psOk Try.prog 2 S2 = true := by kernel_rfl
set_option maxRecDepth 100000 in
theorem lifted (os : Os) (started : os.Started) (H : Type) (enc : TypeId × Value → H) :
    ReturnsInHanded {} Try.checked os 6 .any (Rows.diceRisesSpec.pre6 enc Try.prog Try.f6 Rows.diceRisesRow.domain false) (Rows.diceRisesSpec.post enc Try.prog Try.f6 false true false false) := by
  refine returnsInHanded_of_change_sized (C := Try.checked) own started (by kernel_rfl) Try.func6
    (ChangeSpec.witness6 (enc := enc) (C := Try.checked) false ⟨#[], #[.int .u32 0, .int .i64 0, .int .i64 0], []⟩ 8 (by kernel_rfl) (by kernel_rfl) (by kernel_rfl) (by kernel_rfl)) ?_
  intro W base args ds gs before hval0 hW hcnd hsz0 _
  have hval : ∀ (j : Nat) t v, Try.f6.params[j]? = some t → args[j]? = some v → Value.okWide Try.prog W .any base t v := hval0
  have hW' := hW
  obtain ⟨p, q, hA0, hV, rfl, hfz, hnd⟩ := hW
  have hA : DataW.TrodAll enc Try.prog W 0 (fun _ => true) true Try.f6.params.toList args.toList ds p := hA0
  rw [Try.params6] at hA hval
  obtain ⟨v0, vs0, d0, ds0, p0, q0, hargs, rfl, rfl, h0, r0⟩ := trodAll_cons hA
  obtain ⟨v1, vs1, d1, ds1, p1, q1, rfl, rfl, rfl, h1, r1⟩ := trodAll_cons r0
  obtain ⟨v2, vs2, d2, ds2, p2, q2, rfl, rfl, rfl, h2, r2⟩ := trodAll_cons r1
  obtain ⟨rfl, rfl, rfl⟩ := trodAll_nil r2
  obtain rfl : args = #[v0, v1, v2] := by cases args; simp_all
  obtain ⟨rfl, rfl⟩ := trodVars_none hV
  obtain ⟨c0, rfl, g0, rfl⟩ := Go.Abs.open_ps ok0 (hval 0 41 v0 rfl rfl) h0
  have b0 := g0
  obtain ⟨a0, rfl, rfl, w0⟩ := g0
  obtain ⟨c1, rfl, g1, rfl⟩ := Go.Abs.open_ps ok1 (hval 1 2 v1 rfl rfl) h1
  have b1 := g1
  obtain ⟨a1, rfl, rfl, w1⟩ := g1
  obtain ⟨c2, rfl, g2, rfl⟩ := Go.Abs.open_ps ok2 (hval 2 2 v2 rfl rfl) h2
  have b2 := g2
  obtain ⟨a2, rfl, rfl, w2⟩ := g2
  clear hA0 hval0 hsz0
  refine (Go.Abs.ACalls.walk (Dice.law_rises a0 a1 a2 w0 w1 w2) (fun σ => rfl) #[.int .u32 a0, .int .i64 a1, .int .i64 a2] (fun σ => ⟨rfl, ⟨trivial, ⟨trivial, ⟨trivial, trivial⟩⟩⟩⟩) W).mono fun e W' ⟨he, bel⟩ => ?_
  subst he
  exact ⟨_, rfl, _, _, _, [], _, [], hW', trodAll_mk1 (shut_bool Try.underlying4 _), (trodAll_cons_mk (Go.Abs.shut_ps ok0 b0) (trodAll_cons_mk (Go.Abs.shut_ps ok1 b1) (trodAll_cons_mk (Go.Abs.shut_ps ok2 b2) trodAll_mk0))), rfl, bel.frame _, fun h => by cases h⟩
theorem over : Rows.diceRisesRow.holds Try.pinned (OpenSpec.ofChange Rows.diceRisesSpec) :=
  OpenClaim.holds_of_wide 6 Try.f6 rfl rfl rfl rfl rfl rfl rfl ⟨rfl, rfl, rfl, rfl, rfl⟩ rfl rfl rfl rfl rfl (by kernel_rfl) Try.func6 (by kernel_rfl)
    (of_decide_eq_true (by kernel_rfl)) (by unfold Func.isWrapper; first | (rw [if_pos (by decide +kernel)]; kernel_rfl) | (rw [if_neg (by decide +kernel)]; exact ⟨rfl, rfl⟩))
    (fun os started H enc _ => lifted os started H enc)
theorem proved : Rows.DiceRisesSaid := over
end Go.Proofs.Ytfijbmnkbfljfaa.diceRises
namespace Go.Proofs.Ytfijbmnkbfljfaa
theorem diceRises_holds : Rows.DiceRisesSaid := diceRises.proved
end Go.Proofs.Ytfijbmnkbfljfaa
