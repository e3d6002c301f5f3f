/- What is nil answers as the document says. (P18.1) -/
import Derived.Test.YtfihmphhklplnaaRows
import Derived.Test.YtfihmphhklplnaaFresh
import Derived.Test.YtfihmphhklplnaaAbsW
import Derived.WalkKit
import Derived.ProofKit
import Derived.OpenShut
import Derived.ShutString
import Derived.ChangeOld
import Derived.Below
import Derived.SizedLaws
set_option linter.unusedVariables false
namespace Go.Proofs.Ytfihmphhklplnaa.freshNil
open Go.ChangeShapes Go.WideShapes Go.ChangeAt Go.RowKit
open Go.ChangeMaps (open_string shut_string)
theorem own : ownKnob Try.prog.godebug = none := by kernel_rfl
def S0 : Go.Abs.PS := .int .u32
theorem ok0 : Go.Abs.psOk Try.prog 22 S0 = true := by kernel_rfl
set_option maxRecDepth 100000 in
theorem lifted (os : Os) (started : os.Started) (H : Type) (enc : TypeId × Value → H) :
    ReturnsInHanded {} Try.checked os 13 .any (Rows.freshNilSpec.pre6 enc Try.prog Try.f13 Rows.freshNilRow.domain false) (Rows.freshNilSpec.post enc Try.prog Try.f13 false true false false) := by
  refine returnsInHanded_of_change_sized (C := Try.checked) own started (by kernel_rfl) Try.func13
    (ChangeSpec.witness6 (enc := enc) (C := Try.checked) false ⟨#[], #[.int .u32 0], []⟩ 8 (by kernel_rfl) (by kernel_rfl) (by kernel_rfl) (by kernel_rfl)) ?_
  intro W base args ds gs before hval0 hW hcnd hsz0 _
  have hval : ∀ (j : Nat) t v, Try.f13.params[j]? = some t → args[j]? = some v → Value.okWide Try.prog W .any base t v := hval0
  have hW' := hW
  obtain ⟨p, q, hA0, hV, rfl, hfz, hnd⟩ := hW
  have hA : DataW.TrodAll enc Try.prog W 0 (fun _ => true) true Try.f13.params.toList args.toList ds p := hA0
  rw [Try.params13] at hA hval
  obtain ⟨v0, vs0, d0, ds0, p0, q0, hargs, rfl, rfl, h0, r0⟩ := trodAll_cons hA
  obtain ⟨rfl, rfl, rfl⟩ := trodAll_nil r0
  obtain rfl : args = #[v0] := by cases args; simp_all
  obtain ⟨rfl, rfl⟩ := trodVars_none hV
  obtain ⟨c0, rfl, g0, rfl⟩ := Go.Abs.open_ps ok0 (hval 0 22 v0 rfl rfl) h0
  have b0 := g0
  obtain ⟨a0, rfl, rfl, w0⟩ := g0
  clear hA0 hval0 hsz0
  refine (Go.Abs.ACalls.walk (Fresh.lawNil a0 w0) (fun σ => rfl) #[.int .u32 a0] (fun σ => ⟨rfl, ⟨trivial, trivial⟩⟩) W).mono fun e W' ⟨he, bel⟩ => ?_
  subst he
  exact ⟨_, rfl, _, _, _, [], _, [], hW', trodAll_mk1 (shut_bool Try.underlying4 _), (trodAll_cons_mk (Go.Abs.shut_ps ok0 b0) trodAll_mk0), rfl, bel.frame _, fun h => by cases h⟩
theorem over : Rows.freshNilRow.holds Try.pinned (OpenSpec.ofChange Rows.freshNilSpec) :=
  OpenClaim.holds_of_wide 13 Try.f13 rfl rfl rfl rfl rfl rfl rfl ⟨rfl, rfl, rfl, rfl, rfl⟩ rfl rfl rfl rfl rfl (by kernel_rfl) Try.func13 (by kernel_rfl)
    (of_decide_eq_true (by kernel_rfl)) (by unfold Func.isWrapper; first | (rw [if_pos (by decide +kernel)]; kernel_rfl) | (rw [if_neg (by decide +kernel)]; exact ⟨rfl, rfl⟩))
    (fun os started H enc _ => lifted os started H enc)
theorem proved : Rows.FreshNilSaid := over
end Go.Proofs.Ytfihmphhklplnaa.freshNil
namespace Go.Proofs.Ytfihmphhklplnaa
theorem freshNil_holds : Rows.FreshNilSaid := freshNil.proved
end Go.Proofs.Ytfihmphhklplnaa
