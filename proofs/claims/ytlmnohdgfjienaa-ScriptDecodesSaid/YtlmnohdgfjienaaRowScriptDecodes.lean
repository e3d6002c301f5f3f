/- Any bytes say what the document says, or their error is told, and where it is. (P40.2) -/
import Derived.Test.YtlmnohdgfjienaaRows
import Derived.Test.YtlmnohdgfjienaaSmF
import Derived.Test.YtlmnohdgfjienaaAbsWx
import Derived.WalkKit
import Derived.ProofKit
import Derived.OpenShut
import Derived.ShutString
import Derived.ChangeOld
import Derived.Below
import Derived.SizedLaws
import Derived.Carry
set_option linter.unusedVariables false
namespace Go.Proofs.Ytlmnohdgfjienaa.scriptDecodes
open Go.ChangeShapes Go.WideShapes Go.ChangeAt Go.RowKit
open Go.ChangeMaps (open_string shut_string)
theorem own : ownKnob Try.prog.godebug = none := by kernel_rfl
theorem laid : laidOutB Try.prog = true := by kernel_rfl
def S0 : Go.Abs.XS := .sl (.int .u8)
theorem ok0 : Go.Abs.xsOk Try.prog 31 S0 = true := by kernel_rfl
theorem rec0 : Try.prog.readableRec 31 = true := by kernel_rfl
set_option maxRecDepth 100000 in
theorem lifted (os : Os) (started : os.Started) (H : Type) (enc : TypeId × Value → H) :
    ReturnsInHanded {} Try.checked os 4 .any (Rows.scriptDecodesSpec.pre6 enc Try.prog Try.f4 Rows.scriptDecodesRow.domain false) (Rows.scriptDecodesSpec.post enc Try.prog Try.f4 false true false false) := by
  refine returnsInHanded_of_change_sized (C := Try.checked) own started (by kernel_rfl) Try.func4
    (ChangeSpec.witness6 (enc := enc) (C := Try.checked) false ⟨#[], #[.slice none 0 0], []⟩ 8 (by kernel_rfl) (by kernel_rfl) (by kernel_rfl) (by kernel_rfl)) ?_
  intro W base args ds gs before hval0 hW hcnd hsz0 _
  have hval : ∀ (j : Nat) t v, Try.f4.params[j]? = some t → args[j]? = some v → Value.okWide Try.prog W .any base t v := hval0
  have hW' := hW
  obtain ⟨p, q, hA0, hV, rfl, hfz, hnd⟩ := hW
  have hA : DataW.TrodAll enc Try.prog W 0 (fun _ => true) true Try.f4.params.toList args.toList ds p := hA0
  rw [Try.params4] at hA hval
  obtain ⟨v0, vs0, d0, ds0, p0, q0, hargs, rfl, rfl, h0, r0⟩ := trodAll_cons hA
  obtain ⟨rfl, rfl, rfl⟩ := trodAll_nil r0
  obtain rfl : args = #[v0] := by cases args; simp_all
  obtain ⟨rfl, rfl⟩ := trodVars_none hV
  have k0 : ∀ x ∈ p0, x.block < W.heap.size := fun x hx => hW'.lt x (by simp [hx])
  have c0 := h0
  obtain ⟨c_0, rfl, g0⟩ := Go.Abs.open_xs ok0 (hval 0 31 v0 rfl rfl) h0
  obtain ⟨l0, L0, rfl, B0, w0⟩ := g0
  clear hA0 hval0 hsz0
  refine (Go.Abs.ACalls.walkR (os := [(Go.Abs.rowO (.int .u8 : Go.Abs.PS).ck l0, L0)]) (Cf.law_decodes l0 w0) (fun σ => rfl) (fun p hp => by simp only [List.mem_cons, List.not_mem_nil, or_false] at hp; rcases hp with rfl <;> first | exact (Go.Abs.rowO_spec (Go.Abs.sgOf []) (.int .u8 : Go.Abs.PS).ck l0).2.2.2.1) (fun p hp σ => by simp only [List.mem_cons, List.not_mem_nil, or_false] at hp; rcases hp with rfl <;> first | exact B0 σ) (fun p hp σ => by simp only [List.mem_cons, List.not_mem_nil, or_false] at hp; rcases hp with rfl <;> first | exact (Go.Abs.rowO_spec σ (.int .u8 : Go.Abs.PS).ck l0).2.2.2.2.2) #[.slice (L0.base 0) (L0.len / (.int .u8 : Go.Abs.PS).size) (L0.cap / (.int .u8 : Go.Abs.PS).size)] rfl ⟨⟨(show (0 : Nat) < 1 from by decide), by decide⟩, trivial⟩).mono fun e W' ⟨he, bel⟩ => ?_
  subst he
  exact ⟨_, rfl, _, _, _, [], _, [], hW', trodAll_mk1 (shut_bool Try.underlying4 _), (trodAll_cons_mk (Below.trod laid rec0 (of_decide_eq_true (by kernel_rfl)) c0 bel k0) trodAll_mk0), rfl, bel.frame _, fun h => by cases h⟩
theorem over : Rows.scriptDecodesRow.holds Try.pinned (OpenSpec.ofChange Rows.scriptDecodesSpec) :=
  OpenClaim.holds_of_wide 4 Try.f4 rfl rfl rfl rfl rfl rfl rfl ⟨rfl, rfl, rfl, rfl, rfl⟩ rfl rfl rfl rfl rfl (by kernel_rfl) Try.func4 (by kernel_rfl)
    (of_decide_eq_true (by kernel_rfl)) (by unfold Func.isWrapper; first | (rw [if_pos (by decide +kernel)]; kernel_rfl) | (rw [if_neg (by decide +kernel)]; exact ⟨rfl, rfl⟩))
    (fun os started H enc _ => lifted os started H enc)
theorem proved : Rows.ScriptDecodesSaid := over
end Go.Proofs.Ytlmnohdgfjienaa.scriptDecodes
namespace Go.Proofs.Ytlmnohdgfjienaa
theorem scriptDecodes_holds : Rows.ScriptDecodesSaid := scriptDecodes.proved
end Go.Proofs.Ytlmnohdgfjienaa
