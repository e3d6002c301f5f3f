/- A reader that is nil answers as the document says; what lies behind bytes in their room stays. (P7.1, P7.2, P7.3) -/
import Derived.Test.YtihnhjkaamngoaaRows
import Derived.Test.YtihnhjkaamngoaaCodePH
import Derived.Test.YtihnhjkaamngoaaAbsWs
import Derived.WalkKit
import Derived.ProofKit
import Derived.OpenShut
import Derived.ShutString
import Derived.ChangeOld
import Derived.Below
import Derived.SizedLaws
import Derived.Carry
set_option linter.unusedVariables false
namespace Go.Proofs.Ytihnhjkaamngoaa.codeNil
open Go.ChangeShapes Go.WideShapes Go.ChangeAt Go.RowKit
open Go.ChangeMaps (open_string shut_string)
theorem own : ownKnob Try.prog.godebug = none := by kernel_rfl
theorem laid : laidOutB Try.prog = true := by kernel_rfl
def S0 : Go.Abs.PS := .int .u64
theorem ok0 : Go.Abs.psOk Try.prog 24 S0 = true := by kernel_rfl
theorem rec0 : Try.prog.readableRec 24 = true := by kernel_rfl
def S1 : Go.Abs.PS := .int .i64
theorem ok1 : Go.Abs.psOk Try.prog 3 S1 = true := by kernel_rfl
theorem rec1 : Try.prog.readableRec 3 = true := by kernel_rfl
set_option maxRecDepth 100000 in
theorem lifted (os : Os) (started : os.Started) (H : Type) (enc : TypeId × Value → H) :
    ReturnsInHanded {} Try.checked os 5 .any (Rows.codeNilSpec.pre6 enc Try.prog Try.f5 Rows.codeNilRow.domain false) (Rows.codeNilSpec.post enc Try.prog Try.f5 false true false false) := by
  refine returnsInHanded_of_change_sized (C := Try.checked) own started (by kernel_rfl) Try.func5
    (ChangeSpec.witness6 (enc := enc) (C := Try.checked) false ⟨#[], #[.int .u64 0, .int .i64 0], []⟩ 8 (by kernel_rfl) (by kernel_rfl) (by kernel_rfl) (by kernel_rfl)) ?_
  intro W base args ds gs before hval0 hW hcnd hsz0 _
  have hval : ∀ (j : Nat) t v, Try.f5.params[j]? = some t → args[j]? = some v → Value.okWide Try.prog W .any base t v := hval0
  have hW' := hW
  obtain ⟨p, q, hA0, hV, rfl, hfz, hnd⟩ := hW
  have hA : DataW.TrodAll enc Try.prog W 0 (fun _ => true) true Try.f5.params.toList args.toList ds p := hA0
  rw [Try.params5] at hA hval
  obtain ⟨v0, vs0, d0, ds0, p0, q0, hargs, rfl, rfl, h0, r0⟩ := trodAll_cons hA
  obtain ⟨v1, vs1, d1, ds1, p1, q1, rfl, rfl, rfl, h1, r1⟩ := trodAll_cons r0
  obtain ⟨rfl, rfl, rfl⟩ := trodAll_nil r1
  obtain rfl : args = #[v0, v1] := by cases args; simp_all
  obtain ⟨rfl, rfl⟩ := trodVars_none hV
  have k0 : ∀ x ∈ p0, x.block < W.heap.size := fun x hx => hW'.lt x (by simp [hx])
  have c0 := h0
  obtain ⟨c_0, rfl, g0, hp0⟩ := Go.Abs.open_ps ok0 (hval 0 24 v0 rfl rfl) h0
  obtain ⟨a0, rfl, rfl, w0⟩ := g0
  have k1 : ∀ x ∈ p1, x.block < W.heap.size := fun x hx => hW'.lt x (by simp [hx])
  have c1 := h1
  obtain ⟨c_1, rfl, g1, hp1⟩ := Go.Abs.open_ps ok1 (hval 1 3 v1 rfl rfl) h1
  obtain ⟨a1, rfl, rfl, w1⟩ := g1
  clear hA0 hval0 hsz0
  refine (Go.Abs.ACalls.walkR (os := []) (Code.law_nil a0 a1 w0 w1) (fun σ => rfl) (fun p hp => by simp at hp) (fun p hp => by simp at hp) (fun p hp => by simp at hp) #[.int .u64 a0, .int .i64 a1] rfl ⟨trivial, trivial, trivial⟩).mono fun e W' ⟨he, bel⟩ => ?_
  subst he
  exact ⟨_, rfl, _, _, _, [], _, [], hW', trodAll_mk1 (shut_bool Try.underlying4 _), (trodAll_cons_mk (Below.trod laid rec0 (of_decide_eq_true (by kernel_rfl)) c0 bel k0) (trodAll_cons_mk (Below.trod laid rec1 (of_decide_eq_true (by kernel_rfl)) c1 bel k1) trodAll_mk0)), rfl, bel.frame _, fun h => by cases h⟩
theorem over : Rows.codeNilRow.holds Try.pinned (OpenSpec.ofChange Rows.codeNilSpec) :=
  OpenClaim.holds_of_wide 5 Try.f5 rfl rfl rfl rfl rfl rfl rfl ⟨rfl, rfl, rfl, rfl, rfl⟩ rfl rfl rfl rfl rfl (by kernel_rfl) Try.func5 (by kernel_rfl)
    (of_decide_eq_true (by kernel_rfl)) (by unfold Func.isWrapper; first | (rw [if_pos (by decide +kernel)]; kernel_rfl) | (rw [if_neg (by decide +kernel)]; exact ⟨rfl, rfl⟩))
    (fun os started H enc _ => lifted os started H enc)
theorem proved : Rows.CodeNilSaid := over
end Go.Proofs.Ytihnhjkaamngoaa.codeNil
namespace Go.Proofs.Ytihnhjkaamngoaa
theorem codeNil_holds : Rows.CodeNilSaid := codeNil.proved
end Go.Proofs.Ytihnhjkaamngoaa
