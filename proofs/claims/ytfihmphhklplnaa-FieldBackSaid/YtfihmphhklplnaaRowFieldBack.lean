/- Behind fewer than half a round of bytes more, told by 24 bits, all is told; what is told again tells nothing more, and what was told ahead is not fresh. (P17.1 to P17.3) -/
import Derived.Test.YtfihmphhklplnaaRows
import Derived.Test.YtfihmphhklplnaaFbH
import Derived.Test.YtfihmphhklplnaaAbsWx
import Derived.WalkKit
import Derived.ProofKit
import Derived.OpenShut
import Derived.ShutString
import Derived.ChangeOld
import Derived.Below
import Derived.SizedLaws
import Derived.Carry
set_option linter.unusedVariables false
namespace Go.Proofs.Ytfihmphhklplnaa.fieldBack
open Go.ChangeShapes Go.WideShapes Go.ChangeAt Go.RowKit
open Go.ChangeMaps (open_string shut_string)
theorem own : ownKnob Try.prog.godebug = none := by kernel_rfl
theorem laid : laidOutB Try.prog = true := by kernel_rfl
def S0 : Go.Abs.XS := .agg [.int .i32, .int .i32, .int .i32]
theorem ok0 : Go.Abs.xsOk Try.prog 43 S0 = true := by kernel_rfl
theorem rec0 : Try.prog.readableRec 43 = true := by kernel_rfl
def S1 : Go.Abs.XS := .agg [.int .u32, .int .u32, .int .u32]
theorem ok1 : Go.Abs.xsOk Try.prog 44 S1 = true := by kernel_rfl
theorem rec1 : Try.prog.readableRec 44 = true := by kernel_rfl
set_option maxRecDepth 100000 in
theorem lifted (os : Os) (started : os.Started) (H : Type) (enc : TypeId × Value → H) :
    ReturnsInHanded {} Try.checked os 6 .any (Rows.fieldBackSpec.pre6 enc Try.prog Try.f6 Rows.fieldBackRow.domain false) (Rows.fieldBackSpec.post enc Try.prog Try.f6 false true false false) := by
  refine returnsInHanded_of_change_sized (C := Try.checked) own started (by kernel_rfl) Try.func6
    (ChangeSpec.witness6 (enc := enc) (C := Try.checked) false ⟨#[], #[.agg #[.int .i32 0, .int .i32 0, .int .i32 0], .agg #[.int .u32 0, .int .u32 0, .int .u32 0]], []⟩ 8 (by kernel_rfl) (by kernel_rfl) (by kernel_rfl) (by kernel_rfl)) ?_
  intro W base args ds gs before hval0 hW hcnd hsz0 _
  have hval : ∀ (j : Nat) t v, Try.f6.params[j]? = some t → args[j]? = some v → Value.okWide Try.prog W .any base t v := hval0
  have hW' := hW
  obtain ⟨p, q, hA0, hV, rfl, hfz, hnd⟩ := hW
  have hA : DataW.TrodAll enc Try.prog W 0 (fun _ => true) true Try.f6.params.toList args.toList ds p := hA0
  rw [Try.params6] at hA hval
  obtain ⟨v0, vs0, d0, ds0, p0, q0, hargs, rfl, rfl, h0, r0⟩ := trodAll_cons hA
  obtain ⟨v1, vs1, d1, ds1, p1, q1, rfl, rfl, rfl, h1, r1⟩ := trodAll_cons r0
  obtain ⟨rfl, rfl, rfl⟩ := trodAll_nil r1
  obtain rfl : args = #[v0, v1] := by cases args; simp_all
  obtain ⟨rfl, rfl⟩ := trodVars_none hV
  have k0 : ∀ x ∈ p0, x.block < W.heap.size := fun x hx => hW'.lt x (by simp [hx])
  have c0 := h0
  obtain ⟨c_0, rfl, g0⟩ := Go.Abs.open_xs ok0 (hval 0 43 v0 rfl rfl) h0
  obtain ⟨_, _, rfl, ⟨a0, rfl, w0⟩, ⟨_, _, rfl, ⟨a1, rfl, w1⟩, ⟨_, _, rfl, ⟨a2, rfl, w2⟩, rfl⟩⟩⟩ := g0
  have k1 : ∀ x ∈ p1, x.block < W.heap.size := fun x hx => hW'.lt x (by simp [hx])
  have c1 := h1
  obtain ⟨c_1, rfl, g1⟩ := Go.Abs.open_xs ok1 (hval 1 44 v1 rfl rfl) h1
  obtain ⟨_, _, rfl, ⟨a3, rfl, w3⟩, ⟨_, _, rfl, ⟨a4, rfl, w4⟩, ⟨_, _, rfl, ⟨a5, rfl, w5⟩, rfl⟩⟩⟩ := g1
  clear hA0 hval0 hsz0
  refine (Go.Abs.ACalls.walkR (os := []) (Field.lawBack a0 a1 a2 a3 a4 a5 w0 w1 w2 w3 w4 w5) (fun σ => rfl) (fun p hp => by simp at hp) (fun p hp => by simp at hp) (fun p hp => by simp at hp) #[.agg #[.int .i32 a0, .int .i32 a1, .int .i32 a2], .agg #[.int .u32 a3, .int .u32 a4, .int .u32 a5]] rfl ⟨⟨trivial, trivial, trivial, trivial⟩, ⟨trivial, trivial, trivial, trivial⟩, trivial⟩).mono fun e W' ⟨he, bel⟩ => ?_
  subst he
  exact ⟨_, rfl, _, _, _, [], _, [], hW', trodAll_mk1 (shut_bool Try.underlying4 _), (trodAll_cons_mk (Below.trod laid rec0 (of_decide_eq_true (by kernel_rfl)) c0 bel k0) (trodAll_cons_mk (Below.trod laid rec1 (of_decide_eq_true (by kernel_rfl)) c1 bel k1) trodAll_mk0)), rfl, bel.frame _, fun h => by cases h⟩
theorem over : Rows.fieldBackRow.holds Try.pinned (OpenSpec.ofChange Rows.fieldBackSpec) :=
  OpenClaim.holds_of_wide 6 Try.f6 rfl rfl rfl rfl rfl rfl rfl ⟨rfl, rfl, rfl, rfl, rfl⟩ rfl rfl rfl rfl rfl (by kernel_rfl) Try.func6 (by kernel_rfl)
    (of_decide_eq_true (by kernel_rfl)) (by unfold Func.isWrapper; first | (rw [if_pos (by decide +kernel)]; kernel_rfl) | (rw [if_neg (by decide +kernel)]; exact ⟨rfl, rfl⟩))
    (fun os started H enc _ => lifted os started H enc)
theorem proved : Rows.FieldBackSaid := over
end Go.Proofs.Ytfihmphhklplnaa.fieldBack
namespace Go.Proofs.Ytfihmphhklplnaa
theorem fieldBack_holds : Rows.FieldBackSaid := fieldBack.proved
end Go.Proofs.Ytfihmphhklplnaa
