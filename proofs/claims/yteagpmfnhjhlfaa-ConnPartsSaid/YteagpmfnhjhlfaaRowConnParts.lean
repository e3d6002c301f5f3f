/- Without losses both ends are open with the lesser one of what both want, and the one that was asked for the accurate one knows with which code the question came; and when both close, in whatever order, both are closed at last. (P48.6) -/
import Derived.Test.YteagpmfnhjhlfaaRows
import Derived.Test.YteagpmfnhjhlfaaChB
import Derived.Test.YteagpmfnhjhlfaaAbsWx
import Derived.WalkKit
import Derived.ProofKit
import Derived.OpenShut
import Derived.ShutString
import Derived.ChangeOld
import Derived.Below
import Derived.SizedLaws
import Derived.Carry
set_option linter.unusedVariables false
namespace Go.Proofs.Yteagpmfnhjhlfaa.connParts
open Go.ChangeShapes Go.WideShapes Go.ChangeAt Go.RowKit
open Go.ChangeMaps (open_string shut_string)
theorem own : ownKnob Try.prog.godebug = none := by kernel_rfl
theorem laid : laidOutB Try.prog = true := by kernel_rfl
def S0 : Go.Abs.XS := .agg [.int .u8, .int .u8]
theorem ok0 : Go.Abs.xsOk Try.prog 34 S0 = true := by kernel_rfl
theorem rec0 : Try.prog.readableRec 34 = true := by kernel_rfl
def S1 : Go.Abs.XS := .agg [.int .u32, .int .u32]
theorem ok1 : Go.Abs.xsOk Try.prog 35 S1 = true := by kernel_rfl
theorem rec1 : Try.prog.readableRec 35 = true := by kernel_rfl
def S2 : Go.Abs.XS := .agg [.int .u8, .int .u8, .int .u8]
theorem ok2 : Go.Abs.xsOk Try.prog 52 S2 = true := by kernel_rfl
theorem rec2 : Try.prog.readableRec 52 = true := by kernel_rfl
set_option maxRecDepth 100000 in
theorem lifted (os : Os) (started : os.Started) (H : Type) (enc : TypeId × Value → H) :
    ReturnsInHanded {} Try.checked os 6 .any (Rows.connPartsSpec.pre6 enc Try.prog Try.f6 Rows.connPartsRow.domain false) (Rows.connPartsSpec.post enc Try.prog Try.f6 false true false false) := by
  refine returnsInHanded_of_change_sized (C := Try.checked) own started (by kernel_rfl) Try.func6
    (ChangeSpec.witness6 (enc := enc) (C := Try.checked) false ⟨#[], #[.agg #[.int .u8 0, .int .u8 0], .agg #[.int .u32 0, .int .u32 0], .agg #[.int .u8 0, .int .u8 0, .int .u8 0]], []⟩ 8 (by kernel_rfl) (by kernel_rfl) (by kernel_rfl) (by kernel_rfl)) ?_
  intro W base args ds gs before hval0 hW hcnd hsz0 _
  have hval : ∀ (j : Nat) t v, Try.f6.params[j]? = some t → args[j]? = some v → Value.okWide Try.prog W .any base t v := hval0
  have hW' := hW
  obtain ⟨p, q, hA0, hV, rfl, hfz, hnd⟩ := hW
  have hA : DataW.TrodAll enc Try.prog W 0 (fun _ => true) true Try.f6.params.toList args.toList ds p := hA0
  rw [Try.params6] at hA hval
  obtain ⟨v0, vs0, d0, ds0, p0, q0, hargs, rfl, rfl, h0, r0⟩ := trodAll_cons hA
  obtain ⟨v1, vs1, d1, ds1, p1, q1, rfl, rfl, rfl, h1, r1⟩ := trodAll_cons r0
  obtain ⟨v2, vs2, d2, ds2, p2, q2, rfl, rfl, rfl, h2, r2⟩ := trodAll_cons r1
  obtain ⟨rfl, rfl, rfl⟩ := trodAll_nil r2
  obtain rfl : args = #[v0, v1, v2] := by cases args; simp_all
  obtain ⟨rfl, rfl⟩ := trodVars_none hV
  have k0 : ∀ x ∈ p0, x.block < W.heap.size := fun x hx => hW'.lt x (by simp [hx])
  have c0 := h0
  obtain ⟨c_0, rfl, g0⟩ := Go.Abs.open_xs ok0 (hval 0 34 v0 rfl rfl) h0
  obtain ⟨_, _, rfl, ⟨a0, rfl, w0⟩, ⟨_, _, rfl, ⟨a1, rfl, w1⟩, rfl⟩⟩ := g0
  have k1 : ∀ x ∈ p1, x.block < W.heap.size := fun x hx => hW'.lt x (by simp [hx])
  have c1 := h1
  obtain ⟨c_1, rfl, g1⟩ := Go.Abs.open_xs ok1 (hval 1 35 v1 rfl rfl) h1
  obtain ⟨_, _, rfl, ⟨a2, rfl, w2⟩, ⟨_, _, rfl, ⟨a3, rfl, w3⟩, rfl⟩⟩ := g1
  have k2 : ∀ x ∈ p2, x.block < W.heap.size := fun x hx => hW'.lt x (by simp [hx])
  have c2 := h2
  obtain ⟨c_2, rfl, g2⟩ := Go.Abs.open_xs ok2 (hval 2 52 v2 rfl rfl) h2
  obtain ⟨_, _, rfl, ⟨a4, rfl, w4⟩, ⟨_, _, rfl, ⟨a5, rfl, w5⟩, ⟨_, _, rfl, ⟨a6, rfl, w6⟩, rfl⟩⟩⟩ := g2
  clear hA0 hval0 hsz0
  refine (Go.Abs.ACalls.walkR (os := []) (Con.law_parts a0 a1 a2 a3 a4 a5 a6 w0 w1 w2 w3 w4 w5 w6) (fun σ => rfl) (fun p hp => by simp at hp) (fun p hp => by simp at hp) (fun p hp => by simp at hp) #[.agg #[.int .u8 a0, .int .u8 a1], .agg #[.int .u32 a2, .int .u32 a3], .agg #[.int .u8 a4, .int .u8 a5, .int .u8 a6]] rfl ⟨⟨trivial, trivial, trivial⟩, ⟨trivial, trivial, trivial⟩, ⟨trivial, trivial, trivial, trivial⟩, trivial⟩).mono fun e W' ⟨he, bel⟩ => ?_
  subst he
  exact ⟨_, rfl, _, _, _, [], _, [], hW', trodAll_mk1 (shut_bool Try.underlying4 _), (trodAll_cons_mk (Below.trod laid rec0 (of_decide_eq_true (by kernel_rfl)) c0 bel k0) (trodAll_cons_mk (Below.trod laid rec1 (of_decide_eq_true (by kernel_rfl)) c1 bel k1) (trodAll_cons_mk (Below.trod laid rec2 (of_decide_eq_true (by kernel_rfl)) c2 bel k2) trodAll_mk0))), rfl, bel.frame _, fun h => by cases h⟩
theorem over : Rows.connPartsRow.holds Try.pinned (OpenSpec.ofChange Rows.connPartsSpec) :=
  OpenClaim.holds_of_wide 6 Try.f6 rfl rfl rfl rfl rfl rfl rfl ⟨rfl, rfl, rfl, rfl, rfl⟩ rfl rfl rfl rfl rfl (by kernel_rfl) Try.func6 (by kernel_rfl)
    (of_decide_eq_true (by kernel_rfl)) (by unfold Func.isWrapper; first | (rw [if_pos (by decide +kernel)]; kernel_rfl) | (rw [if_neg (by decide +kernel)]; exact ⟨rfl, rfl⟩))
    (fun os started H enc _ => lifted os started H enc)
theorem proved : Rows.ConnPartsSaid := over
end Go.Proofs.Yteagpmfnhjhlfaa.connParts
namespace Go.Proofs.Yteagpmfnhjhlfaa
theorem connParts_holds : Rows.ConnPartsSaid := connParts.proved
end Go.Proofs.Yteagpmfnhjhlfaa
