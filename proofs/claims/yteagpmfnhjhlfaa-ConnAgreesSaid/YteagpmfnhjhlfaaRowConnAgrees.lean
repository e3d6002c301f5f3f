/- BOTH COME TO THE SAME MODE, WHATEVER IS LOST: of two ends that hear nobody else, whatever segments are lost, sent again, or wait, with whatever codes: when both have been open, both have the same mode, which is the lesser one of what both want, or none. (P48.6) -/
import Derived.Test.YteagpmfnhjhlfaaRows
import Derived.Test.YteagpmfnhjhlfaaCgB
import Derived.Test.YteagpmfnhjhlfaaAbsWx
import Derived.WalkKit
import Derived.ProofKit
import Derived.OpenShut
import Derived.ShutString
import Derived.ChangeOld
import Derived.Below
import Derived.SizedLaws
import Derived.Carry
set_option linter.unusedVariables false
namespace Go.Proofs.Yteagpmfnhjhlfaa.connAgrees
open Go.ChangeShapes Go.WideShapes Go.ChangeAt Go.RowKit
open Go.ChangeMaps (open_string shut_string)
theorem own : ownKnob Try.prog.godebug = none := by kernel_rfl
theorem laid : laidOutB Try.prog = true := by kernel_rfl
def S0 : Go.Abs.XS := .agg [.int .u8, .int .u8]
theorem ok0 : Go.Abs.xsOk Try.prog 34 S0 = true := by kernel_rfl
theorem rec0 : Try.prog.readableRec 34 = true := by kernel_rfl
def S1 : Go.Abs.XS := .agg [.int .u32, .int .u32]
theorem ok1 : Go.Abs.xsOk Try.prog 35 S1 = true := by kernel_rfl
theorem rec1 : Try.prog.readableRec 35 = true := by kernel_rfl
def S2 : Go.Abs.XS := .sl (.int .u8)
theorem ok2 : Go.Abs.xsOk Try.prog 36 S2 = true := by kernel_rfl
theorem rec2 : Try.prog.readableRec 36 = true := by kernel_rfl
set_option maxRecDepth 100000 in
theorem lifted (os : Os) (started : os.Started) (H : Type) (enc : TypeId × Value → H) :
    ReturnsInHanded {} Try.checked os 4 .any (Rows.connAgreesSpec.pre6 enc Try.prog Try.f4 Rows.connAgreesRow.domain false) (Rows.connAgreesSpec.post enc Try.prog Try.f4 false true false false) := by
  refine returnsInHanded_of_change_sized (C := Try.checked) own started (by kernel_rfl) Try.func4
    (ChangeSpec.witness6 (enc := enc) (C := Try.checked) false ⟨#[], #[.agg #[.int .u8 0, .int .u8 0], .agg #[.int .u32 0, .int .u32 0], .slice none 0 0], []⟩ 8 (by kernel_rfl) (by kernel_rfl) (by kernel_rfl) (by kernel_rfl)) ?_
  intro W base args ds gs before hval0 hW hcnd hsz0 _
  have hval : ∀ (j : Nat) t v, Try.f4.params[j]? = some t → args[j]? = some v → Value.okWide Try.prog W .any base t v := hval0
  have hW' := hW
  obtain ⟨p, q, hA0, hV, rfl, hfz, hnd⟩ := hW
  have hA : DataW.TrodAll enc Try.prog W 0 (fun _ => true) true Try.f4.params.toList args.toList ds p := hA0
  rw [Try.params4] at hA hval
  obtain ⟨v0, vs0, d0, ds0, p0, q0, hargs, rfl, rfl, h0, r0⟩ := trodAll_cons hA
  obtain ⟨v1, vs1, d1, ds1, p1, q1, rfl, rfl, rfl, h1, r1⟩ := trodAll_cons r0
  obtain ⟨v2, vs2, d2, ds2, p2, q2, rfl, rfl, rfl, h2, r2⟩ := trodAll_cons r1
  obtain ⟨rfl, rfl, rfl⟩ := trodAll_nil r2
  obtain rfl : args = #[v0, v1, v2] := by cases args; simp_all
  obtain ⟨rfl, rfl⟩ := trodVars_none hV
  have k0 : ∀ x ∈ p0, x.block < W.heap.size := fun x hx => hW'.lt x (by simp [hx])
  have c0 := h0
  obtain ⟨c_0, rfl, g0⟩ := Go.Abs.open_xs ok0 (hval 0 34 v0 rfl rfl) h0
  obtain ⟨_, _, rfl, ⟨a0, rfl, w0⟩, ⟨_, _, rfl, ⟨a1, rfl, w1⟩, rfl⟩⟩ := g0
  have k1 : ∀ x ∈ p1, x.block < W.heap.size := fun x hx => hW'.lt x (by simp [hx])
  have c1 := h1
  obtain ⟨c_1, rfl, g1⟩ := Go.Abs.open_xs ok1 (hval 1 35 v1 rfl rfl) h1
  obtain ⟨_, _, rfl, ⟨a2, rfl, w2⟩, ⟨_, _, rfl, ⟨a3, rfl, w3⟩, rfl⟩⟩ := g1
  have k2 : ∀ x ∈ p2, x.block < W.heap.size := fun x hx => hW'.lt x (by simp [hx])
  have c2 := h2
  obtain ⟨c_2, rfl, g2⟩ := Go.Abs.open_xs ok2 (hval 2 36 v2 rfl rfl) h2
  obtain ⟨l4, L4, rfl, B4, w4⟩ := g2
  clear hA0 hval0 hsz0
  refine (Go.Abs.ACalls.walkR (os := [(Go.Abs.rowO (.int .u8 : Go.Abs.PS).ck l4, L4)]) (Con.law_agrees a0 a1 a2 a3 l4 w0 w1 w2 w3 w4) (fun σ => rfl) (fun p hp => by simp only [List.mem_cons, List.not_mem_nil, or_false] at hp; rcases hp with rfl <;> first | exact (Go.Abs.rowO_spec (Go.Abs.sgOf []) (.int .u8 : Go.Abs.PS).ck l4).2.2.2.1) (fun p hp σ => by simp only [List.mem_cons, List.not_mem_nil, or_false] at hp; rcases hp with rfl <;> first | exact B4 σ) (fun p hp σ => by simp only [List.mem_cons, List.not_mem_nil, or_false] at hp; rcases hp with rfl <;> first | exact (Go.Abs.rowO_spec σ (.int .u8 : Go.Abs.PS).ck l4).2.2.2.2.2) #[.agg #[.int .u8 a0, .int .u8 a1], .agg #[.int .u32 a2, .int .u32 a3], .slice (L4.base 0) (L4.len / (.int .u8 : Go.Abs.PS).size) (L4.cap / (.int .u8 : Go.Abs.PS).size)] rfl ⟨⟨trivial, trivial, trivial⟩, ⟨trivial, trivial, trivial⟩, ⟨(show (0 : Nat) < 1 from by decide), by decide⟩, trivial⟩).mono fun e W' ⟨he, bel⟩ => ?_
  subst he
  exact ⟨_, rfl, _, _, _, [], _, [], hW', trodAll_mk1 (shut_bool Try.underlying4 _), (trodAll_cons_mk (Below.trod laid rec0 (of_decide_eq_true (by kernel_rfl)) c0 bel k0) (trodAll_cons_mk (Below.trod laid rec1 (of_decide_eq_true (by kernel_rfl)) c1 bel k1) (trodAll_cons_mk (Below.trod laid rec2 (of_decide_eq_true (by kernel_rfl)) c2 bel k2) trodAll_mk0))), rfl, bel.frame _, fun h => by cases h⟩
theorem over : Rows.connAgreesRow.holds Try.pinned (OpenSpec.ofChange Rows.connAgreesSpec) :=
  OpenClaim.holds_of_wide 4 Try.f4 rfl rfl rfl rfl rfl rfl rfl ⟨rfl, rfl, rfl, rfl, rfl⟩ rfl rfl rfl rfl rfl (by kernel_rfl) Try.func4 (by kernel_rfl)
    (of_decide_eq_true (by kernel_rfl)) (by unfold Func.isWrapper; first | (rw [if_pos (by decide +kernel)]; kernel_rfl) | (rw [if_neg (by decide +kernel)]; exact ⟨rfl, rfl⟩))
    (fun os started H enc _ => lifted os started H enc)
theorem proved : Rows.ConnAgreesSaid := over
end Go.Proofs.Yteagpmfnhjhlfaa.connAgrees
namespace Go.Proofs.Yteagpmfnhjhlfaa
theorem connAgrees_holds : Rows.ConnAgreesSaid := connAgrees.proved
end Go.Proofs.Yteagpmfnhjhlfaa
