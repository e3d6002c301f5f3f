/- WHATEVER IS LOST OR OVERTAKEN: of a receiver whose packets all have mss bytes the sender's count is, modulo 8, the receiver's, as it was when the newest answer that was taken was sent; and it is the receiver's, as long as between each two that were taken that rose by at most 7, or all fields were told, none of which rose by half a round or more since they were told last. (P19.3) -/
import Derived.Test.YtmaalibjfjokeaaRows
import Derived.Test.YtmaalibjfjokeaaFcCH
import Derived.Test.YtmaalibjfjokeaaAbsWx
import Derived.WalkKit
import Derived.ProofKit
import Derived.OpenShut
import Derived.ShutString
import Derived.ChangeOld
import Derived.Below
import Derived.SizedLaws
import Derived.Carry
set_option linter.unusedVariables false
namespace Go.Proofs.Ytmaalibjfjokeaa.feedbackCounts
open Go.ChangeShapes Go.WideShapes Go.ChangeAt Go.RowKit
open Go.ChangeMaps (open_string shut_string)
theorem own : ownKnob Try.prog.godebug = none := by kernel_rfl
theorem laid : laidOutB Try.prog = true := by kernel_rfl
def S0 : Go.Abs.XS := .agg [.int .u16, .sl (.int .u8), .sl (.bool), .sl (.int .u8)]
theorem ok0 : Go.Abs.xsOk Try.prog 26 S0 = true := by kernel_rfl
theorem rec0 : Try.prog.readableRec 26 = true := by kernel_rfl
set_option maxRecDepth 100000 in
theorem lifted (os : Os) (started : os.Started) (H : Type) (enc : TypeId × Value → H) :
    ReturnsInHanded {} Try.checked os 3 .any (Rows.feedbackCountsSpec.pre6 enc Try.prog Try.f3 Rows.feedbackCountsRow.domain false) (Rows.feedbackCountsSpec.post enc Try.prog Try.f3 false true false false) := by
  refine returnsInHanded_of_change_sized (C := Try.checked) own started (by kernel_rfl) Try.func3
    (ChangeSpec.witness6 (enc := enc) (C := Try.checked) false ⟨#[], #[.agg #[.int .u16 0, .slice none 0 0, .slice none 0 0, .slice none 0 0]], []⟩ 8 (by kernel_rfl) (by kernel_rfl) (by kernel_rfl) (by kernel_rfl)) ?_
  intro W base args ds gs before hval0 hW hcnd hsz0 _
  have hval : ∀ (j : Nat) t v, Try.f3.params[j]? = some t → args[j]? = some v → Value.okWide Try.prog W .any base t v := hval0
  have hW' := hW
  obtain ⟨p, q, hA0, hV, rfl, hfz, hnd⟩ := hW
  have hA : DataW.TrodAll enc Try.prog W 0 (fun _ => true) true Try.f3.params.toList args.toList ds p := hA0
  rw [Try.params3] at hA hval
  obtain ⟨v0, vs0, d0, ds0, p0, q0, hargs, rfl, rfl, h0, r0⟩ := trodAll_cons hA
  obtain ⟨rfl, rfl, rfl⟩ := trodAll_nil r0
  obtain rfl : args = #[v0] := by cases args; simp_all
  obtain ⟨rfl, rfl⟩ := trodVars_none hV
  have k0 : ∀ x ∈ p0, x.block < W.heap.size := fun x hx => hW'.lt x (by simp [hx])
  have c0 := h0
  obtain ⟨c_0, rfl, g0⟩ := Go.Abs.open_xs ok0 (hval 0 26 v0 rfl rfl) h0
  obtain ⟨_, _, rfl, ⟨a0, rfl, w0⟩, ⟨_, _, rfl, ⟨l1, L1, rfl, B1, w1⟩, ⟨_, _, rfl, ⟨l2, L2, rfl, B2, w2⟩, ⟨_, _, rfl, ⟨l3, L3, rfl, B3, w3⟩, rfl⟩⟩⟩⟩ := g0
  clear hA0 hval0 hsz0
  refine (Go.Abs.ACalls.walkR (os := [(Go.Abs.rowO (.int .u8 : Go.Abs.PS).ck l1, L1), (Go.Abs.rowO (.bool : Go.Abs.PS).ck l2, L2), (Go.Abs.rowO (.int .u8 : Go.Abs.PS).ck l3, L3)]) (Fk.law_counts a0 l1 l2 l3 w0 w1 w2 w3) (fun σ => rfl) (fun p hp => by simp only [List.mem_cons, List.not_mem_nil, or_false] at hp; rcases hp with rfl | rfl | rfl <;> first | exact (Go.Abs.rowO_spec (Go.Abs.sgOf []) (.int .u8 : Go.Abs.PS).ck l1).2.2.2.1 | exact (Go.Abs.rowO_spec (Go.Abs.sgOf []) (.bool : Go.Abs.PS).ck l2).2.2.2.1 | exact (Go.Abs.rowO_spec (Go.Abs.sgOf []) (.int .u8 : Go.Abs.PS).ck l3).2.2.2.1) (fun p hp σ => by simp only [List.mem_cons, List.not_mem_nil, or_false] at hp; rcases hp with rfl | rfl | rfl <;> first | exact B1 σ | exact B2 σ | exact B3 σ) (fun p hp σ => by simp only [List.mem_cons, List.not_mem_nil, or_false] at hp; rcases hp with rfl | rfl | rfl <;> first | exact (Go.Abs.rowO_spec σ (.int .u8 : Go.Abs.PS).ck l1).2.2.2.2.2 | exact (Go.Abs.rowO_spec σ (.bool : Go.Abs.PS).ck l2).2.2.2.2.2 | exact (Go.Abs.rowO_spec σ (.int .u8 : Go.Abs.PS).ck l3).2.2.2.2.2) #[.agg #[.int .u16 a0, .slice (L1.base 0) (L1.len / (.int .u8 : Go.Abs.PS).size) (L1.cap / (.int .u8 : Go.Abs.PS).size), .slice (L2.base 0) (L2.len / (.bool : Go.Abs.PS).size) (L2.cap / (.bool : Go.Abs.PS).size), .slice (L3.base 0) (L3.len / (.int .u8 : Go.Abs.PS).size) (L3.cap / (.int .u8 : Go.Abs.PS).size)]] rfl ⟨⟨trivial, ⟨(show (0 : Nat) < 3 from by decide), by decide⟩, ⟨(show (1 : Nat) < 3 from by decide), by decide⟩, ⟨(show (2 : Nat) < 3 from by decide), by decide⟩, trivial⟩, trivial⟩).mono fun e W' ⟨he, bel⟩ => ?_
  subst he
  exact ⟨_, rfl, _, _, _, [], _, [], hW', trodAll_mk1 (shut_bool Try.underlying4 _), (trodAll_cons_mk (Below.trod laid rec0 (of_decide_eq_true (by kernel_rfl)) c0 bel k0) trodAll_mk0), rfl, bel.frame _, fun h => by cases h⟩
theorem over : Rows.feedbackCountsRow.holds Try.pinned (OpenSpec.ofChange Rows.feedbackCountsSpec) :=
  OpenClaim.holds_of_wide 3 Try.f3 rfl rfl rfl rfl rfl rfl rfl ⟨rfl, rfl, rfl, rfl, rfl⟩ rfl rfl rfl rfl rfl (by kernel_rfl) Try.func3 (by kernel_rfl)
    (of_decide_eq_true (by kernel_rfl)) (by unfold Func.isWrapper; first | (rw [if_pos (by decide +kernel)]; kernel_rfl) | (rw [if_neg (by decide +kernel)]; exact ⟨rfl, rfl⟩))
    (fun os started H enc _ => lifted os started H enc)
theorem proved : Rows.FeedbackCountsSaid := over
end Go.Proofs.Ytmaalibjfjokeaa.feedbackCounts
namespace Go.Proofs.Ytmaalibjfjokeaa
theorem feedbackCounts_holds : Rows.FeedbackCountsSaid := feedbackCounts.proved
end Go.Proofs.Ytmaalibjfjokeaa
