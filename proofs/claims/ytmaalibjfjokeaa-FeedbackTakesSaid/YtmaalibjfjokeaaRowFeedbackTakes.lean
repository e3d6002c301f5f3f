/- Of any acknowledgements, one by one, the sender learns what the document says, or tells its error. (P19.1, P19.2) -/
import Derived.Test.YtmaalibjfjokeaaRows
import Derived.Test.YtmaalibjfjokeaaFtH
import Derived.Test.YtmaalibjfjokeaaAbsWs
import Derived.WalkKit
import Derived.ProofKit
import Derived.OpenShut
import Derived.ShutString
import Derived.ChangeOld
import Derived.Below
import Derived.SizedLaws
import Derived.Carry
set_option linter.unusedVariables false
namespace Go.Proofs.Ytmaalibjfjokeaa.feedbackTakes
open Go.ChangeShapes Go.WideShapes Go.ChangeAt Go.RowKit
open Go.ChangeMaps (open_string shut_string)
theorem own : ownKnob Try.prog.godebug = none := by kernel_rfl
theorem laid : laidOutB Try.prog = true := by kernel_rfl
def S0 : Go.Abs.PS := .int .i64
theorem ok0 : Go.Abs.psOk Try.prog 2 S0 = true := by kernel_rfl
theorem rec0 : Try.prog.readableRec 2 = true := by kernel_rfl
def S1 : Go.Abs.PS := .int .i64
theorem ok1 : Go.Abs.psOk Try.prog 2 S1 = true := by kernel_rfl
theorem rec1 : Try.prog.readableRec 2 = true := by kernel_rfl
def S2 : Go.Abs.PS := .agg [.int .i64, .int .u32, .int .u8, .agg [.int .i64, .int .i64, .int .i64]]
theorem ok2 : Go.Abs.psOk Try.prog 38 S2 = true := by kernel_rfl
theorem rec2 : Try.prog.readableRec 46 = true := by kernel_rfl
theorem und2 : Try.prog.underlying 46 = some (.slice 38) := by kernel_rfl
theorem siz2 : Try.prog.cellsOf 38 = S2.size := by kernel_rfl
set_option maxRecDepth 100000 in
theorem lifted (os : Os) (started : os.Started) (H : Type) (enc : TypeId × Value → H) :
    ReturnsInHanded {} Try.checked os 4 .any (Rows.feedbackTakesSpec.pre6 enc Try.prog Try.f4 Rows.feedbackTakesRow.domain false) (Rows.feedbackTakesSpec.post enc Try.prog Try.f4 false true false false) := by
  refine returnsInHanded_of_change_sized (C := Try.checked) own started (by kernel_rfl) Try.func4
    (ChangeSpec.witness6 (enc := enc) (C := Try.checked) false ⟨#[], #[.int .i64 0, .int .i64 0, .slice none 0 0], []⟩ 8 (by kernel_rfl) (by kernel_rfl) (by kernel_rfl) (by kernel_rfl)) ?_
  intro W base args ds gs before hval0 hW hcnd hsz0 _
  have hval : ∀ (j : Nat) t v, Try.f4.params[j]? = some t → args[j]? = some v → Value.okWide Try.prog W .any base t v := hval0
  have hW' := hW
  obtain ⟨p, q, hA0, hV, rfl, hfz, hnd⟩ := hW
  have hA : DataW.TrodAll enc Try.prog W 0 (fun _ => true) true Try.f4.params.toList args.toList ds p := hA0
  rw [Try.params4] at hA hval
  obtain ⟨v0, vs0, d0, ds0, p0, q0, hargs, rfl, rfl, h0, r0⟩ := trodAll_cons hA
  obtain ⟨v1, vs1, d1, ds1, p1, q1, rfl, rfl, rfl, h1, r1⟩ := trodAll_cons r0
  obtain ⟨v2, vs2, d2, ds2, p2, q2, rfl, rfl, rfl, h2, r2⟩ := trodAll_cons r1
  obtain ⟨rfl, rfl, rfl⟩ := trodAll_nil r2
  obtain rfl : args = #[v0, v1, v2] := by cases args; simp_all
  obtain ⟨rfl, rfl⟩ := trodVars_none hV
  have k0 : ∀ x ∈ p0, x.block < W.heap.size := fun x hx => hW'.lt x (by simp [hx])
  have c0 := h0
  obtain ⟨c_0, rfl, g0, hp0⟩ := Go.Abs.open_ps ok0 (hval 0 2 v0 rfl rfl) h0
  obtain ⟨a0, rfl, rfl, w0⟩ := g0
  have k1 : ∀ x ∈ p1, x.block < W.heap.size := fun x hx => hW'.lt x (by simp [hx])
  have c1 := h1
  obtain ⟨c_1, rfl, g1, hp1⟩ := Go.Abs.open_ps ok1 (hval 1 2 v1 rfl rfl) h1
  obtain ⟨a1, rfl, rfl, w1⟩ := g1
  have k2 : ∀ x ∈ p2, x.block < W.heap.size := fun x hx => hW'.lt x (by simp [hx])
  have c2 := h2
  obtain ⟨l2, L2, rfl, B2, w1002⟩ := Go.Abs.open_slv und2 ok2 (by decide) siz2 (hval 2 46 v2 rfl rfl) h2
  clear hA0 hval0 hsz0
  refine (Go.Abs.ACalls.walkR (os := [(Go.Abs.rowO S2.ck l2, L2)]) (Fk.law_takes a0 a1 l2 w0 w1 w1002) (fun σ => rfl) (fun p hp => by simp only [List.mem_cons, List.not_mem_nil, or_false] at hp; rcases hp with rfl <;> first | exact (Go.Abs.rowO_spec (Go.Abs.sgOf []) S2.ck l2).2.2.2.1) (fun p hp σ => by simp only [List.mem_cons, List.not_mem_nil, or_false] at hp; rcases hp with rfl <;> first | exact B2 σ) (fun p hp σ => by simp only [List.mem_cons, List.not_mem_nil, or_false] at hp; rcases hp with rfl <;> first | exact (Go.Abs.rowO_spec σ S2.ck l2).2.2.2.2.2) #[.int .i64 a0, .int .i64 a1, .slice (L2.base 0) (L2.len / S2.size) (L2.cap / S2.size)] rfl ⟨trivial, trivial, ⟨(show (0 : Nat) < 1 from by decide), by decide⟩, trivial⟩).mono fun e W' ⟨he, bel⟩ => ?_
  subst he
  exact ⟨_, rfl, _, _, _, [], _, [], hW', trodAll_mk1 (shut_bool Try.underlying4 _), (trodAll_cons_mk (Below.trod laid rec0 (of_decide_eq_true (by kernel_rfl)) c0 bel k0) (trodAll_cons_mk (Below.trod laid rec1 (of_decide_eq_true (by kernel_rfl)) c1 bel k1) (trodAll_cons_mk (Below.trod laid rec2 (of_decide_eq_true (by kernel_rfl)) c2 bel k2) trodAll_mk0))), rfl, bel.frame _, fun h => by cases h⟩
theorem over : Rows.feedbackTakesRow.holds Try.pinned (OpenSpec.ofChange Rows.feedbackTakesSpec) :=
  OpenClaim.holds_of_wide 4 Try.f4 rfl rfl rfl rfl rfl rfl rfl ⟨rfl, rfl, rfl, rfl, rfl⟩ rfl rfl rfl rfl rfl (by kernel_rfl) Try.func4 (by kernel_rfl)
    (of_decide_eq_true (by kernel_rfl)) (by unfold Func.isWrapper; first | (rw [if_pos (by decide +kernel)]; kernel_rfl) | (rw [if_neg (by decide +kernel)]; exact ⟨rfl, rfl⟩))
    (fun os started H enc _ => lifted os started H enc)
theorem proved : Rows.FeedbackTakesSaid := over
end Go.Proofs.Ytmaalibjfjokeaa.feedbackTakes
namespace Go.Proofs.Ytmaalibjfjokeaa
theorem feedbackTakes_holds : Rows.FeedbackTakesSaid := feedbackTakes.proved
end Go.Proofs.Ytmaalibjfjokeaa
