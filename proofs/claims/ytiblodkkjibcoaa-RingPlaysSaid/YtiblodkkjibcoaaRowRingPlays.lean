/- Behind any pushes and pops a row of any length has the document's items, and each was answered as it says. (P5.1, P5.2) -/
import Derived.Test.YtiblodkkjibcoaaRows
import Derived.Test.YtiblodkkjibcoaaRingPH
import Derived.Test.YtiblodkkjibcoaaAbsWs
import Derived.WalkKit
import Derived.ProofKit
import Derived.OpenShut
import Derived.ShutString
import Derived.ChangeOld
import Derived.Below
import Derived.SizedLaws
import Derived.Carry
set_option linter.unusedVariables false
namespace Go.Proofs.Ytiblodkkjibcoaa.ringPlays
open Go.ChangeShapes Go.WideShapes Go.ChangeAt Go.RowKit
open Go.ChangeMaps (open_string shut_string)
theorem own : ownKnob Try.prog.godebug = none := by kernel_rfl
theorem laid : laidOutB Try.prog = true := by kernel_rfl
def S0 : Go.Abs.PS := .int .i64
theorem ok0 : Go.Abs.psOk Try.prog 3 S0 = true := by kernel_rfl
theorem rec0 : Try.prog.readableRec 3 = true := by kernel_rfl
def S1 : Go.Abs.PS := .agg [.bool, .int .i64]
theorem ok1 : Go.Abs.psOk Try.prog 30 S1 = true := by kernel_rfl
theorem rec1 : Try.prog.readableRec 22 = true := by kernel_rfl
theorem und1 : Try.prog.underlying 22 = some (.slice 30) := by kernel_rfl
theorem siz1 : Try.prog.cellsOf 30 = S1.size := by kernel_rfl
set_option maxRecDepth 100000 in
theorem lifted (os : Os) (started : os.Started) (H : Type) (enc : TypeId × Value → H) :
    ReturnsInHanded {} Try.checked os 3 .any (Rows.ringPlaysSpec.pre6 enc Try.prog Try.f3 Rows.ringPlaysRow.domain false) (Rows.ringPlaysSpec.post enc Try.prog Try.f3 false true false false) := by
  refine returnsInHanded_of_change_sized (C := Try.checked) own started (by kernel_rfl) Try.func3
    (ChangeSpec.witness6 (enc := enc) (C := Try.checked) false ⟨#[], #[.int .i64 0, .slice none 0 0], []⟩ 8 (by kernel_rfl) (by kernel_rfl) (by kernel_rfl) (by kernel_rfl)) ?_
  intro W base args ds gs before hval0 hW hcnd hsz0 _
  have hval : ∀ (j : Nat) t v, Try.f3.params[j]? = some t → args[j]? = some v → Value.okWide Try.prog W .any base t v := hval0
  have hW' := hW
  obtain ⟨p, q, hA0, hV, rfl, hfz, hnd⟩ := hW
  have hA : DataW.TrodAll enc Try.prog W 0 (fun _ => true) true Try.f3.params.toList args.toList ds p := hA0
  rw [Try.params3] at hA hval
  obtain ⟨v0, vs0, d0, ds0, p0, q0, hargs, rfl, rfl, h0, r0⟩ := trodAll_cons hA
  obtain ⟨v1, vs1, d1, ds1, p1, q1, rfl, rfl, rfl, h1, r1⟩ := trodAll_cons r0
  obtain ⟨rfl, rfl, rfl⟩ := trodAll_nil r1
  obtain rfl : args = #[v0, v1] := by cases args; simp_all
  obtain ⟨rfl, rfl⟩ := trodVars_none hV
  have k0 : ∀ x ∈ p0, x.block < W.heap.size := fun x hx => hW'.lt x (by simp [hx])
  have c0 := h0
  obtain ⟨c_0, rfl, g0, hp0⟩ := Go.Abs.open_ps ok0 (hval 0 3 v0 rfl rfl) h0
  obtain ⟨a0, rfl, rfl, w0⟩ := g0
  have k1 : ∀ x ∈ p1, x.block < W.heap.size := fun x hx => hW'.lt x (by simp [hx])
  have c1 := h1
  obtain ⟨l1, L1, rfl, B1, w1001⟩ := Go.Abs.open_slv und1 ok1 (by decide) siz1 (hval 1 22 v1 rfl rfl) h1
  clear hA0 hval0 hsz0
  refine (Go.Abs.ACalls.walkR (os := [(Go.Abs.rowO S1.ck l1, L1)]) (Ring.law_plays a0 l1 w0 w1001) (fun σ => rfl) (fun p hp => by simp only [List.mem_cons, List.not_mem_nil, or_false] at hp; rcases hp with rfl <;> first | exact (Go.Abs.rowO_spec (Go.Abs.sgOf []) S1.ck l1).2.2.2.1) (fun p hp σ => by simp only [List.mem_cons, List.not_mem_nil, or_false] at hp; rcases hp with rfl <;> first | exact B1 σ) (fun p hp σ => by simp only [List.mem_cons, List.not_mem_nil, or_false] at hp; rcases hp with rfl <;> first | exact (Go.Abs.rowO_spec σ S1.ck l1).2.2.2.2.2) #[.int .i64 a0, .slice (L1.base 0) (L1.len / S1.size) (L1.cap / S1.size)] rfl ⟨trivial, ⟨(show (0 : Nat) < 1 from by decide), by decide⟩, trivial⟩).mono fun e W' ⟨he, bel⟩ => ?_
  subst he
  exact ⟨_, rfl, _, _, _, [], _, [], hW', trodAll_mk1 (shut_bool Try.underlying4 _), (trodAll_cons_mk (Below.trod laid rec0 (of_decide_eq_true (by kernel_rfl)) c0 bel k0) (trodAll_cons_mk (Below.trod laid rec1 (of_decide_eq_true (by kernel_rfl)) c1 bel k1) trodAll_mk0)), rfl, bel.frame _, fun h => by cases h⟩
theorem over : Rows.ringPlaysRow.holds Try.pinned (OpenSpec.ofChange Rows.ringPlaysSpec) :=
  OpenClaim.holds_of_wide 3 Try.f3 rfl rfl rfl rfl rfl rfl rfl ⟨rfl, rfl, rfl, rfl, rfl⟩ rfl rfl rfl rfl rfl (by kernel_rfl) Try.func3 (by kernel_rfl)
    (of_decide_eq_true (by kernel_rfl)) (by unfold Func.isWrapper; first | (rw [if_pos (by decide +kernel)]; kernel_rfl) | (rw [if_neg (by decide +kernel)]; exact ⟨rfl, rfl⟩))
    (fun os started H enc _ => lifted os started H enc)
theorem proved : Rows.RingPlaysSaid := over
end Go.Proofs.Ytiblodkkjibcoaa.ringPlays
namespace Go.Proofs.Ytiblodkkjibcoaa
theorem ringPlays_holds : Rows.RingPlaysSaid := ringPlays.proved
end Go.Proofs.Ytiblodkkjibcoaa
