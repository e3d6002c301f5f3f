/- Of any row the first items are taken out, and then those that are not to stay, and the others stay in order; what was told as a list stays as it was. (P5.4) -/
import Derived.Test.YtiblodkkjibcoaaRows
import Derived.Test.YtiblodkkjibcoaaRgH
import Derived.Test.YtiblodkkjibcoaaAbsWs
import Derived.WalkKit
import Derived.ProofKit
import Derived.OpenShut
import Derived.ShutString
import Derived.ChangeOld
import Derived.Below
import Derived.SizedLaws
import Derived.Carry
set_option linter.unusedVariables false
namespace Go.Proofs.Ytiblodkkjibcoaa.ringKeeps
open Go.ChangeShapes Go.WideShapes Go.ChangeAt Go.RowKit
open Go.ChangeMaps (open_string shut_string)
theorem own : ownKnob Try.prog.godebug = none := by kernel_rfl
theorem laid : laidOutB Try.prog = true := by kernel_rfl
def S0 : Go.Abs.PS := .int .i64
theorem ok0 : Go.Abs.psOk Try.prog 2 S0 = true := by kernel_rfl
theorem rec0 : Try.prog.readableRec 25 = true := by kernel_rfl
theorem und0 : Try.prog.underlying 25 = some (.slice 2) := by kernel_rfl
theorem siz0 : Try.prog.cellsOf 2 = S0.size := by kernel_rfl
def S1 : Go.Abs.PS := .int .i64
theorem ok1 : Go.Abs.psOk Try.prog 3 S1 = true := by kernel_rfl
theorem rec1 : Try.prog.readableRec 3 = true := by kernel_rfl
def S2 : Go.Abs.PS := .int .u8
theorem ok2 : Go.Abs.psOk Try.prog 5 S2 = true := by kernel_rfl
theorem rec2 : Try.prog.readableRec 5 = true := by kernel_rfl
set_option maxRecDepth 100000 in
theorem lifted (os : Os) (started : os.Started) (H : Type) (enc : TypeId × Value → H) :
    ReturnsInHanded {} Try.checked os 5 .any (Rows.ringKeepsSpec.pre6 enc Try.prog Try.f5 Rows.ringKeepsRow.domain false) (Rows.ringKeepsSpec.post enc Try.prog Try.f5 false true false false) := by
  refine returnsInHanded_of_change_sized (C := Try.checked) own started (by kernel_rfl) Try.func5
    (ChangeSpec.witness6 (enc := enc) (C := Try.checked) false ⟨#[], #[.slice none 0 0, .int .i64 0, .int .u8 0], []⟩ 8 (by kernel_rfl) (by kernel_rfl) (by kernel_rfl) (by kernel_rfl)) ?_
  intro W base args ds gs before hval0 hW hcnd hsz0 _
  have hval : ∀ (j : Nat) t v, Try.f5.params[j]? = some t → args[j]? = some v → Value.okWide Try.prog W .any base t v := hval0
  have hW' := hW
  obtain ⟨p, q, hA0, hV, rfl, hfz, hnd⟩ := hW
  have hA : DataW.TrodAll enc Try.prog W 0 (fun _ => true) true Try.f5.params.toList args.toList ds p := hA0
  rw [Try.params5] at hA hval
  obtain ⟨v0, vs0, d0, ds0, p0, q0, hargs, rfl, rfl, h0, r0⟩ := trodAll_cons hA
  obtain ⟨v1, vs1, d1, ds1, p1, q1, rfl, rfl, rfl, h1, r1⟩ := trodAll_cons r0
  obtain ⟨v2, vs2, d2, ds2, p2, q2, rfl, rfl, rfl, h2, r2⟩ := trodAll_cons r1
  obtain ⟨rfl, rfl, rfl⟩ := trodAll_nil r2
  obtain rfl : args = #[v0, v1, v2] := by cases args; simp_all
  obtain ⟨rfl, rfl⟩ := trodVars_none hV
  have k0 : ∀ x ∈ p0, x.block < W.heap.size := fun x hx => hW'.lt x (by simp [hx])
  have c0 := h0
  obtain ⟨l0, L0, rfl, B0, w1000⟩ := Go.Abs.open_slv und0 ok0 (by decide) siz0 (hval 0 25 v0 rfl rfl) h0
  have k1 : ∀ x ∈ p1, x.block < W.heap.size := fun x hx => hW'.lt x (by simp [hx])
  have c1 := h1
  obtain ⟨c_1, rfl, g1, hp1⟩ := Go.Abs.open_ps ok1 (hval 1 3 v1 rfl rfl) h1
  obtain ⟨a0, rfl, rfl, w0⟩ := g1
  have k2 : ∀ x ∈ p2, x.block < W.heap.size := fun x hx => hW'.lt x (by simp [hx])
  have c2 := h2
  obtain ⟨c_2, rfl, g2, hp2⟩ := Go.Abs.open_ps ok2 (hval 2 5 v2 rfl rfl) h2
  obtain ⟨a1, rfl, rfl, w1⟩ := g2
  clear hA0 hval0 hsz0
  refine (Go.Abs.ACalls.walkR (ham := fun x hx => absurd hx (by simp [Go.Abs.amb])) (os := [(Go.Abs.rowO S0.ck l0, L0)]) (Ring.law_ringKeeps l0 a0 a1 w1000 w0 w1) (fun σ => rfl) (fun p hp => by simp only [List.mem_cons, List.not_mem_nil, or_false] at hp; rcases hp with rfl <;> first | exact (Go.Abs.rowO_spec (Go.Abs.sgOf []) S0.ck l0).2.2.2.1) (fun p hp σ => by simp only [List.mem_cons, List.not_mem_nil, or_false] at hp; rcases hp with rfl <;> first | exact B0 σ) (fun p hp σ => by simp only [List.mem_cons, List.not_mem_nil, or_false] at hp; rcases hp with rfl <;> first | exact (Go.Abs.rowO_spec σ S0.ck l0).2.2.2.2.2) #[.slice (L0.base 0) (L0.len / S0.size) (L0.cap / S0.size), .int .i64 a0, .int .u8 a1] rfl ⟨⟨(show (0 : Nat) < 1 from by decide), by decide⟩, trivial, trivial, trivial⟩).mono fun e W' ⟨he, bel⟩ => ?_
  subst he
  exact ⟨_, rfl, _, _, _, [], _, [], hW', trodAll_mk1 (shut_bool Try.underlying4 _), (trodAll_cons_mk (Below.trod laid rec0 (of_decide_eq_true (by kernel_rfl)) c0 bel k0) (trodAll_cons_mk (Below.trod laid rec1 (of_decide_eq_true (by kernel_rfl)) c1 bel k1) (trodAll_cons_mk (Below.trod laid rec2 (of_decide_eq_true (by kernel_rfl)) c2 bel k2) trodAll_mk0))), rfl, bel.frame _, fun h => by cases h⟩
theorem over : Rows.ringKeepsRow.holds Try.pinned (OpenSpec.ofChange Rows.ringKeepsSpec) :=
  OpenClaim.holds_of_wide 5 Try.f5 rfl rfl rfl rfl rfl rfl rfl ⟨rfl, rfl, rfl, rfl, rfl⟩ rfl rfl rfl rfl rfl (by kernel_rfl) Try.func5 (by kernel_rfl)
    (of_decide_eq_true (by kernel_rfl)) (by unfold Func.isWrapper; first | (rw [if_pos (by decide +kernel)]; kernel_rfl) | (rw [if_neg (by decide +kernel)]; exact ⟨rfl, rfl⟩))
    (fun os started H enc _ => lifted os started H enc)
theorem proved : Rows.RingKeepsSaid := over
end Go.Proofs.Ytiblodkkjibcoaa.ringKeeps
namespace Go.Proofs.Ytiblodkkjibcoaa
theorem ringKeeps_holds : Rows.RingKeepsSaid := ringKeeps.proved
end Go.Proofs.Ytiblodkkjibcoaa
