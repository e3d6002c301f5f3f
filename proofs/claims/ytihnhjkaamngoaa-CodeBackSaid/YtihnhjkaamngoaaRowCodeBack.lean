/- Any numbers and texts that are put one behind the other are taken as they were, and nothing is left. (P7.1, P7.2, P7.4) -/
import Derived.Test.YtihnhjkaamngoaaRows
import Derived.Test.YtihnhjkaamngoaaCodeBH
import Derived.Test.YtihnhjkaamngoaaAbsWs
import Derived.WalkKit
import Derived.ProofKit
import Derived.OpenShut
import Derived.ShutString
import Derived.ChangeOld
import Derived.Below
import Derived.SizedLaws
import Derived.Carry
set_option linter.unusedVariables false
namespace Go.Proofs.Ytihnhjkaamngoaa.codeBack
open Go.ChangeShapes Go.WideShapes Go.ChangeAt Go.RowKit
open Go.ChangeMaps (open_string shut_string)
theorem own : ownKnob Try.prog.godebug = none := by kernel_rfl
theorem laid : laidOutB Try.prog = true := by kernel_rfl
def S0 : Go.Abs.PS := .int .i64
theorem ok0 : Go.Abs.psOk Try.prog 2 S0 = true := by kernel_rfl
theorem rec0 : Try.prog.readableRec 52 = true := by kernel_rfl
theorem und0 : Try.prog.underlying 52 = some (.slice 2) := by kernel_rfl
theorem siz0 : Try.prog.cellsOf 2 = S0.size := by kernel_rfl
def S1 : Go.Abs.PS := .str
theorem ok1 : Go.Abs.psOk Try.prog 9 S1 = true := by kernel_rfl
theorem rec1 : Try.prog.readableRec 9 = true := by kernel_rfl
set_option maxRecDepth 100000 in
theorem lifted (os : Os) (started : os.Started) (H : Type) (enc : TypeId × Value → H) :
    ReturnsInHanded {} Try.checked os 6 .any (Rows.codeBackSpec.pre6 enc Try.prog Try.f6 Rows.codeBackRow.domain false) (Rows.codeBackSpec.post enc Try.prog Try.f6 false true false false) := by
  refine returnsInHanded_of_change_sized (C := Try.checked) own started (by kernel_rfl) Try.func6
    (ChangeSpec.witness6 (enc := enc) (C := Try.checked) false ⟨#[], #[.slice none 0 0, .string ByteArray.empty], []⟩ 8 (by kernel_rfl) (by kernel_rfl) (by kernel_rfl) (by kernel_rfl)) ?_
  intro W base args ds gs before hval0 hW hcnd hsz0 _
  have hval : ∀ (j : Nat) t v, Try.f6.params[j]? = some t → args[j]? = some v → Value.okWide Try.prog W .any base t v := hval0
  have hW' := hW
  obtain ⟨p, q, hA0, hV, rfl, hfz, hnd⟩ := hW
  have hA : DataW.TrodAll enc Try.prog W 0 (fun _ => true) true Try.f6.params.toList args.toList ds p := hA0
  rw [Try.params6] at hA hval
  obtain ⟨v0, vs0, d0, ds0, p0, q0, hargs, rfl, rfl, h0, r0⟩ := trodAll_cons hA
  obtain ⟨v1, vs1, d1, ds1, p1, q1, rfl, rfl, rfl, h1, r1⟩ := trodAll_cons r0
  obtain ⟨rfl, rfl, rfl⟩ := trodAll_nil r1
  obtain rfl : args = #[v0, v1] := by cases args; simp_all
  obtain ⟨rfl, rfl⟩ := trodVars_none hV
  have k0 : ∀ x ∈ p0, x.block < W.heap.size := fun x hx => hW'.lt x (by simp [hx])
  have c0 := h0
  obtain ⟨l0, L0, rfl, B0, w1000⟩ := Go.Abs.open_slv und0 ok0 (by decide) siz0 (hval 0 52 v0 rfl rfl) h0
  have k1 : ∀ x ∈ p1, x.block < W.heap.size := fun x hx => hW'.lt x (by simp [hx])
  have c1 := h1
  obtain ⟨c_1, rfl, g1, hp1⟩ := Go.Abs.open_ps ok1 (hval 1 9 v1 rfl rfl) h1
  obtain ⟨a0, rfl, rfl, w0⟩ := g1
  clear hA0 hval0 hsz0
  refine (Go.Abs.ACalls.walkR (os := [(Go.Abs.rowO S0.ck l0, L0)]) (Code.law_back l0 a0 w1000 w0) (fun σ => rfl) (fun p hp => by simp only [List.mem_cons, List.not_mem_nil, or_false] at hp; rcases hp with rfl <;> first | exact (Go.Abs.rowO_spec (Go.Abs.sgOf []) S0.ck l0).2.2.2.1) (fun p hp σ => by simp only [List.mem_cons, List.not_mem_nil, or_false] at hp; rcases hp with rfl <;> first | exact B0 σ) (fun p hp σ => by simp only [List.mem_cons, List.not_mem_nil, or_false] at hp; rcases hp with rfl <;> first | exact (Go.Abs.rowO_spec σ S0.ck l0).2.2.2.2.2) #[.slice (L0.base 0) (L0.len / S0.size) (L0.cap / S0.size), .string a0] rfl ⟨⟨(show (0 : Nat) < 1 from by decide), by decide⟩, trivial, trivial⟩).mono fun e W' ⟨he, bel⟩ => ?_
  subst he
  exact ⟨_, rfl, _, _, _, [], _, [], hW', trodAll_mk1 (shut_bool Try.underlying4 _), (trodAll_cons_mk (Below.trod laid rec0 (of_decide_eq_true (by kernel_rfl)) c0 bel k0) (trodAll_cons_mk (Below.trod laid rec1 (of_decide_eq_true (by kernel_rfl)) c1 bel k1) trodAll_mk0)), rfl, bel.frame _, fun h => by cases h⟩
theorem over : Rows.codeBackRow.holds Try.pinned (OpenSpec.ofChange Rows.codeBackSpec) :=
  OpenClaim.holds_of_wide 6 Try.f6 rfl rfl rfl rfl rfl rfl rfl ⟨rfl, rfl, rfl, rfl, rfl⟩ rfl rfl rfl rfl rfl (by kernel_rfl) Try.func6 (by kernel_rfl)
    (of_decide_eq_true (by kernel_rfl)) (by unfold Func.isWrapper; first | (rw [if_pos (by decide +kernel)]; kernel_rfl) | (rw [if_neg (by decide +kernel)]; exact ⟨rfl, rfl⟩))
    (fun os started H enc _ => lifted os started H enc)
theorem proved : Rows.CodeBackSaid := over
end Go.Proofs.Ytihnhjkaamngoaa.codeBack
namespace Go.Proofs.Ytihnhjkaamngoaa
theorem codeBack_holds : Rows.CodeBackSaid := codeBack.proved
end Go.Proofs.Ytihnhjkaamngoaa
