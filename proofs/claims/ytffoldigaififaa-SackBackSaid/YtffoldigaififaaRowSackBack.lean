/- What is written is read as it was, of a last that is not far. (P47.3, P47.8) -/
import Derived.Test.YtffoldigaififaaRows
import Derived.Test.YtffoldigaififaaSkzE
import Derived.Test.YtffoldigaififaaAbsWx
import Derived.WalkKit
import Derived.ProofKit
import Derived.OpenShut
import Derived.ShutString
import Derived.ChangeOld
import Derived.Below
import Derived.SizedLaws
import Derived.Carry
set_option linter.unusedVariables false
namespace Go.Proofs.Ytffoldigaififaa.sackBack
open Go.ChangeShapes Go.WideShapes Go.ChangeAt Go.RowKit
open Go.ChangeMaps (open_string shut_string)
theorem own : ownKnob Try.prog.godebug = none := by kernel_rfl
theorem laid : laidOutB Try.prog = true := by kernel_rfl
def S0 : Go.Abs.XS := .sl (.agg [.int .i64, .int .i64])
theorem ok0 : Go.Abs.xsOk Try.prog 28 S0 = true := by kernel_rfl
theorem rec0 : Try.prog.readableRec 28 = true := by kernel_rfl
def S1 : Go.Abs.XS := .int .i32
theorem ok1 : Go.Abs.xsOk Try.prog 21 S1 = true := by kernel_rfl
theorem rec1 : Try.prog.readableRec 21 = true := by kernel_rfl
set_option maxRecDepth 100000 in
theorem lifted (os : Os) (started : os.Started) (H : Type) (enc : TypeId × Value → H) :
    ReturnsInHanded {} Try.checked os 7 .any (Rows.sackBackSpec.pre6 enc Try.prog Try.f7 Rows.sackBackRow.domain false) (Rows.sackBackSpec.post enc Try.prog Try.f7 false true false false) := by
  refine returnsInHanded_of_change_sized (C := Try.checked) own started (by kernel_rfl) Try.func7
    (ChangeSpec.witness6 (enc := enc) (C := Try.checked) false ⟨#[], #[.slice none 0 0, .int .i32 0], []⟩ 8 (by kernel_rfl) (by kernel_rfl) (by kernel_rfl) (by kernel_rfl)) ?_
  intro W base args ds gs before hval0 hW hcnd hsz0 _
  have hval : ∀ (j : Nat) t v, Try.f7.params[j]? = some t → args[j]? = some v → Value.okWide Try.prog W .any base t v := hval0
  have hW' := hW
  obtain ⟨p, q, hA0, hV, rfl, hfz, hnd⟩ := hW
  have hA : DataW.TrodAll enc Try.prog W 0 (fun _ => true) true Try.f7.params.toList args.toList ds p := hA0
  rw [Try.params7] at hA hval
  obtain ⟨v0, vs0, d0, ds0, p0, q0, hargs, rfl, rfl, h0, r0⟩ := trodAll_cons hA
  obtain ⟨v1, vs1, d1, ds1, p1, q1, rfl, rfl, rfl, h1, r1⟩ := trodAll_cons r0
  obtain ⟨rfl, rfl, rfl⟩ := trodAll_nil r1
  obtain rfl : args = #[v0, v1] := by cases args; simp_all
  obtain ⟨rfl, rfl⟩ := trodVars_none hV
  have k0 : ∀ x ∈ p0, x.block < W.heap.size := fun x hx => hW'.lt x (by simp [hx])
  have c0 := h0
  obtain ⟨c_0, rfl, g0⟩ := Go.Abs.open_xs ok0 (hval 0 28 v0 rfl rfl) h0
  obtain ⟨l0, L0, rfl, B0, w0⟩ := g0
  have k1 : ∀ x ∈ p1, x.block < W.heap.size := fun x hx => hW'.lt x (by simp [hx])
  have c1 := h1
  obtain ⟨c_1, rfl, g1⟩ := Go.Abs.open_xs ok1 (hval 1 21 v1 rfl rfl) h1
  obtain ⟨a1, rfl, w1⟩ := g1
  clear hA0 hval0 hsz0
  refine (Go.Abs.ACalls.walkR (ham := fun x hx => absurd hx (by simp [Go.Abs.amb])) (os := [(Go.Abs.rowO (.agg [.int .i64, .int .i64] : Go.Abs.PS).ck l0, L0)]) (Sk.law_back l0 a1 w0 w1) (fun σ => rfl) (fun p hp => by simp only [List.mem_cons, List.not_mem_nil, or_false] at hp; rcases hp with rfl <;> first | exact (Go.Abs.rowO_spec (Go.Abs.sgOf []) (.agg [.int .i64, .int .i64] : Go.Abs.PS).ck l0).2.2.2.1) (fun p hp σ => by simp only [List.mem_cons, List.not_mem_nil, or_false] at hp; rcases hp with rfl <;> first | exact B0 σ) (fun p hp σ => by simp only [List.mem_cons, List.not_mem_nil, or_false] at hp; rcases hp with rfl <;> first | exact (Go.Abs.rowO_spec σ (.agg [.int .i64, .int .i64] : Go.Abs.PS).ck l0).2.2.2.2.2) #[.slice (L0.base 0) (L0.len / (.agg [.int .i64, .int .i64] : Go.Abs.PS).size) (L0.cap / (.agg [.int .i64, .int .i64] : Go.Abs.PS).size), .int .i32 a1] rfl ⟨⟨(show (0 : Nat) < 1 from by decide), by decide⟩, trivial, trivial⟩).mono fun e W' ⟨he, bel⟩ => ?_
  subst he
  exact ⟨_, rfl, _, _, _, [], _, [], hW', trodAll_mk1 (shut_bool Try.underlying4 _), (trodAll_cons_mk (Below.trod laid rec0 (of_decide_eq_true (by kernel_rfl)) c0 bel k0) (trodAll_cons_mk (Below.trod laid rec1 (of_decide_eq_true (by kernel_rfl)) c1 bel k1) trodAll_mk0)), rfl, bel.frame _, fun h => by cases h⟩
theorem over : Rows.sackBackRow.holds Try.pinned (OpenSpec.ofChange Rows.sackBackSpec) :=
  OpenClaim.holds_of_wide 7 Try.f7 rfl rfl rfl rfl rfl rfl rfl ⟨rfl, rfl, rfl, rfl, rfl⟩ rfl rfl rfl rfl rfl (by kernel_rfl) Try.func7 (by kernel_rfl)
    (of_decide_eq_true (by kernel_rfl)) (by unfold Func.isWrapper; first | (rw [if_pos (by decide +kernel)]; kernel_rfl) | (rw [if_neg (by decide +kernel)]; exact ⟨rfl, rfl⟩))
    (fun os started H enc _ => lifted os started H enc)
theorem proved : Rows.SackBackSaid := over
end Go.Proofs.Ytffoldigaififaa.sackBack
namespace Go.Proofs.Ytffoldigaififaa
theorem sackBack_holds : Rows.SackBackSaid := sackBack.proved
end Go.Proofs.Ytffoldigaififaa
