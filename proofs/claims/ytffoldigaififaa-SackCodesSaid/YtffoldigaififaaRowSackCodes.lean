/- Any ranges are the document's option, and any option its ranges; or their error is told. (P47.3) -/
import Derived.Test.YtffoldigaififaaRows
import Derived.Test.YtffoldigaififaaSkzD
import Derived.Test.YtffoldigaififaaAbsWx
import Derived.WalkKit
import Derived.ProofKit
import Derived.OpenShut
import Derived.ShutString
import Derived.ChangeOld
import Derived.Below
import Derived.SizedLaws
import Derived.Carry
set_option linter.unusedVariables false
namespace Go.Proofs.Ytffoldigaififaa.sackCodes
open Go.ChangeShapes Go.WideShapes Go.ChangeAt Go.RowKit
open Go.ChangeMaps (open_string shut_string)
theorem own : ownKnob Try.prog.godebug = none := by kernel_rfl
theorem laid : laidOutB Try.prog = true := by kernel_rfl
def S0 : Go.Abs.XS := .sl (.agg [.int .i64, .int .i64])
theorem ok0 : Go.Abs.xsOk Try.prog 28 S0 = true := by kernel_rfl
theorem rec0 : Try.prog.readableRec 28 = true := by kernel_rfl
def S1 : Go.Abs.XS := .agg [.int .i64, .sl (.int .u32), .str]
theorem ok1 : Go.Abs.xsOk Try.prog 67 S1 = true := by kernel_rfl
theorem rec1 : Try.prog.readableRec 67 = true := by kernel_rfl
def S2 : Go.Abs.XS := .int .i64
theorem ok2 : Go.Abs.xsOk Try.prog 2 S2 = true := by kernel_rfl
theorem rec2 : Try.prog.readableRec 2 = true := by kernel_rfl
set_option maxRecDepth 100000 in
theorem lifted (os : Os) (started : os.Started) (H : Type) (enc : TypeId × Value → H) :
    ReturnsInHanded {} Try.checked os 6 .any (Rows.sackCodesSpec.pre6 enc Try.prog Try.f6 Rows.sackCodesRow.domain false) (Rows.sackCodesSpec.post enc Try.prog Try.f6 false true false false) := by
  refine returnsInHanded_of_change_sized (C := Try.checked) own started (by kernel_rfl) Try.func6
    (ChangeSpec.witness6 (enc := enc) (C := Try.checked) false ⟨#[], #[.slice none 0 0, .agg #[.int .i64 0, .slice none 0 0, .string ByteArray.empty], .int .i64 0], []⟩ 8 (by kernel_rfl) (by kernel_rfl) (by kernel_rfl) (by kernel_rfl)) ?_
  intro W base args ds gs before hval0 hW hcnd hsz0 _
  have hval : ∀ (j : Nat) t v, Try.f6.params[j]? = some t → args[j]? = some v → Value.okWide Try.prog W .any base t v := hval0
  have hW' := hW
  obtain ⟨p, q, hA0, hV, rfl, hfz, hnd⟩ := hW
  have hA : DataW.TrodAll enc Try.prog W 0 (fun _ => true) true Try.f6.params.toList args.toList ds p := hA0
  rw [Try.params6] at hA hval
  obtain ⟨v0, vs0, d0, ds0, p0, q0, hargs, rfl, rfl, h0, r0⟩ := trodAll_cons hA
  obtain ⟨v1, vs1, d1, ds1, p1, q1, rfl, rfl, rfl, h1, r1⟩ := trodAll_cons r0
  obtain ⟨v2, vs2, d2, ds2, p2, q2, rfl, rfl, rfl, h2, r2⟩ := trodAll_cons r1
  obtain ⟨rfl, rfl, rfl⟩ := trodAll_nil r2
  obtain rfl : args = #[v0, v1, v2] := by cases args; simp_all
  obtain ⟨rfl, rfl⟩ := trodVars_none hV
  have k0 : ∀ x ∈ p0, x.block < W.heap.size := fun x hx => hW'.lt x (by simp [hx])
  have c0 := h0
  obtain ⟨c_0, rfl, g0⟩ := Go.Abs.open_xs ok0 (hval 0 28 v0 rfl rfl) h0
  obtain ⟨l0, L0, rfl, B0, w0⟩ := g0
  have k1 : ∀ x ∈ p1, x.block < W.heap.size := fun x hx => hW'.lt x (by simp [hx])
  have c1 := h1
  obtain ⟨c_1, rfl, g1⟩ := Go.Abs.open_xs ok1 (hval 1 67 v1 rfl rfl) h1
  obtain ⟨_, _, rfl, ⟨a1, rfl, w1⟩, ⟨_, _, rfl, ⟨l2, L2, rfl, B2, w2⟩, ⟨_, _, rfl, ⟨a3, rfl, w3⟩, rfl⟩⟩⟩ := g1
  have k2 : ∀ x ∈ p2, x.block < W.heap.size := fun x hx => hW'.lt x (by simp [hx])
  have c2 := h2
  obtain ⟨c_2, rfl, g2⟩ := Go.Abs.open_xs ok2 (hval 2 2 v2 rfl rfl) h2
  obtain ⟨a4, rfl, w4⟩ := g2
  clear hA0 hval0 hsz0
  refine (Go.Abs.ACalls.walkR (ham := fun x hx => absurd hx (by simp [Go.Abs.amb])) (os := [(Go.Abs.rowO (.agg [.int .i64, .int .i64] : Go.Abs.PS).ck l0, L0), (Go.Abs.rowO (.int .u32 : Go.Abs.PS).ck l2, L2)]) (Sk.law_codes l0 a1 l2 a3 a4 w0 w1 w2 w3 w4) (fun σ => rfl) (fun p hp => by simp only [List.mem_cons, List.not_mem_nil, or_false] at hp; rcases hp with rfl | rfl <;> first | exact (Go.Abs.rowO_spec (Go.Abs.sgOf []) (.agg [.int .i64, .int .i64] : Go.Abs.PS).ck l0).2.2.2.1 | exact (Go.Abs.rowO_spec (Go.Abs.sgOf []) (.int .u32 : Go.Abs.PS).ck l2).2.2.2.1) (fun p hp σ => by simp only [List.mem_cons, List.not_mem_nil, or_false] at hp; rcases hp with rfl | rfl <;> first | exact B0 σ | exact B2 σ) (fun p hp σ => by simp only [List.mem_cons, List.not_mem_nil, or_false] at hp; rcases hp with rfl | rfl <;> first | exact (Go.Abs.rowO_spec σ (.agg [.int .i64, .int .i64] : Go.Abs.PS).ck l0).2.2.2.2.2 | exact (Go.Abs.rowO_spec σ (.int .u32 : Go.Abs.PS).ck l2).2.2.2.2.2) #[.slice (L0.base 0) (L0.len / (.agg [.int .i64, .int .i64] : Go.Abs.PS).size) (L0.cap / (.agg [.int .i64, .int .i64] : Go.Abs.PS).size), .agg #[.int .i64 a1, .slice (L2.base 0) (L2.len / (.int .u32 : Go.Abs.PS).size) (L2.cap / (.int .u32 : Go.Abs.PS).size), .string a3], .int .i64 a4] rfl ⟨⟨(show (0 : Nat) < 2 from by decide), by decide⟩, ⟨trivial, ⟨(show (1 : Nat) < 2 from by decide), by decide⟩, trivial, trivial⟩, trivial, trivial⟩).mono fun e W' ⟨he, bel⟩ => ?_
  subst he
  exact ⟨_, rfl, _, _, _, [], _, [], hW', trodAll_mk1 (shut_bool Try.underlying4 _), (trodAll_cons_mk (Below.trod laid rec0 (of_decide_eq_true (by kernel_rfl)) c0 bel k0) (trodAll_cons_mk (Below.trod laid rec1 (of_decide_eq_true (by kernel_rfl)) c1 bel k1) (trodAll_cons_mk (Below.trod laid rec2 (of_decide_eq_true (by kernel_rfl)) c2 bel k2) trodAll_mk0))), rfl, bel.frame _, fun h => by cases h⟩
theorem over : Rows.sackCodesRow.holds Try.pinned (OpenSpec.ofChange Rows.sackCodesSpec) :=
  OpenClaim.holds_of_wide 6 Try.f6 rfl rfl rfl rfl rfl rfl rfl ⟨rfl, rfl, rfl, rfl, rfl⟩ rfl rfl rfl rfl rfl (by kernel_rfl) Try.func6 (by kernel_rfl)
    (of_decide_eq_true (by kernel_rfl)) (by unfold Func.isWrapper; first | (rw [if_pos (by decide +kernel)]; kernel_rfl) | (rw [if_neg (by decide +kernel)]; exact ⟨rfl, rfl⟩))
    (fun os started H enc _ => lifted os started H enc)
theorem proved : Rows.SackCodesSaid := over
end Go.Proofs.Ytffoldigaififaa.sackCodes
namespace Go.Proofs.Ytffoldigaififaa
theorem sackCodes_holds : Rows.SackCodesSaid := sackCodes.proved
end Go.Proofs.Ytffoldigaififaa
