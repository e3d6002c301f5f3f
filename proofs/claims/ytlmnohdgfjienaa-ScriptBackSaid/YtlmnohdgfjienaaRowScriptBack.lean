/- What is encoded is decoded as it was; what is decoded is encoded to the same bytes. (P40.1 to P40.3) -/
import Derived.Test.YtlmnohdgfjienaaRows
import Derived.Test.YtlmnohdgfjienaaSnE
import Derived.Test.YtlmnohdgfjienaaAbsWx
import Derived.WalkKit
import Derived.ProofKit
import Derived.OpenShut
import Derived.ShutString
import Derived.ChangeOld
import Derived.Below
import Derived.SizedLaws
import Derived.Carry
set_option linter.unusedVariables false
namespace Go.Proofs.Ytlmnohdgfjienaa.scriptBack
open Go.ChangeShapes Go.WideShapes Go.ChangeAt Go.RowKit
open Go.ChangeMaps (open_string shut_string)
theorem own : ownKnob Try.prog.godebug = none := by kernel_rfl
theorem laid : laidOutB Try.prog = true := by kernel_rfl
def S0 : Go.Abs.XS := .agg [.sl (.agg [.int .i64, .int .i64, .int .i64, .int .i64, .int .i64, .int .i64, .int .i64, .int .i64, .int .i64, .int .i64]), .sl (.int .i64), .int .i64, .agg [.int .i64, .int .i64, .int .i64, .int .i64, .int .i64, .int .i64, .int .i64, .int .i64], .sl (.int .i64), .sl (.int .u32), .int .i64, .int .i64]
theorem ok0 : Go.Abs.xsOk Try.prog 28 S0 = true := by kernel_rfl
theorem rec0 : Try.prog.readableRec 28 = true := by kernel_rfl
def S1 : Go.Abs.XS := .sl (.int .u8)
theorem ok1 : Go.Abs.xsOk Try.prog 31 S1 = true := by kernel_rfl
theorem rec1 : Try.prog.readableRec 31 = true := by kernel_rfl
set_option maxRecDepth 100000 in
theorem lifted (os : Os) (started : os.Started) (H : Type) (enc : TypeId × Value → H) :
    ReturnsInHanded {} Try.checked os 5 .any (Rows.scriptBackSpec.pre6 enc Try.prog Try.f5 Rows.scriptBackRow.domain false) (Rows.scriptBackSpec.post enc Try.prog Try.f5 false true false false) := by
  refine returnsInHanded_of_change_sized (C := Try.checked) own started (by kernel_rfl) Try.func5
    (ChangeSpec.witness6 (enc := enc) (C := Try.checked) false ⟨#[], #[.agg #[.slice none 0 0, .slice none 0 0, .int .i64 0, .int .i64 0, .int .i64 0, .int .i64 0, .int .i64 0, .int .i64 0, .int .i64 0, .int .i64 0, .int .i64 0, .slice none 0 0, .slice none 0 0, .int .i64 0, .int .i64 0], .slice none 0 0], []⟩ 8 (by kernel_rfl) (by kernel_rfl) (by kernel_rfl) (by kernel_rfl)) ?_
  intro W base args ds gs before hval0 hW hcnd hsz0 _
  have hval : ∀ (j : Nat) t v, Try.f5.params[j]? = some t → args[j]? = some v → Value.okWide Try.prog W .any base t v := hval0
  have hW' := hW
  obtain ⟨p, q, hA0, hV, rfl, hfz, hnd⟩ := hW
  have hA : DataW.TrodAll enc Try.prog W 0 (fun _ => true) true Try.f5.params.toList args.toList ds p := hA0
  rw [Try.params5] at hA hval
  obtain ⟨v0, vs0, d0, ds0, p0, q0, hargs, rfl, rfl, h0, r0⟩ := trodAll_cons hA
  obtain ⟨v1, vs1, d1, ds1, p1, q1, rfl, rfl, rfl, h1, r1⟩ := trodAll_cons r0
  obtain ⟨rfl, rfl, rfl⟩ := trodAll_nil r1
  obtain rfl : args = #[v0, v1] := by cases args; simp_all
  obtain ⟨rfl, rfl⟩ := trodVars_none hV
  have k0 : ∀ x ∈ p0, x.block < W.heap.size := fun x hx => hW'.lt x (by simp [hx])
  have c0 := h0
  obtain ⟨c_0, rfl, g0⟩ := Go.Abs.open_xs ok0 (hval 0 28 v0 rfl rfl) h0
  obtain ⟨_, _, rfl, ⟨l0, L0, rfl, B0, w0⟩, ⟨_, _, rfl, ⟨l1, L1, rfl, B1, w1⟩, ⟨_, _, rfl, ⟨a2, rfl, w2⟩, ⟨_, _, rfl, ⟨_, _, rfl, ⟨a3, rfl, w3⟩, ⟨_, _, rfl, ⟨a4, rfl, w4⟩, ⟨_, _, rfl, ⟨a5, rfl, w5⟩, ⟨_, _, rfl, ⟨a6, rfl, w6⟩, ⟨_, _, rfl, ⟨a7, rfl, w7⟩, ⟨_, _, rfl, ⟨a8, rfl, w8⟩, ⟨_, _, rfl, ⟨a9, rfl, w9⟩, ⟨_, _, rfl, ⟨a10, rfl, w10⟩, rfl⟩⟩⟩⟩⟩⟩⟩⟩, ⟨_, _, rfl, ⟨l11, L11, rfl, B11, w11⟩, ⟨_, _, rfl, ⟨l12, L12, rfl, B12, w12⟩, ⟨_, _, rfl, ⟨a13, rfl, w13⟩, ⟨_, _, rfl, ⟨a14, rfl, w14⟩, rfl⟩⟩⟩⟩⟩⟩⟩⟩ := g0
  have k1 : ∀ x ∈ p1, x.block < W.heap.size := fun x hx => hW'.lt x (by simp [hx])
  have c1 := h1
  obtain ⟨c_1, rfl, g1⟩ := Go.Abs.open_xs ok1 (hval 1 31 v1 rfl rfl) h1
  obtain ⟨l15, L15, rfl, B15, w15⟩ := g1
  clear hA0 hval0 hsz0
  refine (Go.Abs.ACalls.walkR (os := [(Go.Abs.rowO (.agg [.int .i64, .int .i64, .int .i64, .int .i64, .int .i64, .int .i64, .int .i64, .int .i64, .int .i64, .int .i64] : Go.Abs.PS).ck l0, L0), (Go.Abs.rowO (.int .i64 : Go.Abs.PS).ck l1, L1), (Go.Abs.rowO (.int .i64 : Go.Abs.PS).ck l11, L11), (Go.Abs.rowO (.int .u32 : Go.Abs.PS).ck l12, L12), (Go.Abs.rowO (.int .u8 : Go.Abs.PS).ck l15, L15)]) (Cf.law_back l0 l1 a2 a3 a4 a5 a6 a7 a8 a9 a10 l11 l12 a13 a14 l15 w0 w1 w2 w3 w4 w5 w6 w7 w8 w9 w10 w11 w12 w13 w14 w15) (fun σ => rfl) (fun p hp => by simp only [List.mem_cons, List.not_mem_nil, or_false] at hp; rcases hp with rfl | rfl | rfl | rfl | rfl <;> first | exact (Go.Abs.rowO_spec (Go.Abs.sgOf []) (.agg [.int .i64, .int .i64, .int .i64, .int .i64, .int .i64, .int .i64, .int .i64, .int .i64, .int .i64, .int .i64] : Go.Abs.PS).ck l0).2.2.2.1 | exact (Go.Abs.rowO_spec (Go.Abs.sgOf []) (.int .i64 : Go.Abs.PS).ck l1).2.2.2.1 | exact (Go.Abs.rowO_spec (Go.Abs.sgOf []) (.int .i64 : Go.Abs.PS).ck l11).2.2.2.1 | exact (Go.Abs.rowO_spec (Go.Abs.sgOf []) (.int .u32 : Go.Abs.PS).ck l12).2.2.2.1 | exact (Go.Abs.rowO_spec (Go.Abs.sgOf []) (.int .u8 : Go.Abs.PS).ck l15).2.2.2.1) (fun p hp σ => by simp only [List.mem_cons, List.not_mem_nil, or_false] at hp; rcases hp with rfl | rfl | rfl | rfl | rfl <;> first | exact B0 σ | exact B1 σ | exact B11 σ | exact B12 σ | exact B15 σ) (fun p hp σ => by simp only [List.mem_cons, List.not_mem_nil, or_false] at hp; rcases hp with rfl | rfl | rfl | rfl | rfl <;> first | exact (Go.Abs.rowO_spec σ (.agg [.int .i64, .int .i64, .int .i64, .int .i64, .int .i64, .int .i64, .int .i64, .int .i64, .int .i64, .int .i64] : Go.Abs.PS).ck l0).2.2.2.2.2 | exact (Go.Abs.rowO_spec σ (.int .i64 : Go.Abs.PS).ck l1).2.2.2.2.2 | exact (Go.Abs.rowO_spec σ (.int .i64 : Go.Abs.PS).ck l11).2.2.2.2.2 | exact (Go.Abs.rowO_spec σ (.int .u32 : Go.Abs.PS).ck l12).2.2.2.2.2 | exact (Go.Abs.rowO_spec σ (.int .u8 : Go.Abs.PS).ck l15).2.2.2.2.2) #[.agg #[.slice (L0.base 0) (L0.len / (.agg [.int .i64, .int .i64, .int .i64, .int .i64, .int .i64, .int .i64, .int .i64, .int .i64, .int .i64, .int .i64] : Go.Abs.PS).size) (L0.cap / (.agg [.int .i64, .int .i64, .int .i64, .int .i64, .int .i64, .int .i64, .int .i64, .int .i64, .int .i64, .int .i64] : Go.Abs.PS).size), .slice (L1.base 0) (L1.len / (.int .i64 : Go.Abs.PS).size) (L1.cap / (.int .i64 : Go.Abs.PS).size), .int .i64 a2, .int .i64 a3, .int .i64 a4, .int .i64 a5, .int .i64 a6, .int .i64 a7, .int .i64 a8, .int .i64 a9, .int .i64 a10, .slice (L11.base 0) (L11.len / (.int .i64 : Go.Abs.PS).size) (L11.cap / (.int .i64 : Go.Abs.PS).size), .slice (L12.base 0) (L12.len / (.int .u32 : Go.Abs.PS).size) (L12.cap / (.int .u32 : Go.Abs.PS).size), .int .i64 a13, .int .i64 a14], .slice (L15.base 0) (L15.len / (.int .u8 : Go.Abs.PS).size) (L15.cap / (.int .u8 : Go.Abs.PS).size)] rfl ⟨⟨⟨(show (0 : Nat) < 5 from by decide), by decide⟩, ⟨(show (1 : Nat) < 5 from by decide), by decide⟩, trivial, trivial, trivial, trivial, trivial, trivial, trivial, trivial, trivial, ⟨(show (2 : Nat) < 5 from by decide), by decide⟩, ⟨(show (3 : Nat) < 5 from by decide), by decide⟩, trivial, trivial, trivial⟩, ⟨(show (4 : Nat) < 5 from by decide), by decide⟩, trivial⟩).mono fun e W' ⟨he, bel⟩ => ?_
  subst he
  exact ⟨_, rfl, _, _, _, [], _, [], hW', trodAll_mk1 (shut_bool Try.underlying4 _), (trodAll_cons_mk (Below.trod laid rec0 (of_decide_eq_true (by kernel_rfl)) c0 bel k0) (trodAll_cons_mk (Below.trod laid rec1 (of_decide_eq_true (by kernel_rfl)) c1 bel k1) trodAll_mk0)), rfl, bel.frame _, fun h => by cases h⟩
theorem over : Rows.scriptBackRow.holds Try.pinned (OpenSpec.ofChange Rows.scriptBackSpec) :=
  OpenClaim.holds_of_wide 5 Try.f5 rfl rfl rfl rfl rfl rfl rfl ⟨rfl, rfl, rfl, rfl, rfl⟩ rfl rfl rfl rfl rfl (by kernel_rfl) Try.func5 (by kernel_rfl)
    (of_decide_eq_true (by kernel_rfl)) (by unfold Func.isWrapper; first | (rw [if_pos (by decide +kernel)]; kernel_rfl) | (rw [if_neg (by decide +kernel)]; exact ⟨rfl, rfl⟩))
    (fun os started H enc _ => lifted os started H enc)
theorem proved : Rows.ScriptBackSaid := over
end Go.Proofs.Ytlmnohdgfjienaa.scriptBack
namespace Go.Proofs.Ytlmnohdgfjienaa
theorem scriptBack_holds : Rows.ScriptBackSaid := scriptBack.proved
end Go.Proofs.Ytlmnohdgfjienaa
