/- Any end that asks, listens, closes, or waited too long, is the document's, and sends what it says. (P48.1, P48.4, P48.5) -/
import Derived.Test.YteagpmfnhjhlfaaRows
import Derived.Test.YteagpmfnhjhlfaaConVH
import Derived.Test.YteagpmfnhjhlfaaAbsW
import Derived.WalkKit
import Derived.ProofKit
import Derived.OpenShut
import Derived.ShutString
import Derived.ChangeOld
import Derived.Below
import Derived.SizedLaws
set_option linter.unusedVariables false
namespace Go.Proofs.Yteagpmfnhjhlfaa.connMoves
open Go.ChangeShapes Go.WideShapes Go.ChangeAt Go.RowKit
open Go.ChangeMaps (open_string shut_string)
theorem own : ownKnob Try.prog.godebug = none := by kernel_rfl
def S0 : Go.Abs.PS := .agg [.int .i64, .int .i64, .int .u32, .int .u32, .int .u32, .int .u32, .int .i64, .int .i64, .int .u8, .int .i64, .int .i64]
theorem ok0 : Go.Abs.psOk Try.prog 24 S0 = true := by kernel_rfl
def S1 : Go.Abs.PS := .int .i64
theorem ok1 : Go.Abs.psOk Try.prog 3 S1 = true := by kernel_rfl
def S2 : Go.Abs.PS := .int .u32
theorem ok2 : Go.Abs.psOk Try.prog 22 S2 = true := by kernel_rfl
set_option maxRecDepth 100000 in
theorem lifted (os : Os) (started : os.Started) (H : Type) (enc : TypeId × Value → H) :
    ReturnsInHanded {} Try.checked os 5 .any (Rows.connMovesSpec.pre6 enc Try.prog Try.f5 Rows.connMovesRow.domain false) (Rows.connMovesSpec.post enc Try.prog Try.f5 false true false false) := by
  refine returnsInHanded_of_change_sized (C := Try.checked) own started (by kernel_rfl) Try.func5
    (ChangeSpec.witness6 (enc := enc) (C := Try.checked) false ⟨#[], #[.agg #[.int .i64 0, .int .i64 0, .int .u32 0, .int .u32 0, .int .u32 0, .int .u32 0, .int .i64 0, .int .i64 0, .int .u8 0, .int .i64 0, .int .i64 0], .int .i64 0, .int .u32 0], []⟩ 8 (by kernel_rfl) (by kernel_rfl) (by kernel_rfl) (by kernel_rfl)) ?_
  intro W base args ds gs before hval0 hW hcnd hsz0 _
  have hval : ∀ (j : Nat) t v, Try.f5.params[j]? = some t → args[j]? = some v → Value.okWide Try.prog W .any base t v := hval0
  have hW' := hW
  obtain ⟨p, q, hA0, hV, rfl, hfz, hnd⟩ := hW
  have hA : DataW.TrodAll enc Try.prog W 0 (fun _ => true) true Try.f5.params.toList args.toList ds p := hA0
  rw [Try.params5] at hA hval
  obtain ⟨v0, vs0, d0, ds0, p0, q0, hargs, rfl, rfl, h0, r0⟩ := trodAll_cons hA
  obtain ⟨v1, vs1, d1, ds1, p1, q1, rfl, rfl, rfl, h1, r1⟩ := trodAll_cons r0
  obtain ⟨v2, vs2, d2, ds2, p2, q2, rfl, rfl, rfl, h2, r2⟩ := trodAll_cons r1
  obtain ⟨rfl, rfl, rfl⟩ := trodAll_nil r2
  obtain rfl : args = #[v0, v1, v2] := by cases args; simp_all
  obtain ⟨rfl, rfl⟩ := trodVars_none hV
  obtain ⟨c0, rfl, g0, rfl⟩ := Go.Abs.open_ps ok0 (hval 0 24 v0 rfl rfl) h0
  have b0 := g0
  obtain ⟨_, rfl, ⟨_, _, _, _, rfl, rfl, ⟨a0, rfl, rfl, w0⟩, ⟨_, _, _, _, rfl, rfl, ⟨a1, rfl, rfl, w1⟩, ⟨_, _, _, _, rfl, rfl, ⟨a2, rfl, rfl, w2⟩, ⟨_, _, _, _, rfl, rfl, ⟨a3, rfl, rfl, w3⟩, ⟨_, _, _, _, rfl, rfl, ⟨a4, rfl, rfl, w4⟩, ⟨_, _, _, _, rfl, rfl, ⟨a5, rfl, rfl, w5⟩, ⟨_, _, _, _, rfl, rfl, ⟨a6, rfl, rfl, w6⟩, ⟨_, _, _, _, rfl, rfl, ⟨a7, rfl, rfl, w7⟩, ⟨_, _, _, _, rfl, rfl, ⟨a8, rfl, rfl, w8⟩, ⟨_, _, _, _, rfl, rfl, ⟨a9, rfl, rfl, w9⟩, ⟨_, _, _, _, rfl, rfl, ⟨a10, rfl, rfl, w10⟩, ⟨rfl, rfl⟩⟩⟩⟩⟩⟩⟩⟩⟩⟩⟩⟩⟩ := g0
  obtain ⟨c1, rfl, g1, rfl⟩ := Go.Abs.open_ps ok1 (hval 1 3 v1 rfl rfl) h1
  have b1 := g1
  obtain ⟨a11, rfl, rfl, w11⟩ := g1
  obtain ⟨c2, rfl, g2, rfl⟩ := Go.Abs.open_ps ok2 (hval 2 22 v2 rfl rfl) h2
  have b2 := g2
  obtain ⟨a12, rfl, rfl, w12⟩ := g2
  clear hA0 hval0 hsz0
  refine (Go.Abs.ACalls.walk (Con.law_moves a0 a1 a2 a3 a4 a5 a6 a7 a8 a9 a10 a11 a12 w0 w1 w2 w3 w4 w5 w6 w7 w8 w9 w10 w11 w12) (fun σ => rfl) #[.agg #[.int .i64 a0, .int .i64 a1, .int .u32 a2, .int .u32 a3, .int .u32 a4, .int .u32 a5, .int .i64 a6, .int .i64 a7, .int .u8 a8, .int .i64 a9, .int .i64 a10], .int .i64 a11, .int .u32 a12] (fun σ => ⟨rfl, ⟨⟨trivial, trivial, trivial, trivial, trivial, trivial, trivial, trivial, trivial, trivial, trivial, trivial⟩, ⟨trivial, ⟨trivial, trivial⟩⟩⟩⟩) W).mono fun e W' ⟨he, bel⟩ => ?_
  subst he
  exact ⟨_, rfl, _, _, _, [], _, [], hW', trodAll_mk1 (shut_bool Try.underlying4 _), (trodAll_cons_mk (Go.Abs.shut_ps ok0 b0) (trodAll_cons_mk (Go.Abs.shut_ps ok1 b1) (trodAll_cons_mk (Go.Abs.shut_ps ok2 b2) trodAll_mk0))), rfl, bel.frame _, fun h => by cases h⟩
theorem over : Rows.connMovesRow.holds Try.pinned (OpenSpec.ofChange Rows.connMovesSpec) :=
  OpenClaim.holds_of_wide 5 Try.f5 rfl rfl rfl rfl rfl rfl rfl ⟨rfl, rfl, rfl, rfl, rfl⟩ rfl rfl rfl rfl rfl (by kernel_rfl) Try.func5 (by kernel_rfl)
    (of_decide_eq_true (by kernel_rfl)) (by unfold Func.isWrapper; first | (rw [if_pos (by decide +kernel)]; kernel_rfl) | (rw [if_neg (by decide +kernel)]; exact ⟨rfl, rfl⟩))
    (fun os started H enc _ => lifted os started H enc)
theorem proved : Rows.ConnMovesSaid := over
end Go.Proofs.Yteagpmfnhjhlfaa.connMoves
namespace Go.Proofs.Yteagpmfnhjhlfaa
theorem connMoves_holds : Rows.ConnMovesSaid := connMoves.proved
end Go.Proofs.Yteagpmfnhjhlfaa
