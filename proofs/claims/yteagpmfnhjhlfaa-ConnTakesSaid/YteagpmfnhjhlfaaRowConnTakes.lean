/- Any end, whatever segment it takes, with whatever code, is the document's, and sends what it says. (P48.2, P48.3) -/
import Derived.Test.YteagpmfnhjhlfaaRows
import Derived.Test.YteagpmfnhjhlfaaConTH
import Derived.Test.YteagpmfnhjhlfaaAbsW
import Derived.WalkKit
import Derived.ProofKit
import Derived.OpenShut
import Derived.ShutString
import Derived.ChangeOld
import Derived.Below
import Derived.SizedLaws
set_option linter.unusedVariables false
namespace Go.Proofs.Yteagpmfnhjhlfaa.connTakes
open Go.ChangeShapes Go.WideShapes Go.ChangeAt Go.RowKit
open Go.ChangeMaps (open_string shut_string)
theorem own : ownKnob Try.prog.godebug = none := by kernel_rfl
def S0 : Go.Abs.PS := .agg [.int .i64, .int .i64, .int .u32, .int .u32, .int .u32, .int .u32, .int .i64, .int .i64, .int .u8, .int .i64, .int .i64]
theorem ok0 : Go.Abs.psOk Try.prog 24 S0 = true := by kernel_rfl
def S1 : Go.Abs.PS := .agg [.int .u16, .int .u16, .int .u32, .int .u32, .int .u8, .int .u8, .int .u8, .int .u16, .int .u16, .int .u16]
theorem ok1 : Go.Abs.psOk Try.prog 27 S1 = true := by kernel_rfl
def S2 : Go.Abs.PS := .int .i64
theorem ok2 : Go.Abs.psOk Try.prog 3 S2 = true := by kernel_rfl
set_option maxRecDepth 100000 in
theorem lifted (os : Os) (started : os.Started) (H : Type) (enc : TypeId × Value → H) :
    ReturnsInHanded {} Try.checked os 3 .any (Rows.connTakesSpec.pre6 enc Try.prog Try.f3 Rows.connTakesRow.domain false) (Rows.connTakesSpec.post enc Try.prog Try.f3 false true false false) := by
  refine returnsInHanded_of_change_sized (C := Try.checked) own started (by kernel_rfl) Try.func3
    (ChangeSpec.witness6 (enc := enc) (C := Try.checked) false ⟨#[], #[.agg #[.int .i64 0, .int .i64 0, .int .u32 0, .int .u32 0, .int .u32 0, .int .u32 0, .int .i64 0, .int .i64 0, .int .u8 0, .int .i64 0, .int .i64 0], .agg #[.int .u16 0, .int .u16 0, .int .u32 0, .int .u32 0, .int .u8 0, .int .u8 0, .int .u8 0, .int .u16 0, .int .u16 0, .int .u16 0], .int .i64 0], []⟩ 8 (by kernel_rfl) (by kernel_rfl) (by kernel_rfl) (by kernel_rfl)) ?_
  intro W base args ds gs before hval0 hW hcnd hsz0 _
  have hval : ∀ (j : Nat) t v, Try.f3.params[j]? = some t → args[j]? = some v → Value.okWide Try.prog W .any base t v := hval0
  have hW' := hW
  obtain ⟨p, q, hA0, hV, rfl, hfz, hnd⟩ := hW
  have hA : DataW.TrodAll enc Try.prog W 0 (fun _ => true) true Try.f3.params.toList args.toList ds p := hA0
  rw [Try.params3] at hA hval
  obtain ⟨v0, vs0, d0, ds0, p0, q0, hargs, rfl, rfl, h0, r0⟩ := trodAll_cons hA
  obtain ⟨v1, vs1, d1, ds1, p1, q1, rfl, rfl, rfl, h1, r1⟩ := trodAll_cons r0
  obtain ⟨v2, vs2, d2, ds2, p2, q2, rfl, rfl, rfl, h2, r2⟩ := trodAll_cons r1
  obtain ⟨rfl, rfl, rfl⟩ := trodAll_nil r2
  obtain rfl : args = #[v0, v1, v2] := by cases args; simp_all
  obtain ⟨rfl, rfl⟩ := trodVars_none hV
  obtain ⟨c0, rfl, g0, rfl⟩ := Go.Abs.open_ps ok0 (hval 0 24 v0 rfl rfl) h0
  have b0 := g0
  obtain ⟨_, rfl, ⟨_, _, _, _, rfl, rfl, ⟨a0, rfl, rfl, w0⟩, ⟨_, _, _, _, rfl, rfl, ⟨a1, rfl, rfl, w1⟩, ⟨_, _, _, _, rfl, rfl, ⟨a2, rfl, rfl, w2⟩, ⟨_, _, _, _, rfl, rfl, ⟨a3, rfl, rfl, w3⟩, ⟨_, _, _, _, rfl, rfl, ⟨a4, rfl, rfl, w4⟩, ⟨_, _, _, _, rfl, rfl, ⟨a5, rfl, rfl, w5⟩, ⟨_, _, _, _, rfl, rfl, ⟨a6, rfl, rfl, w6⟩, ⟨_, _, _, _, rfl, rfl, ⟨a7, rfl, rfl, w7⟩, ⟨_, _, _, _, rfl, rfl, ⟨a8, rfl, rfl, w8⟩, ⟨_, _, _, _, rfl, rfl, ⟨a9, rfl, rfl, w9⟩, ⟨_, _, _, _, rfl, rfl, ⟨a10, rfl, rfl, w10⟩, ⟨rfl, rfl⟩⟩⟩⟩⟩⟩⟩⟩⟩⟩⟩⟩⟩ := g0
  obtain ⟨c1, rfl, g1, rfl⟩ := Go.Abs.open_ps ok1 (hval 1 27 v1 rfl rfl) h1
  have b1 := g1
  obtain ⟨_, rfl, ⟨_, _, _, _, rfl, rfl, ⟨a11, rfl, rfl, w11⟩, ⟨_, _, _, _, rfl, rfl, ⟨a12, rfl, rfl, w12⟩, ⟨_, _, _, _, rfl, rfl, ⟨a13, rfl, rfl, w13⟩, ⟨_, _, _, _, rfl, rfl, ⟨a14, rfl, rfl, w14⟩, ⟨_, _, _, _, rfl, rfl, ⟨a15, rfl, rfl, w15⟩, ⟨_, _, _, _, rfl, rfl, ⟨a16, rfl, rfl, w16⟩, ⟨_, _, _, _, rfl, rfl, ⟨a17, rfl, rfl, w17⟩, ⟨_, _, _, _, rfl, rfl, ⟨a18, rfl, rfl, w18⟩, ⟨_, _, _, _, rfl, rfl, ⟨a19, rfl, rfl, w19⟩, ⟨_, _, _, _, rfl, rfl, ⟨a20, rfl, rfl, w20⟩, ⟨rfl, rfl⟩⟩⟩⟩⟩⟩⟩⟩⟩⟩⟩⟩ := g1
  obtain ⟨c2, rfl, g2, rfl⟩ := Go.Abs.open_ps ok2 (hval 2 3 v2 rfl rfl) h2
  have b2 := g2
  obtain ⟨a21, rfl, rfl, w21⟩ := g2
  clear hA0 hval0 hsz0
  refine (Go.Abs.ACalls.walk (Con.law_takes a0 a1 a2 a3 a4 a5 a6 a7 a8 a9 a10 a11 a12 a13 a14 a15 a16 a17 a18 a19 a20 a21 w0 w1 w2 w3 w4 w5 w6 w7 w8 w9 w10 w11 w12 w13 w14 w15 w16 w17 w18 w19 w20 w21) (fun σ => rfl) #[.agg #[.int .i64 a0, .int .i64 a1, .int .u32 a2, .int .u32 a3, .int .u32 a4, .int .u32 a5, .int .i64 a6, .int .i64 a7, .int .u8 a8, .int .i64 a9, .int .i64 a10], .agg #[.int .u16 a11, .int .u16 a12, .int .u32 a13, .int .u32 a14, .int .u8 a15, .int .u8 a16, .int .u8 a17, .int .u16 a18, .int .u16 a19, .int .u16 a20], .int .i64 a21] (fun σ => ⟨rfl, ⟨⟨trivial, trivial, trivial, trivial, trivial, trivial, trivial, trivial, trivial, trivial, trivial, trivial⟩, ⟨⟨trivial, trivial, trivial, trivial, trivial, trivial, trivial, trivial, trivial, trivial, trivial⟩, ⟨trivial, trivial⟩⟩⟩⟩) W).mono fun e W' ⟨he, bel⟩ => ?_
  subst he
  exact ⟨_, rfl, _, _, _, [], _, [], hW', trodAll_mk1 (shut_bool Try.underlying4 _), (trodAll_cons_mk (Go.Abs.shut_ps ok0 b0) (trodAll_cons_mk (Go.Abs.shut_ps ok1 b1) (trodAll_cons_mk (Go.Abs.shut_ps ok2 b2) trodAll_mk0))), rfl, bel.frame _, fun h => by cases h⟩
theorem over : Rows.connTakesRow.holds Try.pinned (OpenSpec.ofChange Rows.connTakesSpec) :=
  OpenClaim.holds_of_wide 3 Try.f3 rfl rfl rfl rfl rfl rfl rfl ⟨rfl, rfl, rfl, rfl, rfl⟩ rfl rfl rfl rfl rfl (by kernel_rfl) Try.func3 (by kernel_rfl)
    (of_decide_eq_true (by kernel_rfl)) (by unfold Func.isWrapper; first | (rw [if_pos (by decide +kernel)]; kernel_rfl) | (rw [if_neg (by decide +kernel)]; exact ⟨rfl, rfl⟩))
    (fun os started H enc _ => lifted os started H enc)
theorem proved : Rows.ConnTakesSaid := over
end Go.Proofs.Yteagpmfnhjhlfaa.connTakes
namespace Go.Proofs.Yteagpmfnhjhlfaa
theorem connTakes_holds : Rows.ConnTakesSaid := connTakes.proved
end Go.Proofs.Yteagpmfnhjhlfaa
