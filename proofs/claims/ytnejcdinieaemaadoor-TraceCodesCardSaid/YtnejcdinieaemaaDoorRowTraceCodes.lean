/- Any entries have the document's bytes, and any bytes are its entries, or their error is told. (P42.2) -/
import Derived.Test.YtnejcdinieaemaaDoorRows
import Derived.Test.YtnejcdinieaemaaDoorTie
import Derived.Test.YtnejcdinieaemaaDoorCards
import Derived.Test.YtnejcdinieaemaaDoorTzE
import Derived.Test.YtnejcdinieaemaaDoorAbsWx
import Derived.WalkKit
import Derived.ProofKit
import Derived.OpenShut
import Derived.ShutString
import Derived.ChangeOld
import Derived.Below
import Derived.SizedLaws
import Derived.Carry
import Derived.LaidMore
import Derived.LaidLaws
import Derived.SevenTiedAt
import Derived.Stop.Joined
set_option linter.unusedVariables false
namespace Go.Proofs.YtnejcdinieaemaaDoor.traceCodes
open Go.ChangeShapes Go.WideShapes Go.ChangeAt Go.RowKit
open Go.ChangeMaps (open_string shut_string)
theorem own : ownKnob Tryd.prog.godebug = none := by kernel_rfl
theorem laid : laidOutB Tryd.prog = true := by kernel_rfl
def S0 : Go.Abs.XS := .sl (.agg [.int .i64, .int .i64, .int .i64, .int .i64, .int .i64, .int .i64])
theorem ok0 : Go.Abs.xsOk Tryd.prog 22 S0 = true := by kernel_rfl
theorem rec0 : Tryd.prog.readableRec 22 = true := by kernel_rfl
def S1 : Go.Abs.XS := .sl (.int .u8)
theorem ok1 : Go.Abs.xsOk Tryd.prog 30 S1 = true := by kernel_rfl
theorem rec1 : Tryd.prog.readableRec 30 = true := by kernel_rfl
theorem door_met (os : Os) (args : Array Value) : laidMetH Tryd.prog [("math/bits.deBruijn32tab", Rows.laid_math_bits_deBruijn32tab), ("math/bits.deBruijn64tab", Rows.laid_math_bits_deBruijn64tab), ("internal/strconv.uint64pow10", Rows.laid_internal_strconv_uint64pow10)] ((World.doorLaid Tryd.prog 400 os).forCall (fun _ _ => 0) ⟨#[], args, []⟩).memory :=
  laidMetH_of_parts3 (fuel := 8) (laidMet_of_run' 8 (by kernel_rfl) (by kernel_rfl)) (by kernel_rfl) (by kernel_rfl)
set_option maxRecDepth 100000 in
theorem lifted (os : Os) (started : os.Started) (H : Type) (enc : TypeId × Value → H) :
    ReturnsInHanded {} Tryd.checked os 4 .any (fun w args => (Rows.traceCodesSpec.pre enc Tryd.prog Tryd.f4 [] false w args ∧ laidMetH Tryd.prog [("math/bits.deBruijn32tab", Rows.laid_math_bits_deBruijn32tab), ("math/bits.deBruijn64tab", Rows.laid_math_bits_deBruijn64tab), ("internal/strconv.uint64pow10", Rows.laid_internal_strconv_uint64pow10)] w) ∧ sizedMet enc Tryd.prog Tryd.f4 (OpenSpec.ofChange Rows.traceCodesSpec) false w args) (Rows.traceCodesSpec.post enc Tryd.prog Tryd.f4 false true false false) := by
  refine returnsInHanded_of_change_and (C := Tryd.checked) (X := fun w _ => laidMetH Tryd.prog [("math/bits.deBruijn32tab", Rows.laid_math_bits_deBruijn32tab), ("math/bits.deBruijn64tab", Rows.laid_math_bits_deBruijn64tab), ("internal/strconv.uint64pow10", Rows.laid_internal_strconv_uint64pow10)] w) (fun _ _ _ hh h => h.of_heap hh) own started (by kernel_rfl) Tryd.func4
    (ChangeSpec.witness_shaped (enc := enc) (C := Tryd.checked) (os := os) (X := fun w _ => laidMetH Tryd.prog [("math/bits.deBruijn32tab", Rows.laid_math_bits_deBruijn32tab), ("math/bits.deBruijn64tab", Rows.laid_math_bits_deBruijn64tab), ("internal/strconv.uint64pow10", Rows.laid_internal_strconv_uint64pow10)] w) false (World.doorLaid Tryd.prog 400 os) #[.slice none 0 0, .slice none 0 0] 8 rfl (World.shaped_of_RefB (by kernel_rfl) (by kernel_rfl)) (by kernel_rfl) (by kernel_rfl) (by kernel_rfl) (door_met os _)) ?_
  intro W base args ds gs before hval0 hW _ _ hL _
  have hval : ∀ (j : Nat) t v, Tryd.f4.params[j]? = some t → args[j]? = some v → Value.okWide Tryd.prog W .any base t v := hval0
  have hW' := hW
  obtain ⟨p, q, hA0, hV, rfl, hfz, hnd⟩ := hW
  have hA : DataW.TrodAll enc Tryd.prog W 0 (fun _ => true) true Tryd.f4.params.toList args.toList ds p := hA0
  rw [Tryd.params4] at hA hval
  obtain ⟨v0, vs0, d0, ds0, p0, q0, hargs, rfl, rfl, h0, r0⟩ := trodAll_cons hA
  obtain ⟨v1, vs1, d1, ds1, p1, q1, rfl, rfl, rfl, h1, r1⟩ := trodAll_cons r0
  obtain ⟨rfl, rfl, rfl⟩ := trodAll_nil r1
  obtain rfl : args = #[v0, v1] := by cases args; simp_all
  obtain ⟨rfl, rfl⟩ := trodVars_none hV
  have k0 : ∀ x ∈ p0, x.block < W.heap.size := fun x hx => hW'.lt x (by simp [hx])
  have c0 := h0
  obtain ⟨c_0, rfl, g0⟩ := Go.Abs.open_xs ok0 (hval 0 22 v0 rfl rfl) h0
  obtain ⟨l0, L0, rfl, B0, w0⟩ := g0
  have k1 : ∀ x ∈ p1, x.block < W.heap.size := fun x hx => hW'.lt x (by simp [hx])
  have c1 := h1
  obtain ⟨c_1, rfl, g1⟩ := Go.Abs.open_xs ok1 (hval 1 30 v1 rfl rfl) h1
  obtain ⟨l1, L1, rfl, B1, w1⟩ := g1
  clear hA0 hval0
  refine (Go.Abs.ACalls.walkR (os := [(Go.Abs.rowO (.agg [.int .i64, .int .i64, .int .i64, .int .i64, .int .i64, .int .i64] : Go.Abs.PS).ck l0, L0), (Go.Abs.rowO (.int .u8 : Go.Abs.PS).ck l1, L1)]) (Tr.law_traceCodes l0 l1 w0 w1) (fun σ => rfl) (fun p hp => by simp only [List.mem_cons, List.not_mem_nil, or_false] at hp; rcases hp with rfl | rfl <;> first | exact (Go.Abs.rowO_spec (Go.Abs.sgOf []) (.agg [.int .i64, .int .i64, .int .i64, .int .i64, .int .i64, .int .i64] : Go.Abs.PS).ck l0).2.2.2.1 | exact (Go.Abs.rowO_spec (Go.Abs.sgOf []) (.int .u8 : Go.Abs.PS).ck l1).2.2.2.1) (fun p hp σ => by simp only [List.mem_cons, List.not_mem_nil, or_false] at hp; rcases hp with rfl | rfl <;> first | exact B0 σ | exact B1 σ) (fun p hp σ => by simp only [List.mem_cons, List.not_mem_nil, or_false] at hp; rcases hp with rfl | rfl <;> first | exact (Go.Abs.rowO_spec σ (.agg [.int .i64, .int .i64, .int .i64, .int .i64, .int .i64, .int .i64] : Go.Abs.PS).ck l0).2.2.2.2.2 | exact (Go.Abs.rowO_spec σ (.int .u8 : Go.Abs.PS).ck l1).2.2.2.2.2) #[.slice (L0.base 0) (L0.len / (.agg [.int .i64, .int .i64, .int .i64, .int .i64, .int .i64, .int .i64] : Go.Abs.PS).size) (L0.cap / (.agg [.int .i64, .int .i64, .int .i64, .int .i64, .int .i64, .int .i64] : Go.Abs.PS).size), .slice (L1.base 0) (L1.len / (.int .u8 : Go.Abs.PS).size) (L1.cap / (.int .u8 : Go.Abs.PS).size)] rfl ⟨⟨(show (0 : Nat) < 2 from by decide), by decide⟩, ⟨(show (1 : Nat) < 2 from by decide), by decide⟩, trivial⟩).mono fun e W' ⟨he, bel⟩ => ?_
  subst he
  exact ⟨_, rfl, _, _, _, [], _, [], hW', trodAll_mk1 (shut_bool Tryd.underlying4 _), (trodAll_cons_mk (Below.trod laid rec0 (of_decide_eq_true (by kernel_rfl)) c0 bel k0) (trodAll_cons_mk (Below.trod laid rec1 (of_decide_eq_true (by kernel_rfl)) c1 bel k1) trodAll_mk0)), rfl, bel.frame _, fun h => by cases h⟩
theorem over : Rows.traceCodesRow.holds Tryd.pinned (OpenSpec.ofChange Rows.traceCodesSpec) :=
  OpenClaim.holds_of_wide 4 Tryd.f4 rfl rfl rfl rfl rfl rfl rfl ⟨rfl, rfl, rfl, rfl, rfl⟩ rfl rfl rfl rfl rfl (by kernel_rfl) Tryd.func4 (by kernel_rfl)
    (of_decide_eq_true (by kernel_rfl)) (by unfold Func.isWrapper; first | (rw [if_pos (by decide +kernel)]; kernel_rfl) | (rw [if_neg (by decide +kernel)]; exact ⟨rfl, rfl⟩))
    (fun os started H enc _ => lifted os started H enc)
theorem proved : Rows.TraceCodesSaid := over
end Go.Proofs.YtnejcdinieaemaaDoor.traceCodes
namespace Go.Proofs.YtnejcdinieaemaaDoor
theorem traceCodes_holds : Rows.TraceCodesSaid := traceCodes.proved
open Go in
theorem traceCodes_card_holds : Rows.TraceCodesCardSaid :=
  Claim7.holds_tied_plain_at .later [] [.data, .data, .data] true (true, "01a2eb0231c48fab8baef13271a2ad5973333a29a6d6832fc717bda9d05a35c0") false
    traceCodes_holds (fun _ h => by cases h) (by kernel_rfl) (fun _ h => by cases h) traceCodes_row_tie rfl ⟨rfl, rfl⟩ (by kernel_rfl) rfl
    (fun f fn hf hfn => by
      obtain rfl : f = 4 := Option.some.inj ((show Tryd.prog.funcNamed "leat/leatlaw42.TraceCodes" = some 4 by kernel_rfl).symm.trans hf) |>.symm
      obtain rfl : fn = Tryd.f4 := (Option.some.inj (Tryd.func4.symm.trans hfn)).symm
      exact ⟨by kernel_rfl, fun j t ht => by
        rw [Tryd.params4] at ht
        have hm : t ∈ [22, 30] := by simpa using Array.mem_of_getElem? ht
        have hall : ([22, 30].all fun u => !Tryd.prog.wantsStandIn u) = true := by kernel_rfl
        exact (show Tryd.prog.wantsStandIn t = false by simpa using List.all_eq_true.1 hall t hm)⟩)
    (by kernel_rfl)
end Go.Proofs.YtnejcdinieaemaaDoor
