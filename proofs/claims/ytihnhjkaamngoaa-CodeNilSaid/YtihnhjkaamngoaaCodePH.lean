import Derived.Test.YtihnhjkaamngoaaCodeP
import Derived.Test.YtihnhjkaamngoaaAbsWs
set_option linter.unusedVariables false
set_option linter.unusedSimpArgs false
set_option maxRecDepth 100000
namespace Go.Proofs.Ytihnhjkaamngoaa.Code
open Go.Abs
theorem seqS_self (t : ByteArray) : seqS t t = true := by
  unfold seqS; obtain ⟨⟨x⟩⟩ := t
  show ((⟨x⟩ : Array UInt8) == ⟨x⟩) = true
  simp
theorem ssub_size (t : ByteArray) (n : Nat) (h : n ≤ t.size) : (ssub t 0 (n : Int)).size = n := by
  unfold ssub; rw [ByteArray.size_extract]; simp; omega
theorem puts (m : List Int) (x : Int) (t : ByteArray) (hx : i64B x = true) (ht : t.size ≤ 9223372036854775807) :
    ACalls Try.prog 3 [AV.sw 0 1, AV.v (.int .i64 x), AV.v (.string t)] [AObj.ints 0 false .u8 m] (AV.v (Value.bool true)) [] [] := by
  have hl : (subI m 0 (subN (imin (nlen (lenI m)) 60) 0)).length ≤ 60 := by unfold subI subN imin nlen lenI; rw [List.length_take]; omega
  have hu : u64B (icv .u64 x) = true := by rw [u64B_iff]; unfold icv; rw [w_u64]; omega
  have hv := vb_len hu
  have h := f3 m x t (by unfold inC imin nlen lenI; omega) (by unfold leN subN imin nlen lenI; show 0 + _ ≤ _; omega) (by unfold inC imin slen; omega) hu (by omega) (by rw [app_def, List.length_append]; omega)
    (fun _ => hx) (fun _ => by omega) (fun _ => zz_u64 hx) (fun _ _ => by
      have e : imin (slen t) 300 = ((min t.size 300 : Nat) : Int) := by unfold imin slen; omega
      rw [e, ssub_size _ _ (by omega)]; omega) (fun _ _ => by omega)
  have e : f3r0 m x t = true := by unfold f3r0; simp only [seqS_self]; rfl
  rw [e] at h; exact h
theorem law_puts (m : List (El (Go.Abs.PS.int .u8).ck)) (x : Int) (t : ByteArray) (w0 : ∀ y ∈ m, El.ok (Go.Abs.PS.int .u8).ck y) (w1 : (Lit.int .i64 x).wf = true) (w2 : t.size ≤ maxLen) :
    ACalls Try.prog 3 [AV.sw 0 1, AV.v (.int .i64 x), AV.v (.string t)] [rowO (Go.Abs.PS.int .u8).ck m] (AV.v (Value.bool true)) [] [] :=
  puts m x t (by rw [i64B_iff]; exact wf_i64' w1) (by unfold maxLen at w2; omega)
theorem law_nil (x y : Int) (w0 : (Lit.int .u64 x).wf = true) (w1 : (Lit.int .i64 y).wf = true) : ACalls Try.prog 5 [AV.v (.int .u64 x), AV.v (.int .i64 y)] [] (AV.v (Value.bool true)) [] [] := by
  have hx : u64B x = true := by have := wf_u64' w0; rw [u64B_iff]; omega
  have h := f5 x y hx
  have e : f5r0 x y = true := by
    unfold f5r0
    rw [show ilt 2 (nlen (lenI (1 :: 2 :: vb x))) = true from by simp only [ilt_d, nlen, lenI, vb, List.length_cons, List.length_append, List.length_nil, decide_eq_true_eq]; omega]; rfl
  rw [e] at h; exact h
end Go.Proofs.Ytihnhjkaamngoaa.Code
