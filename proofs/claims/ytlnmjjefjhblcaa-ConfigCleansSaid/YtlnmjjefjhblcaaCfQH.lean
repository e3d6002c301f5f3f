import Derived.Test.YtlnmjjefjhblcaaCfQ
import Derived.Test.YtlnmjjefjhblcaaCfO
import Derived.Test.YtlnmjjefjhblcaaAbsWx
set_option maxRecDepth 100000
set_option linter.all false
set_option maxHeartbeats 4000000
namespace Go.Proofs.Ytlnmjjefjhblcaa.Cf
open Go.Abs
theorem f5t (j0 : List (El FF)) (j1 j2 j3 : List Int) (r a0 a1 a2 a3 a4 a5 a6 a7 y z : Int) (k0 : List (El FF)) (k1 k2 k3 : List Int) (q b0 b1 b2 b3 b4 b5 b6 b7 u x : Int) : f5r0 j0 k0 j1 j2 j3 k1 k2 k3 r a0 a1 a2 a3 a4 a5 a6 a7 y z q b0 b1 b2 b3 b4 b5 b6 b7 u x = true := by
  unfold f5r0
  rw [(smC_iff (kp r 1 1099511627776) (kp a0 1 1073741824) (kp a1 0 67108864) (kp a2 1 1125899906842624) (kp a3 0 17179869184) (kp a4 0 17179869184) (kp a5 0 65536) (kp a6 0 67108864) (kp a7 0 67108864) (kp y 0 1000) (kp z 0 1099511627776) (kp r 1 1099511627776) (kp a0 1 1073741824) (kp a1 0 67108864) (kp a2 1 1125899906842624) (kp a3 0 17179869184) (kp a4 0 17179869184) (kp a5 0 65536) (kp a6 0 67108864) (kp a7 0 67108864) (kp y 0 1000) (kp z 0 1099511627776) _ _ _ _).2 ⟨rfl, rfl, rfl, rfl, rfl, rfl, rfl, rfl, rfl, rfl, rfl, (eqF_iff _ _).2 rfl, (eqI_iff _ _).2 rfl, (eqI_iff _ _).2 rfl, (eqI_iff _ _).2 rfl⟩]
  cases gR (lenR FF j0) (lenI j1) (lenI j2) (lenI j3) <;> cases gR (lenR FF k0) (lenI k1) (lenI k2) (lenI k3) <;> rfl
/-- ConfigCleans: over whatever is told ahead it is true. -/
theorem law_cleans (j0 : List (El FF)) (j1 : List Int) (r a0 a1 a2 a3 a4 a5 a6 a7 : Int) (j2 j3 : List Int) (y z : Int) (k0 : List (El FF)) (k1 : List Int) (q b0 b1 b2 b3 b4 b5 b6 b7 : Int) (k2 k3 : List Int) (u x : Int) (w0 : ∀ x ∈ j0, El.ok FF x) (w1 : ∀ x ∈ j1, El.ok [.int .i64] x) (w2 : (Lit.int .i64 r).wf = true) (w3 : (Lit.int .i64 a0).wf = true) (w4 : (Lit.int .i64 a1).wf = true) (w5 : (Lit.int .i64 a2).wf = true) (w6 : (Lit.int .i64 a3).wf = true) (w7 : (Lit.int .i64 a4).wf = true) (w8 : (Lit.int .i64 a5).wf = true) (w9 : (Lit.int .i64 a6).wf = true) (w10 : (Lit.int .i64 a7).wf = true) (w11 : ∀ x ∈ j2, El.ok [.int .i64] x) (w12 : ∀ x ∈ j3, El.ok [.int .u32] x) (w13 : (Lit.int .i64 y).wf = true) (w14 : (Lit.int .i64 z).wf = true) (w15 : ∀ x ∈ k0, El.ok FF x) (w16 : ∀ x ∈ k1, El.ok [.int .i64] x) (w17 : (Lit.int .i64 q).wf = true) (w18 : (Lit.int .i64 b0).wf = true) (w19 : (Lit.int .i64 b1).wf = true) (w20 : (Lit.int .i64 b2).wf = true) (w21 : (Lit.int .i64 b3).wf = true) (w22 : (Lit.int .i64 b4).wf = true) (w23 : (Lit.int .i64 b5).wf = true) (w24 : (Lit.int .i64 b6).wf = true) (w25 : (Lit.int .i64 b7).wf = true) (w26 : ∀ x ∈ k2, El.ok [.int .i64] x) (w27 : ∀ x ∈ k3, El.ok [.int .u32] x) (w28 : (Lit.int .i64 u).wf = true) (w29 : (Lit.int .i64 x).wf = true) : ACalls Try.prog 5 [cC r a0 a1 a2 a3 a4 a5 a6 a7 y z, cD q b0 b1 b2 b3 b4 b5 b6 b7 u x] [AObj.rows false FF j0, AObj.ints 0 false .i64 j1, AObj.ints 0 false .i64 j2, AObj.ints 0 false .u32 j3, AObj.rows false FF k0, AObj.ints 0 false .i64 k1, AObj.ints 0 false .i64 k2, AObj.ints 0 false .u32 k3] (.v (.bool true)) [] [] := by
  have h : ACalls Try.prog 5 [cC r a0 a1 a2 a3 a4 a5 a6 a7 y z, cD q b0 b1 b2 b3 b4 b5 b6 b7 u x] [AObj.rows false FF j0, AObj.ints 0 false .i64 j1, AObj.ints 0 false .i64 j2, AObj.ints 0 false .u32 j3, AObj.rows false FF k0, AObj.ints 0 false .i64 k1, AObj.ints 0 false .i64 k2, AObj.ints 0 false .u32 k3] (.v (.bool (f5r0 j0 k0 j1 j2 j3 k1 k2 k3 r a0 a1 a2 a3 a4 a5 a6 a7 y z q b0 b1 b2 b3 b4 b5 b6 b7 u x))) [] [] := by
    apply f5 <;> intros <;> first | exact sz0 _ | exact sz1 _ _ | exact sz2 _ | exact sz3 _ | (have hh := gR_f ‹gR (lenR FF j0) (lenI j1) (lenI j2) (lenI j3) = false›; exact decide_eq_true (by omega))
  rw [f5t] at h
  exact h
end Go.Proofs.Ytlnmjjefjhblcaa.Cf
