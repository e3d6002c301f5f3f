import Derived.Test.YtlnmjjefjhblcaaCfP
import Derived.Test.YtlnmjjefjhblcaaAbsWx
set_option maxRecDepth 100000
set_option linter.all false
set_option maxHeartbeats 4000000
namespace Go.Proofs.Ytlnmjjefjhblcaa.Cf
open Go.Abs
theorem f4t (j0 : List (El FF)) (j1 j2 j3 : List Int) (r a0 a1 a2 a3 a4 a5 a6 a7 y z : Int) : f4r0 j0 j1 j2 j3 r a0 a1 a2 a3 a4 a5 a6 a7 y z = true := by
  unfold f4r0
  have e : beqB (ieq (ckE r a0 a1 a2 a3 a4 a5 a6 a7 y z (lenR FF j0) (lenI j1) (lenI j2) (lenI j3) (fb j0 j1) (pix j2)) 0) (smC (kp r 1 1099511627776) (kp a0 1 1073741824) (kp a1 0 67108864) (kp a2 1 1125899906842624) (kp a3 0 17179869184) (kp a4 0 17179869184) (kp a5 0 65536) (kp a6 0 67108864) (kp a7 0 67108864) (kp y 0 1000) (kp z 0 1099511627776) r a0 a1 a2 a3 a4 a5 a6 a7 y z (eqF (cFl j0) j0) (eqI (cBs j0 j1) j1) (eqI (cPl j2) j2) (eqI (cDr j3) j3)) = true := by
    have := keep_iff j0 j1 j2 j3 r a0 a1 a2 a3 a4 a5 a6 a7 y z
    unfold beqB ieq
    cases h1 : smC (kp r 1 1099511627776) (kp a0 1 1073741824) (kp a1 0 67108864) (kp a2 1 1125899906842624) (kp a3 0 17179869184) (kp a4 0 17179869184) (kp a5 0 65536) (kp a6 0 67108864) (kp a7 0 67108864) (kp y 0 1000) (kp z 0 1099511627776) r a0 a1 a2 a3 a4 a5 a6 a7 y z (eqF (cFl j0) j0) (eqI (cBs j0 j1) j1) (eqI (cPl j2) j2) (eqI (cDr j3) j3)
    · rw [h1] at this
      have h2 : ¬ ckE r a0 a1 a2 a3 a4 a5 a6 a7 y z (lenR FF j0) (lenI j1) (lenI j2) (lenI j3) (fb j0 j1) (pix j2) = 0 := fun q => by have := this.1 q; simp at this
      simp [h2]
    · rw [this.2 h1]; rfl
  rw [e]
  cases gR (lenR FF j0) (lenI j1) (lenI j2) (lenI j3) <;> rfl
/-- ConfigKeeps: over whatever is told ahead it is true. -/
theorem law_keeps (j0 : List (El FF)) (j1 : List Int) (r a0 a1 a2 a3 a4 a5 a6 a7 : Int) (j2 j3 : List Int) (y z : Int) (w0 : ∀ x ∈ j0, El.ok FF x) (w1 : ∀ x ∈ j1, El.ok [.int .i64] x) (w2 : (Lit.int .i64 r).wf = true) (w3 : (Lit.int .i64 a0).wf = true) (w4 : (Lit.int .i64 a1).wf = true) (w5 : (Lit.int .i64 a2).wf = true) (w6 : (Lit.int .i64 a3).wf = true) (w7 : (Lit.int .i64 a4).wf = true) (w8 : (Lit.int .i64 a5).wf = true) (w9 : (Lit.int .i64 a6).wf = true) (w10 : (Lit.int .i64 a7).wf = true) (w11 : ∀ x ∈ j2, El.ok [.int .i64] x) (w12 : ∀ x ∈ j3, El.ok [.int .u32] x) (w13 : (Lit.int .i64 y).wf = true) (w14 : (Lit.int .i64 z).wf = true) : ACalls Try.prog 4 [cC r a0 a1 a2 a3 a4 a5 a6 a7 y z] (hH j0 j1 j2 j3) (.v (.bool true)) [] [] := by
  have h : ACalls Try.prog 4 [cC r a0 a1 a2 a3 a4 a5 a6 a7 y z] (hH j0 j1 j2 j3) (.v (.bool (f4r0 j0 j1 j2 j3 r a0 a1 a2 a3 a4 a5 a6 a7 y z))) [] [] := by
    apply f4 <;> intros <;> first | exact sz0 _ | exact sz1 _ _ | exact sz2 _ | exact sz3 _ | (have hh := gR_f ‹gR (lenR FF j0) (lenI j1) (lenI j2) (lenI j3) = false›; exact decide_eq_true (by omega))
  rw [f4t] at h
  exact h
end Go.Proofs.Ytlnmjjefjhblcaa.Cf
