import Derived.Test.YtfihmphhklplnaaField
set_option linter.unusedVariables false
namespace Go.Proofs.Ytfihmphhklplnaa.Field
open Go.Abs Go.Proofs.Ytfihmphhklplnaa.Ser
theorem ahead_eq (x y : Int) : f38r0 x y = f22r0 x y := by
  unfold f38r0 f22r0
  have h : ∀ n : Int, 0 ≤ icv .u64 n ∧ icv .u64 n < 18446744073709551616 := fun n => by unfold icv; rw [w_u64]; omega
  rw [dif_rdif _ _ _ (h y) (h x)]
theorem step_eq (x y : Int) : imax (f38r0 x y) 0 = f21r0 x y := by
  rw [ahead_eq]; unfold f21r0 imax
  rw [cond_if, ilt_d]
  by_cases h : f22r0 x y < 0
  · simp [h]; omega
  · simp [h]; omega
theorem law5 (a b c x y z : Int) : f5r0 a b c x y z = true := by
  unfold f5r0 f25r0
  rw [step_eq, step_eq, step_eq, ahead_eq, ahead_eq, ahead_eq]
  generalize f21r0 (f20r0 a) x = A
  generalize f21r0 (f20r0 b) y = B
  generalize f21r0 (f20r0 c) z = C
  generalize f22r0 (f20r0 a) x = p
  generalize f22r0 (f20r0 b) y = q
  generalize f22r0 (f20r0 c) z = r
  simp only [ine_d, ieq_d, ile_d, ilt_d, cond_if, andB, beqB_d]
  by_cases h1 : p < 0 <;> by_cases h2 : q < 0 <;> by_cases h3 : r < 0 <;> simp [h1, h2, h3] <;> omega
end Go.Proofs.Ytfihmphhklplnaa.Field
namespace Go.Proofs.Ytfihmphhklplnaa.Field
open Go.Abs
theorem lawSteps (a b c x y z : Int) (w0 : (Lit.int .i64 a).wf = true) (w1 : (Lit.int .i64 b).wf = true) (w2 : (Lit.int .i64 c).wf = true) (w3 : (Lit.int .i64 x).wf = true) (w4 : (Lit.int .i64 y).wf = true) (w5 : (Lit.int .i64 z).wf = true) :
    ACalls Try.prog 5 [.agg [.v (.int .i64 a), .v (.int .i64 b), .v (.int .i64 c)], .agg [.v (.int .i64 x), .v (.int .i64 y), .v (.int .i64 z)]] [] (.v (.bool true)) [] [] := by
  have h := f5 a b c x y z
  rw [law5] at h; exact h
end Go.Proofs.Ytfihmphhklplnaa.Field
