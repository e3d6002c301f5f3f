import Derived.Test.YteaeolklkioceaaPi
set_option linter.unusedVariables false
namespace Go.Proofs.Yteaeolklkioceaa.Pi
open Go.Abs
theorem sdiv_eq (x : Int) (h : -1152921504606846976 ≤ x ∧ x ≤ 1152921504606846976) : f48r0 x = x / 1000000 := by
  unfold f48r0 iquo irem isub
  rw [tdiv_c (by omega), tmod_c (by omega)]
  simp only [ilt_d, ine_d, cond_if, notB_d, beqB_d]
  by_cases hx : 0 ≤ x
  · rw [if_pos hx, if_pos hx, w_i64_in (x := x / 1000000) (by omega)]
    have : ¬ x < 0 := by omega
    simp [this]
  · rw [if_neg hx, if_neg hx, w_i64_in (x := -(-x / 1000000)) (by omega), w_i64_in (by omega)]
    have hx : x < 0 := by omega
    simp only [hx]
    by_cases hz : (-x) % 1000000 = 0
    · simp [hz]; omega
    · have : -(-x % 1000000) ≠ 0 := by omega
      simp [this]; omega
theorem stp_eq (p old q l0 l1 l2 l3 l4 l5 l6 l7 T : Int) (hp : 0 ≤ p ∧ p ≤ 4294967296) (ho : old = q) (hq : 0 ≤ q ∧ q ≤ 67108864) (hT : imin (imax l1 0) 67108864 = T) :
    let n := f25r0 p old q l0 l1 l2 l3 l4 l5 l6 l7
    0 ≤ n ∧ n ≤ 4294967296 ∧ (q < T → n ≤ p) ∧ (T < q → p ≤ n) ∧ (q = T → n = p) := by
  subst ho
  unfold f25r0
  have hTr : imax 0 (imin l1 67108864) = T ∧ 0 ≤ T ∧ T ≤ 67108864 := by unfold imax imin at *; omega
  rw [hTr.1]
  have hq' : imax 0 (imin old 67108864) = old := by unfold imax imin; omega
  rw [hq']
  have hp' : imax 0 (imin p 4294967296) = p := by unfold imax imin; omega
  rw [hp']
  obtain ⟨A, hA, hA1⟩ : ∃ A, imax 0 (imin l3 17179869184) = A ∧ 0 ≤ A ∧ A ≤ 17179869184 := ⟨_, rfl, by unfold imax imin; omega⟩
  rw [hA]
  obtain ⟨B, hB, hB1⟩ : ∃ B, imax 0 (imin l4 17179869184) = B ∧ 0 ≤ B ∧ B ≤ 17179869184 := ⟨_, rfl, by unfold imax imin; omega⟩
  rw [hB]
  have d0 : isub .i64 old old = 0 := by unfold isub; rw [w_i64_in (by omega)]; omega
  have d1 : isub .i64 old T = old - T := by unfold isub; rw [w_i64_in (by omega)]
  rw [d0, d1]
  have m0 : imul .i64 B 0 = 0 := by unfold imul; rw [w_i64_in (by omega)]; omega
  have b1 : A * (old - T) ≤ 17179869184 * 67108864 ∧ -(17179869184 * 67108864) ≤ A * (old - T) := by
    have h1 : A * (old - T) ≤ A * 67108864 := Int.mul_le_mul_of_nonneg_left (by omega) hA1.1
    have h2 : A * (-67108864) ≤ A * (old - T) := Int.mul_le_mul_of_nonneg_left (by omega) hA1.1
    omega
  have s1 : old < T → A * (old - T) ≤ 0 := fun h => by
    have : A * (old - T) ≤ A * 0 := Int.mul_le_mul_of_nonneg_left (by omega) hA1.1
    omega
  have s2 : T < old → 0 ≤ A * (old - T) := fun h => Int.mul_nonneg hA1.1 (by omega)
  have s3 : old = T → A * (old - T) = 0 := fun h => by rw [h]; simp
  have m1 : imul .i64 A (old - T) = A * (old - T) := by unfold imul; rw [w_i64_in (by omega)]
  rw [m0, m1]
  generalize A * (old - T) = y at *
  have a0 : iadd .i64 y 0 = y := by unfold iadd; rw [w_i64_in (by omega)]; omega
  rw [a0, sdiv_eq y (by omega)]
  have a1 : iadd .i64 p (y / 1000000) = p + y / 1000000 := by unfold iadd; rw [w_i64_in (by omega)]
  rw [a1]
  unfold imax imin
  refine ⟨by omega, by omega, fun h => ?_, fun h => ?_, fun h => ?_⟩
  · have := s1 h; omega
  · have := s2 h; omega
  · have := s3 h; omega
theorem law (p old q l0 l1 l2 l3 l4 l5 l6 l7 : Int) (hq : 0 ≤ q ∧ q ≤ 4294967295) : f7r0 p old q l0 l1 l2 l3 l4 l5 l6 l7 = true := by
  have hD : icv .i64 (irem q 67108864) = q % 67108864 := by
    unfold icv irem; rw [Int.tmod_eq_emod_of_nonneg hq.1, w_i64_in (by omega)]
  unfold f7r0
  rw [hD]
  obtain ⟨D, hDe, hD1⟩ : ∃ D, q % 67108864 = D ∧ 0 ≤ D ∧ D < 67108864 := ⟨_, rfl, by omega⟩
  rw [hDe]
  obtain ⟨T, hT, hT1⟩ : ∃ T, imin (imax l1 0) 67108864 = T ∧ 0 ≤ T ∧ T ≤ 67108864 := ⟨_, rfl, by unfold imax imin; omega⟩
  obtain ⟨p', hp, hp1⟩ : ∃ p', imin (imax p 0) 4294967296 = p' ∧ 0 ≤ p' ∧ p' ≤ 4294967296 := ⟨_, rfl, by unfold imax imin; omega⟩
  rw [hp, hT]
  obtain ⟨n0, n1, n2, n3, n4⟩ := stp_eq p' D D l0 l1 l2 l3 l4 l5 l6 l7 T hp1 rfl (by omega) hT
  obtain ⟨-, -, -, -, m4⟩ := stp_eq p' T T l0 l1 l2 l3 l4 l5 l6 l7 T hp1 rfl (by omega) hT
  have hc : imax 0 (imin D 67108864) = D := by unfold imax imin; omega
  rw [hc, m4 rfl]
  generalize f25r0 p' D D l0 l1 l2 l3 l4 l5 l6 l7 = n at *
  have t1 : ilt n 0 = false := decide_eq_false (by omega)
  have t2 : ilt 4294967296 n = false := decide_eq_false (by omega)
  have t3 : ieq p' p' = true := by simp [ieq_d]
  have t4 : ieq D D = true := by simp [ieq_d]
  rw [t1, t2, t3, t4]
  rcases Int.lt_trichotomy D T with h | h | h
  · have u1 : ilt D T = true := decide_eq_true h
    have u2 : ilt T D = false := decide_eq_false (by omega)
    have u3 : ieq D T = false := by rw [ieq_d]; exact decide_eq_false (by omega)
    have u4 : ilt p' n = false := decide_eq_false (by have := n2 h; omega)
    rw [u1, u2, u3, u4]; rfl
  · have u1 : ilt D T = false := decide_eq_false (by omega)
    have u2 : ilt T D = false := decide_eq_false (by omega)
    have u3 : ieq D T = true := by rw [ieq_d]; exact decide_eq_true h
    have u4 : ine n p' = false := by rw [ine_d, n4 h]; simp
    rw [u1, u2, u3, u4]; rfl
  · have u1 : ilt D T = false := decide_eq_false (by omega)
    have u2 : ilt T D = true := decide_eq_true h
    have u3 : ieq D T = false := by rw [ieq_d]; exact decide_eq_false (by omega)
    have u4 : ilt n p' = false := decide_eq_false (by have := n3 h; omega)
    rw [u1, u2, u3, u4]; rfl
end Go.Proofs.Yteaeolklkioceaa.Pi
namespace Go.Proofs.Yteaeolklkioceaa.Pi
open Go.Abs
theorem lawPi (p old q l0 l1 l2 l3 l4 l5 l6 l7 : Int) (wp : (Lit.int .i64 p).wf = true) (wo : (Lit.int .i64 old).wf = true) (wq : (Lit.int .u32 q).wf = true)
    (w0 : (Lit.int .i64 l0).wf = true) (w1 : (Lit.int .i64 l1).wf = true) (w2 : (Lit.int .i64 l2).wf = true) (w3 : (Lit.int .i64 l3).wf = true) (w4 : (Lit.int .i64 l4).wf = true) (w5 : (Lit.int .i64 l5).wf = true) (w6 : (Lit.int .i64 l6).wf = true) (w7 : (Lit.int .i64 l7).wf = true) :
    ACalls Try.prog 7 [.agg [.v (.int .i64 p), .v (.int .i64 old)], .v (.int .u32 q), .agg [.v (.int .i64 l0), .v (.int .i64 l1), .v (.int .i64 l2), .v (.int .i64 l3), .v (.int .i64 l4), .v (.int .i64 l5), .v (.int .i64 l6), .v (.int .i64 l7)]] [] (.v (.bool true)) [] [] := by
  have h := f7 p old q l0 l1 l2 l3 l4 l5 l6 l7
  rw [law p old q l0 l1 l2 l3 l4 l5 l6 l7 (wf_u32' wq)] at h
  exact h
end Go.Proofs.Yteaeolklkioceaa.Pi
