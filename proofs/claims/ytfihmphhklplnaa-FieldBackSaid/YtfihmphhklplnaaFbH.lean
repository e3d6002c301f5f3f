import Derived.Test.YtfihmphhklplnaaFb
set_option linter.unusedVariables false
set_option linter.unusedSimpArgs false
set_option maxRecDepth 100000
namespace Go.Proofs.Ytfihmphhklplnaa.Field
open Go.Abs Go.Proofs.Ytfihmphhklplnaa.Ser
theorem ahead_near {X Y : Int} (hX : -4611686018427387904 ≤ X ∧ X ≤ 4611686018427387904) (hY : 0 ≤ Y ∧ Y < 16777216) :
    f38r0 X Y = if 2 * ((Y - X) % 16777216) < 16777216 then (Y - X) % 16777216 else (Y - X) % 16777216 - 16777216 := by
  unfold f38r0
  rw [ilt_d, decide_eq_false (by omega)]
  simp only [cond_false]
  have e1 : icv .u64 Y = Y := by unfold icv; rw [w_u64_in (by omega)]
  have e2 : icv .u64 X = X % 18446744073709551616 := by unfold icv; rw [w_u64]
  rw [e1, e2, dif_mid _ _ _ (by omega) (by omega), show rd 24 = 16777216 from by unfold rd; decide]
  unfold mid
  rw [show (Y - X % 18446744073709551616) % 16777216 = (Y - X) % 16777216 by omega]
theorem m24 (x : Int) : iand .i64 x 16777215 = x % 16777216 := iand_mask .i64 24 (by decide) x
/-- one counter: how far it went -/
structure One (a x d : Int) : Prop where
  d0 : 0 ≤ d
  d1 : d < 8388608
  od : odB a = a
  nw : nwB a x = a + d
  f1 : foB (odB a) (tdB a x) = a + d
  f2 : foB (nwB a x) (tdB a x) = a + d
  f3 : foB (nwB a x) (wsB a) = a + d
  a1 : f38r0 a (tdB a x) = d
  a2 : f38r0 (a + d) (wsB a) = -d
theorem one (a x : Int) (ha : -2147483648 ≤ a ∧ a ≤ 2147483647) (hx : 0 ≤ x ∧ x ≤ 4294967295) : ∃ d, One a x d := by
  have er : irem x 8388608 = x % 8388608 := by unfold irem; rw [Int.tmod_eq_emod_of_nonneg hx.1]
  have e1 : icv .i64 a = a := by unfold icv; rw [w_i64_in (by omega)]
  have e2 : icv .i64 (x % 8388608) = x % 8388608 := by unfold icv; rw [w_i64_in (by omega)]
  have nw : nwB a x = a + x % 8388608 := by unfold nwB iadd; rw [er, e1, e2, w_i64_in (by omega)]
  have td : tdB a x = (a + x % 8388608) % 16777216 := by unfold tdB; rw [nw, m24]
  have ws : wsB a = a % 16777216 := by unfold wsB; rw [e1, m24]
  generalize hd : x % 8388608 = d at *
  have hd0 : 0 ≤ d ∧ d < 8388608 := by omega
  have a1 : f38r0 a (tdB a x) = d := by rw [td, ahead_near (by omega) (by omega)]; split <;> omega
  have a2 : f38r0 (a + d) (wsB a) = -d := by rw [ws, ahead_near (by omega) (by omega)]; split <;> omega
  have a3 : f38r0 (a + d) (tdB a x) = 0 := by rw [td, ahead_near (by omega) (by omega)]; split <;> omega
  have od : odB a = a := e1
  refine ⟨d, hd0.1, hd0.2, od, nw, ?_, ?_, ?_, a1, a2⟩
  · unfold foB; rw [od, a1]; unfold imax iadd; rw [w_i64_in (by omega)]; omega
  · unfold foB; rw [nw, a3]; unfold imax iadd; rw [w_i64_in (by omega)]; omega
  · unfold foB; rw [nw, a2]; unfold imax iadd; rw [w_i64_in (by omega)]; omega
theorem eq3_s (a b c : Int) : eq3 a b c a b c = true := by unfold eq3; simp [andB, ieq_d]
theorem fr_t (a b c x y z : Int) (h1 : 0 ≤ f38r0 a x) (h2 : 0 ≤ f38r0 b y) (h3 : 0 ≤ f38r0 c z) : f25r0 a b c x y z = true := by
  unfold f25r0; simp only [ilt_d]
  rw [decide_eq_false (by omega), decide_eq_false (by omega), decide_eq_false (by omega)]; rfl
theorem fr_f (a b c x y z : Int) (h : f38r0 a x < 0 ∨ f38r0 b y < 0 ∨ f38r0 c z < 0) : f25r0 a b c x y z = false := by
  unfold f25r0; simp only [ilt_d]
  by_cases h1 : f38r0 a x < 0 <;> by_cases h2 : f38r0 b y < 0 <;> by_cases h3 : f38r0 c z < 0 <;> first | (exfalso; omega) | simp [h1, h2, h3, ieq_d]
theorem back (a b c x y z : Int) (ha : -2147483648 ≤ a ∧ a ≤ 2147483647) (hb : -2147483648 ≤ b ∧ b ≤ 2147483647) (hc : -2147483648 ≤ c ∧ c ≤ 2147483647) (hx : 0 ≤ x ∧ x ≤ 4294967295) (hy : 0 ≤ y ∧ y ≤ 4294967295) (hz : 0 ≤ z ∧ z ≤ 4294967295) :
    f6r0 a b c x y z = true := by
  obtain ⟨p, P0, P1, P2, P3, P4, P5, P6, P7, P8⟩ := one a x ha hx
  obtain ⟨q, Q0, Q1, Q2, Q3, Q4, Q5, Q6, Q7, Q8⟩ := one b y hb hy
  obtain ⟨r, R0, R1, R2, R3, R4, R5, R6, R7, R8⟩ := one c z hc hz
  have fr : f25r0 a b c (tdB a x) (tdB b y) (tdB c z) = true := fr_t _ _ _ _ _ _ (by omega) (by omega) (by omega)
  unfold f6r0
  rw [P4, Q4, R4, P5, Q5, R5, P6, Q6, R6, P2, Q2, R2, P3, Q3, R3, eq3_s, fr]
  simp only [ine_d, cond_true]
  by_cases hp : p = 0
  · by_cases hq : q = 0
    · by_cases hr : r = 0
      · rw [fr_t (a + p) (b + q) (c + r) (wsB a) (wsB b) (wsB c) (by omega) (by omega) (by omega)]
        rw [decide_eq_false (by omega), decide_eq_false (by omega), decide_eq_false (by omega)]; rfl
      · rw [fr_f (a + p) (b + q) (c + r) (wsB a) (wsB b) (wsB c) (by omega)]
        rw [decide_eq_false (by omega : ¬ (a + p ≠ a)), decide_eq_false (by omega : ¬ (b + q ≠ b)), decide_eq_true (by omega : c + r ≠ c)]; rfl
    · rw [fr_f (a + p) (b + q) (c + r) (wsB a) (wsB b) (wsB c) (by omega)]
      rw [decide_eq_false (by omega : ¬ (a + p ≠ a)), decide_eq_true (by omega : b + q ≠ b)]; rfl
  · rw [fr_f (a + p) (b + q) (c + r) (wsB a) (wsB b) (wsB c) (by omega)]
    rw [decide_eq_true (by omega : a + p ≠ a)]; rfl
theorem lawBack (a b c x y z : Int) (w0 : (Lit.int .i32 a).wf = true) (w1 : (Lit.int .i32 b).wf = true) (w2 : (Lit.int .i32 c).wf = true) (w3 : (Lit.int .u32 x).wf = true) (w4 : (Lit.int .u32 y).wf = true) (w5 : (Lit.int .u32 z).wf = true) :
    ACalls Try.prog 6 [.agg [.v (.int .i32 a), .v (.int .i32 b), .v (.int .i32 c)], .agg [.v (.int .u32 x), .v (.int .u32 y), .v (.int .u32 z)]] [] (.v (.bool true)) [] [] := by
  have h := f6 a b c x y z
  rw [back a b c x y z (wf_i32' w0) (wf_i32' w1) (wf_i32' w2) (wf_u32' w3) (wf_u32' w4) (wf_u32' w5)] at h
  exact h
end Go.Proofs.Ytfihmphhklplnaa.Field
