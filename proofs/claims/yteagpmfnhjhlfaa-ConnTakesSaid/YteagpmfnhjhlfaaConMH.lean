import Derived.Test.YteagpmfnhjhlfaaConI
import Derived.Test.YteagpmfnhjhlfaaConJ
import Derived.Test.YteagpmfnhjhlfaaConLH
set_option linter.unusedVariables false
set_option linter.unusedSimpArgs false
set_option maxRecDepth 100000
set_option maxHeartbeats 4000000
namespace Go.Proofs.Yteagpmfnhjhlfaa.Con
open Go.Abs Go.Proofs.Yteagpmfnhjhlfaa.Ser
def w32 (q : Int) : Bool := decide (0 ≤ q) && decide (q < 4294967296)
theorem rbt (f : Int) (hf : b8 f = true) : rb f 1 = bt f 1 ∧ rb f 2 = bt f 2 ∧ rb f 4 = bt f 4 ∧ rb f 16 = bt f 16 := bt_r f hf
theorem code_eq (b : Int) : ieq (shk b) 0 = (ilt b 0 || ilt 3 b) := by
  rw [ieq_d, ilt_d, ilt_d]; unfold shk
  by_cases h : b < 0 ∨ 3 < b
  · have e : ¬ b = 0 ∧ ¬ b = 1 ∧ ¬ b = 2 ∧ ¬ b = 3 := by omega
    simp [e, h]
  · have e : b = 0 ∨ b = 1 ∨ b = 2 ∨ b = 3 := by omega
    rcases e with e | e | e | e <;> subst e <;> simp
theorem prev_eq (q y : Int) (hq : w32 q = true) (hy : w32 y = true) : (iadd .u32 q 1 = y) = (q = isub .u32 y 1) := by
  simp [w32] at hq hy
  apply propext; unfold iadd isub; rw [w_u32, w_u32]; omega
theorem e0 (t n i u x y m k p z l s d q a o e f w g r b : Int) (hf : b8 f = true) (hq : w32 q = true) (hy : w32 y = true) : f8r0 t n i u x y m k p z l s d q a o e f w g r b = f7r0 t n i u x y m k p z l s d q a o e f w g r b := by
  obtain ⟨r1, r2, r4, r16⟩ := rbt f hf
  have pe := prev_eq q y hq hy
  have ce := code_eq b
  unfold f8r0 f7r0
  simp only [ce, f26r0, f27r0, f27r1, f27r2, f27r3, f27r4, f27r5, f27r6, f27r7, f27r8, f28r0, f28r1, f28r2, f28r3, f28r4, f28r5, f28r6, f29r0, f29r1, f29r2, f29r3, f29r4, f30r0, f30r1, f30r2, f30r3, f30r4, f30r5, f30r6, f30r7, f30r8, f30r9, f32r0, f32r1, f35r0, f35r1, f35r2, f54r0, f42r0, f51r0, f52r0, f52r1, f52r2, r1, r2, r4, r16, ilt_d, ile_d, ieq_d, ine_d, notB_d, bt2, pe, cond_if, decide_eq_true_eq, Bool.or_eq_true, Bool.not_eq_true', decide_eq_false_iff_not, ne_eq]
  clear r1 r2 r4 r16 pe ce hf hq hy
  grind (splits := 60)
theorem e1 (t n i u x y m k p z l s d q a o e f w g r b : Int) (hf : b8 f = true) (hq : w32 q = true) (hy : w32 y = true) : f8r1 t n i u x y m k p z l s d q a o e f w g r b = f7r1 t n i u x y m k p z l s d q a o e f w g r b := by
  obtain ⟨r1, r2, r4, r16⟩ := rbt f hf
  have pe := prev_eq q y hq hy
  have ce := code_eq b
  unfold f8r1 f7r1
  simp only [ce, f26r0, f27r0, f27r1, f27r2, f27r3, f27r4, f27r5, f27r6, f27r7, f27r8, f28r0, f28r1, f28r2, f28r3, f28r4, f28r5, f28r6, f29r0, f29r1, f29r2, f29r3, f29r4, f30r0, f30r1, f30r2, f30r3, f30r4, f30r5, f30r6, f30r7, f30r8, f30r9, f32r0, f32r1, f35r0, f35r1, f35r2, f54r0, f42r0, f51r0, f52r0, f52r1, f52r2, r1, r2, r4, r16, ilt_d, ile_d, ieq_d, ine_d, notB_d, bt2, pe, cond_if, decide_eq_true_eq, Bool.or_eq_true, Bool.not_eq_true', decide_eq_false_iff_not, ne_eq]
  clear r1 r2 r4 r16 pe ce hf hq hy
  grind (splits := 60)
theorem e2 (t n i u x y m k p z l s d q a o e f w g r b : Int) (hf : b8 f = true) (hq : w32 q = true) (hy : w32 y = true) : f8r2 t n i u x y m k p z l s d q a o e f w g r b = f7r2 t n i u x y m k p z l s d q a o e f w g r b := by
  obtain ⟨r1, r2, r4, r16⟩ := rbt f hf
  have pe := prev_eq q y hq hy
  have ce := code_eq b
  unfold f8r2 f7r2
  simp only [ce, f26r0, f27r0, f27r1, f27r2, f27r3, f27r4, f27r5, f27r6, f27r7, f27r8, f28r0, f28r1, f28r2, f28r3, f28r4, f28r5, f28r6, f29r0, f29r1, f29r2, f29r3, f29r4, f30r0, f30r1, f30r2, f30r3, f30r4, f30r5, f30r6, f30r7, f30r8, f30r9, f32r0, f32r1, f35r0, f35r1, f35r2, f54r0, f42r0, f51r0, f52r0, f52r1, f52r2, r1, r2, r4, r16, ilt_d, ile_d, ieq_d, ine_d, notB_d, bt2, pe, cond_if, decide_eq_true_eq, Bool.or_eq_true, Bool.not_eq_true', decide_eq_false_iff_not, ne_eq]
  clear r1 r2 r4 r16 pe ce hf hq hy
  grind (splits := 60)
theorem e3 (t n i u x y m k p z l s d q a o e f w g r b : Int) (hf : b8 f = true) (hq : w32 q = true) (hy : w32 y = true) : f8r3 t n i u x y m k p z l s d q a o e f w g r b = f7r3 t n i u x y m k p z l s d q a o e f w g r b := by
  obtain ⟨r1, r2, r4, r16⟩ := rbt f hf
  have pe := prev_eq q y hq hy
  have ce := code_eq b
  unfold f8r3 f7r3
  simp only [ce, f26r0, f27r0, f27r1, f27r2, f27r3, f27r4, f27r5, f27r6, f27r7, f27r8, f28r0, f28r1, f28r2, f28r3, f28r4, f28r5, f28r6, f29r0, f29r1, f29r2, f29r3, f29r4, f30r0, f30r1, f30r2, f30r3, f30r4, f30r5, f30r6, f30r7, f30r8, f30r9, f32r0, f32r1, f35r0, f35r1, f35r2, f54r0, f42r0, f51r0, f52r0, f52r1, f52r2, r1, r2, r4, r16, ilt_d, ile_d, ieq_d, ine_d, notB_d, bt2, pe, cond_if, decide_eq_true_eq, Bool.or_eq_true, Bool.not_eq_true', decide_eq_false_iff_not, ne_eq]
  clear r1 r2 r4 r16 pe ce hf hq hy
  grind (splits := 60)
theorem e4 (t n i u x y m k p z l s d q a o e f w g r b : Int) (hf : b8 f = true) (hq : w32 q = true) (hy : w32 y = true) : f8r4 t n i u x y m k p z l s d q a o e f w g r b = f7r4 t n i u x y m k p z l s d q a o e f w g r b := by
  obtain ⟨r1, r2, r4, r16⟩ := rbt f hf
  have pe := prev_eq q y hq hy
  have ce := code_eq b
  unfold f8r4 f7r4
  simp only [ce, f26r0, f27r0, f27r1, f27r2, f27r3, f27r4, f27r5, f27r6, f27r7, f27r8, f28r0, f28r1, f28r2, f28r3, f28r4, f28r5, f28r6, f29r0, f29r1, f29r2, f29r3, f29r4, f30r0, f30r1, f30r2, f30r3, f30r4, f30r5, f30r6, f30r7, f30r8, f30r9, f32r0, f32r1, f35r0, f35r1, f35r2, f54r0, f42r0, f51r0, f52r0, f52r1, f52r2, r1, r2, r4, r16, ilt_d, ile_d, ieq_d, ine_d, notB_d, bt2, pe, cond_if, decide_eq_true_eq, Bool.or_eq_true, Bool.not_eq_true', decide_eq_false_iff_not, ne_eq]
  clear r1 r2 r4 r16 pe ce hf hq hy
  grind (splits := 60)
theorem e5 (t n i u x y m k p z l s d q a o e f w g r b : Int) (hf : b8 f = true) (hq : w32 q = true) (hy : w32 y = true) : f8r5 t n i u x y m k p z l s d q a o e f w g r b = f7r5 t n i u x y m k p z l s d q a o e f w g r b := by
  obtain ⟨r1, r2, r4, r16⟩ := rbt f hf
  have pe := prev_eq q y hq hy
  have ce := code_eq b
  unfold f8r5 f7r5
  simp only [ce, f26r0, f27r0, f27r1, f27r2, f27r3, f27r4, f27r5, f27r6, f27r7, f27r8, f28r0, f28r1, f28r2, f28r3, f28r4, f28r5, f28r6, f29r0, f29r1, f29r2, f29r3, f29r4, f30r0, f30r1, f30r2, f30r3, f30r4, f30r5, f30r6, f30r7, f30r8, f30r9, f32r0, f32r1, f35r0, f35r1, f35r2, f54r0, f42r0, f51r0, f52r0, f52r1, f52r2, r1, r2, r4, r16, ilt_d, ile_d, ieq_d, ine_d, notB_d, bt2, pe, cond_if, decide_eq_true_eq, Bool.or_eq_true, Bool.not_eq_true', decide_eq_false_iff_not, ne_eq]
  clear r1 r2 r4 r16 pe ce hf hq hy
  grind (splits := 60)
theorem e6 (t n i u x y m k p z l s d q a o e f w g r b : Int) (hf : b8 f = true) (hq : w32 q = true) (hy : w32 y = true) : f8r6 t n i u x y m k p z l s d q a o e f w g r b = f7r6 t n i u x y m k p z l s d q a o e f w g r b := by
  obtain ⟨r1, r2, r4, r16⟩ := rbt f hf
  have pe := prev_eq q y hq hy
  have ce := code_eq b
  unfold f8r6 f7r6
  simp only [ce, f26r0, f27r0, f27r1, f27r2, f27r3, f27r4, f27r5, f27r6, f27r7, f27r8, f28r0, f28r1, f28r2, f28r3, f28r4, f28r5, f28r6, f29r0, f29r1, f29r2, f29r3, f29r4, f30r0, f30r1, f30r2, f30r3, f30r4, f30r5, f30r6, f30r7, f30r8, f30r9, f32r0, f32r1, f35r0, f35r1, f35r2, f54r0, f42r0, f51r0, f52r0, f52r1, f52r2, r1, r2, r4, r16, ilt_d, ile_d, ieq_d, ine_d, notB_d, bt2, pe, cond_if, decide_eq_true_eq, Bool.or_eq_true, Bool.not_eq_true', decide_eq_false_iff_not, ne_eq]
  clear r1 r2 r4 r16 pe ce hf hq hy
  grind (splits := 60)
theorem e7 (t n i u x y m k p z l s d q a o e f w g r b : Int) (hf : b8 f = true) (hq : w32 q = true) (hy : w32 y = true) : f8r7 t n i u x y m k p z l s d q a o e f w g r b = f7r7 t n i u x y m k p z l s d q a o e f w g r b := by
  obtain ⟨r1, r2, r4, r16⟩ := rbt f hf
  have pe := prev_eq q y hq hy
  have ce := code_eq b
  unfold f8r7 f7r7
  simp only [ce, f26r0, f27r0, f27r1, f27r2, f27r3, f27r4, f27r5, f27r6, f27r7, f27r8, f28r0, f28r1, f28r2, f28r3, f28r4, f28r5, f28r6, f29r0, f29r1, f29r2, f29r3, f29r4, f30r0, f30r1, f30r2, f30r3, f30r4, f30r5, f30r6, f30r7, f30r8, f30r9, f32r0, f32r1, f35r0, f35r1, f35r2, f54r0, f42r0, f51r0, f52r0, f52r1, f52r2, r1, r2, r4, r16, ilt_d, ile_d, ieq_d, ine_d, notB_d, bt2, pe, cond_if, decide_eq_true_eq, Bool.or_eq_true, Bool.not_eq_true', decide_eq_false_iff_not, ne_eq]
  clear r1 r2 r4 r16 pe ce hf hq hy
  grind (splits := 60)
theorem e8 (t n i u x y m k p z l s d q a o e f w g r b : Int) (hf : b8 f = true) (hq : w32 q = true) (hy : w32 y = true) : f8r8 t n i u x y m k p z l s d q a o e f w g r b = f7r8 t n i u x y m k p z l s d q a o e f w g r b := by
  obtain ⟨r1, r2, r4, r16⟩ := rbt f hf
  have pe := prev_eq q y hq hy
  have ce := code_eq b
  unfold f8r8 f7r8
  simp only [ce, f26r0, f27r0, f27r1, f27r2, f27r3, f27r4, f27r5, f27r6, f27r7, f27r8, f28r0, f28r1, f28r2, f28r3, f28r4, f28r5, f28r6, f29r0, f29r1, f29r2, f29r3, f29r4, f30r0, f30r1, f30r2, f30r3, f30r4, f30r5, f30r6, f30r7, f30r8, f30r9, f32r0, f32r1, f35r0, f35r1, f35r2, f54r0, f42r0, f51r0, f52r0, f52r1, f52r2, r1, r2, r4, r16, ilt_d, ile_d, ieq_d, ine_d, notB_d, bt2, pe, cond_if, decide_eq_true_eq, Bool.or_eq_true, Bool.not_eq_true', decide_eq_false_iff_not, ne_eq]
  clear r1 r2 r4 r16 pe ce hf hq hy
  grind (splits := 60)
theorem e9 (t n i u x y m k p z l s d q a o e f w g r b : Int) (hf : b8 f = true) (hq : w32 q = true) (hy : w32 y = true) : f8r9 t n i u x y m k p z l s d q a o e f w g r b = f7r9 t n i u x y m k p z l s d q a o e f w g r b := by
  obtain ⟨r1, r2, r4, r16⟩ := rbt f hf
  have pe := prev_eq q y hq hy
  have ce := code_eq b
  unfold f8r9 f7r9
  simp only [ce, f26r0, f27r0, f27r1, f27r2, f27r3, f27r4, f27r5, f27r6, f27r7, f27r8, f28r0, f28r1, f28r2, f28r3, f28r4, f28r5, f28r6, f29r0, f29r1, f29r2, f29r3, f29r4, f30r0, f30r1, f30r2, f30r3, f30r4, f30r5, f30r6, f30r7, f30r8, f30r9, f32r0, f32r1, f35r0, f35r1, f35r2, f54r0, f42r0, f51r0, f52r0, f52r1, f52r2, r1, r2, r4, r16, ilt_d, ile_d, ieq_d, ine_d, notB_d, bt2, pe, cond_if, decide_eq_true_eq, Bool.or_eq_true, Bool.not_eq_true', decide_eq_false_iff_not, ne_eq]
  clear r1 r2 r4 r16 pe ce hf hq hy
  grind (splits := 60)
theorem one_c (c : Bool) (a b : LH) (ha : one a = true) (hb : one b = true) : one (bif c then a else b) = true := by cases c <;> assumption
theorem oneL (t n i u x y m k p z l s d q a o e f w g r b : Int) : one (f7r9 t n i u x y m k p z l s d q a o e f w g r b) = true := by
  unfold f7r9
  simp only [f26r0, f27r0, f27r1, f27r2, f27r3, f27r4, f27r5, f27r6, f27r7, f27r8, f28r0, f28r1, f28r2, f28r3, f28r4, f28r5, f28r6, f29r0, f29r1, f29r2, f29r3, f29r4, f30r0, f30r1, f30r2, f30r3, f30r4, f30r5, f30r6, f30r7, f30r8, f30r9, f32r0, f32r1, f35r0, f35r1, f35r2, f54r0, f42r0, f51r0, f52r0, f52r1, f52r2]
  repeat' first | apply one_c | rfl
theorem g8 (t n i u x y m k p z l s d q a o e f w g r b : Int) (hf : b8 f = true) (hq : w32 q = true) (hy : w32 y = true) : ACalls Try.prog 8 [.agg [.v (.int .i64 t), .v (.int .i64 n), .v (.int .u32 i), .v (.int .u32 u), .v (.int .u32 x), .v (.int .u32 y), .v (.int .i64 m), .v (.int .i64 k), .v (.int .u8 p), .v (.int .i64 z), .v (.int .i64 l)], .agg [.v (.int .u16 s), .v (.int .u16 d), .v (.int .u32 q), .v (.int .u32 a), .v (.int .u8 o), .v (.int .u8 e), .v (.int .u8 f), .v (.int .u16 w), .v (.int .u16 g), .v (.int .u16 r)], .v (.int .i64 b)] [] (.tup [.agg [.v (.int .i64 (f7r0 t n i u x y m k p z l s d q a o e f w g r b)), .v (.int .i64 n), .v (.int .u32 i), .v (.int .u32 (f7r1 t n i u x y m k p z l s d q a o e f w g r b)), .v (.int .u32 (f7r2 t n i u x y m k p z l s d q a o e f w g r b)), .v (.int .u32 (f7r3 t n i u x y m k p z l s d q a o e f w g r b)), .v (.int .i64 (f7r4 t n i u x y m k p z l s d q a o e f w g r b)), .v (.int .i64 (f7r5 t n i u x y m k p z l s d q a o e f w g r b)), .v (.int .u8 (f7r6 t n i u x y m k p z l s d q a o e f w g r b)), .v (.int .i64 (f7r7 t n i u x y m k p z l s d q a o e f w g r b)), .v (.int .i64 (f7r8 t n i u x y m k p z l s d q a o e f w g r b))], .sw 0 10]) [] [.rows true [.int .u16, .int .u16, .int .u32, .int .u32, .int .u8, .int .u8, .int .u8, .int .u16, .int .u16, .int .u16] (f7r9 t n i u x y m k p z l s d q a o e f w g r b)] := by
  have h := f8 t n i u x y m k p z l s d q a o e f w g r b
  rw [e0 t n i u x y m k p z l s d q a o e f w g r b hf hq hy, e1 t n i u x y m k p z l s d q a o e f w g r b hf hq hy, e2 t n i u x y m k p z l s d q a o e f w g r b hf hq hy, e3 t n i u x y m k p z l s d q a o e f w g r b hf hq hy, e4 t n i u x y m k p z l s d q a o e f w g r b hf hq hy, e5 t n i u x y m k p z l s d q a o e f w g r b hf hq hy, e6 t n i u x y m k p z l s d q a o e f w g r b hf hq hy, e7 t n i u x y m k p z l s d q a o e f w g r b hf hq hy, e8 t n i u x y m k p z l s d q a o e f w g r b hf hq hy, e9 t n i u x y m k p z l s d q a o e f w g r b hf hq hy] at h
  exact h
end Go.Proofs.Yteagpmfnhjhlfaa.Con
