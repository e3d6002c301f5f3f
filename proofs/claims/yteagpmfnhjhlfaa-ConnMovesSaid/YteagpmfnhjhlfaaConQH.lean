import Derived.Test.YteagpmfnhjhlfaaConC
import Derived.Test.YteagpmfnhjhlfaaConLH
import Derived.Test.YteagpmfnhjhlfaaConN
set_option linter.unusedVariables false
set_option linter.unusedSimpArgs false
set_option maxRecDepth 100000
set_option maxHeartbeats 4000000
namespace Go.Proofs.Yteagpmfnhjhlfaa.Con
open Go.Abs
theorem f24_0 : ACalls Try.prog 24 [.v (.int .i64 0)] [] (.v (.string (bs [99, 108, 111, 115, 101, 100]))) [] [] :=
  .of_out [.br false, .br false] [] [isB (ilt 0 0) false, isB (ilt 10 0) false, inB 0 11, ltN (idxN 0 0) 11] Try.func24 (by kernel_rfl) (by kernel_rfl) (.cons (ilt_f (by omega)) (.cons (ilt_f (by omega)) (.cons (by decide) (.cons (by decide) .nil))))
theorem f24_1 : ACalls Try.prog 24 [.v (.int .i64 1)] [] (.v (.string (bs [108, 105, 115, 116, 101, 110, 105, 110, 103]))) [] [] :=
  .of_out [.br false, .br false] [] [isB (ilt 1 0) false, isB (ilt 10 1) false, inB 1 11, ltN (idxN 0 1) 11] Try.func24 (by kernel_rfl) (by kernel_rfl) (.cons (ilt_f (by omega)) (.cons (ilt_f (by omega)) (.cons (by decide) (.cons (by decide) .nil))))
theorem f24_2 : ACalls Try.prog 24 [.v (.int .i64 2)] [] (.v (.string (bs [97, 115, 107, 101, 100]))) [] [] :=
  .of_out [.br false, .br false] [] [isB (ilt 2 0) false, isB (ilt 10 2) false, inB 2 11, ltN (idxN 0 2) 11] Try.func24 (by kernel_rfl) (by kernel_rfl) (.cons (ilt_f (by omega)) (.cons (ilt_f (by omega)) (.cons (by decide) (.cons (by decide) .nil))))
theorem f24_3 : ACalls Try.prog 24 [.v (.int .i64 3)] [] (.v (.string (bs [116, 111, 108, 100]))) [] [] :=
  .of_out [.br false, .br false] [] [isB (ilt 3 0) false, isB (ilt 10 3) false, inB 3 11, ltN (idxN 0 3) 11] Try.func24 (by kernel_rfl) (by kernel_rfl) (.cons (ilt_f (by omega)) (.cons (ilt_f (by omega)) (.cons (by decide) (.cons (by decide) .nil))))
theorem f24_4 : ACalls Try.prog 24 [.v (.int .i64 4)] [] (.v (.string (bs [111, 112, 101, 110]))) [] [] :=
  .of_out [.br false, .br false] [] [isB (ilt 4 0) false, isB (ilt 10 4) false, inB 4 11, ltN (idxN 0 4) 11] Try.func24 (by kernel_rfl) (by kernel_rfl) (.cons (ilt_f (by omega)) (.cons (ilt_f (by omega)) (.cons (by decide) (.cons (by decide) .nil))))
theorem f24_5 : ACalls Try.prog 24 [.v (.int .i64 5)] [] (.v (.string (bs [102, 105, 110, 49]))) [] [] :=
  .of_out [.br false, .br false] [] [isB (ilt 5 0) false, isB (ilt 10 5) false, inB 5 11, ltN (idxN 0 5) 11] Try.func24 (by kernel_rfl) (by kernel_rfl) (.cons (ilt_f (by omega)) (.cons (ilt_f (by omega)) (.cons (by decide) (.cons (by decide) .nil))))
theorem f24_6 : ACalls Try.prog 24 [.v (.int .i64 6)] [] (.v (.string (bs [102, 105, 110, 50]))) [] [] :=
  .of_out [.br false, .br false] [] [isB (ilt 6 0) false, isB (ilt 10 6) false, inB 6 11, ltN (idxN 0 6) 11] Try.func24 (by kernel_rfl) (by kernel_rfl) (.cons (ilt_f (by omega)) (.cons (ilt_f (by omega)) (.cons (by decide) (.cons (by decide) .nil))))
theorem f24_7 : ACalls Try.prog 24 [.v (.int .i64 7)] [] (.v (.string (bs [99, 108, 111, 115, 105, 110, 103]))) [] [] :=
  .of_out [.br false, .br false] [] [isB (ilt 7 0) false, isB (ilt 10 7) false, inB 7 11, ltN (idxN 0 7) 11] Try.func24 (by kernel_rfl) (by kernel_rfl) (.cons (ilt_f (by omega)) (.cons (ilt_f (by omega)) (.cons (by decide) (.cons (by decide) .nil))))
theorem f24_8 : ACalls Try.prog 24 [.v (.int .i64 8)] [] (.v (.string (bs [119, 97, 105, 116]))) [] [] :=
  .of_out [.br false, .br false] [] [isB (ilt 8 0) false, isB (ilt 10 8) false, inB 8 11, ltN (idxN 0 8) 11] Try.func24 (by kernel_rfl) (by kernel_rfl) (.cons (ilt_f (by omega)) (.cons (ilt_f (by omega)) (.cons (by decide) (.cons (by decide) .nil))))
theorem f24_9 : ACalls Try.prog 24 [.v (.int .i64 9)] [] (.v (.string (bs [108, 101, 102, 116]))) [] [] :=
  .of_out [.br false, .br false] [] [isB (ilt 9 0) false, isB (ilt 10 9) false, inB 9 11, ltN (idxN 0 9) 11] Try.func24 (by kernel_rfl) (by kernel_rfl) (.cons (ilt_f (by omega)) (.cons (ilt_f (by omega)) (.cons (by decide) (.cons (by decide) .nil))))
theorem f24_10 : ACalls Try.prog 24 [.v (.int .i64 10)] [] (.v (.string (bs [108, 97, 115, 116]))) [] [] :=
  .of_out [.br false, .br false] [] [isB (ilt 10 0) false, isB (ilt 10 10) false, inB 10 11, ltN (idxN 0 10) 11] Try.func24 (by kernel_rfl) (by kernel_rfl) (.cons (ilt_f (by omega)) (.cons (ilt_f (by omega)) (.cons (by decide) (.cons (by decide) .nil))))
theorem f24_lo (t : Int) (h : t < 0) : ACalls Try.prog 24 [.v (.int .i64 t)] [] (.v (.string (bs []))) [] [] :=
  .of_out [.br true, .br true] [] [isB (ilt t 0) true, isB true true] Try.func24 (by kernel_rfl) (by kernel_rfl) (.cons (ilt_t h) (.cons rfl .nil))
theorem f24_hi (t : Int) (h : 11 ≤ t) : ACalls Try.prog 24 [.v (.int .i64 t)] [] (.v (.string (bs []))) [] [] :=
  .of_out [.br false, .br true] [] [isB (ilt t 0) false, isB (ilt 10 t) true] Try.func24 (by kernel_rfl) (by kernel_rfl) (.cons (ilt_f (by omega)) (.cons (ilt_t (by omega)) .nil))
theorem g24 (t : Int) : ACalls Try.prog 24 [.v (.int .i64 t)] [] (.v (.string (nm t))) [] [] := by
  by_cases h0 : t < 0
  · have e : nm t = bs [] := by unfold nm; repeat rw [if_neg (by omega)]
    rw [e]; exact f24_lo t h0
  by_cases h1 : 11 ≤ t
  · have e : nm t = bs [] := by unfold nm; repeat rw [if_neg (by omega)]
    rw [e]; exact f24_hi t h1
  have h : t = 0 ∨ t = 1 ∨ t = 2 ∨ t = 3 ∨ t = 4 ∨ t = 5 ∨ t = 6 ∨ t = 7 ∨ t = 8 ∨ t = 9 ∨ t = 10 := by omega
  rcases h with h | h | h | h | h | h | h | h | h | h | h
  · subst h; exact f24_0
  · subst h; exact f24_1
  · subst h; exact f24_2
  · subst h; exact f24_3
  · subst h; exact f24_4
  · subst h; exact f24_5
  · subst h; exact f24_6
  · subst h; exact f24_7
  · subst h; exact f24_8
  · subst h; exact f24_9
  · subst h; exact f24_10
theorem m16_0 (t n i u x y m k p z l : Int) : f16r0 t n i u x y m k p z l = f15r0 t n i u x y m k p z l := by
  unfold f16r0 f15r0
  simp only [f41r0, ilt_d, ile_d, ieq_d, ine_d, notB_d, cond_if, decide_eq_true_eq, Bool.not_eq_true', decide_eq_false_iff_not, ne_eq]
theorem m16_1 (t n i u x y m k p z l : Int) : f16r1 t n i u x y m k p z l = f15r1 t n i u x y m k p z l := by
  unfold f16r1 f15r1
  simp only [f41r0, ilt_d, ile_d, ieq_d, ine_d, notB_d, cond_if, decide_eq_true_eq, Bool.not_eq_true', decide_eq_false_iff_not, ne_eq]
theorem m16_2 (t n i u x y m k p z l : Int) : f16r2 t n i u x y m k p z l = f15r2 t n i u x y m k p z l := by
  unfold f16r2 f15r2
  simp only [f41r0, ilt_d, ile_d, ieq_d, ine_d, notB_d, cond_if, decide_eq_true_eq, Bool.not_eq_true', decide_eq_false_iff_not, ne_eq]
theorem m16_3 (t n i u x y m k p z l : Int) : f16r3 t n i u x y m k p z l = f15r3 t n i u x y m k p z l := by
  unfold f16r3 f15r3
  simp only [f41r0, ilt_d, ile_d, ieq_d, ine_d, notB_d, cond_if, decide_eq_true_eq, Bool.not_eq_true', decide_eq_false_iff_not, ne_eq]
  grind (splits := 60)
theorem g16 (t n i u x y m k p z l : Int) : ACalls Try.prog 16 [.agg [.v (.int .i64 t), .v (.int .i64 n), .v (.int .u32 i), .v (.int .u32 u), .v (.int .u32 x), .v (.int .u32 y), .v (.int .i64 m), .v (.int .i64 k), .v (.int .u8 p), .v (.int .i64 z), .v (.int .i64 l)]] [] (.tup [.agg [.v (.int .i64 (f15r0 t n i u x y m k p z l)), .v (.int .i64 n), .v (.int .u32 i), .v (.int .u32 (bif ine t 0 then u else i)), .v (.int .u32 (f15r1 t n i u x y m k p z l)), .v (.int .u32 y), .v (.int .i64 m), .v (.int .i64 k), .v (.int .u8 p), .v (.int .i64 z), .v (.int .i64 (f15r2 t n i u x y m k p z l))], .sw 0 10]) [] [.rows true [.int .u16, .int .u16, .int .u32, .int .u32, .int .u8, .int .u8, .int .u8, .int .u16, .int .u16, .int .u16] (f15r3 t n i u x y m k p z l)] := by
  have h := f16 t n i u x y m k p z l
  rw [m16_0 t n i u x y m k p z l, m16_1 t n i u x y m k p z l, m16_2 t n i u x y m k p z l, m16_3 t n i u x y m k p z l] at h
  exact h
theorem m18_0 (t n i u x y m k p z l : Int) : f18r0 t n i u x y m k p z l = f17r0 t n i u x y m k p z l := by
  unfold f18r0 f17r0
  simp only [f41r0, ilt_d, ile_d, ieq_d, ine_d, notB_d, cond_if, decide_eq_true_eq, Bool.not_eq_true', decide_eq_false_iff_not, ne_eq]
  grind (splits := 60)
theorem m18_1 (t n i u x y m k p z l : Int) : f18r1 t n i u x y m k p z l = f17r1 t n i u x y m k p z l := by
  unfold f18r1 f17r1
  simp only [f41r0, ilt_d, ile_d, ieq_d, ine_d, notB_d, cond_if, decide_eq_true_eq, Bool.not_eq_true', decide_eq_false_iff_not, ne_eq]
  grind (splits := 60)
theorem m18_2 (t n i u x y m k p z l : Int) : f18r2 t n i u x y m k p z l = f17r2 t n i u x y m k p z l := by
  unfold f18r2 f17r2
  simp only [f41r0, ilt_d, ile_d, ieq_d, ine_d, notB_d, cond_if, decide_eq_true_eq, Bool.not_eq_true', decide_eq_false_iff_not, ne_eq]
  grind (splits := 60)
theorem m18_3 (t n i u x y m k p z l : Int) : f18r3 t n i u x y m k p z l = f17r3 t n i u x y m k p z l := by
  unfold f18r3 f17r3
  simp only [f41r0, ilt_d, ile_d, ieq_d, ine_d, notB_d, cond_if, decide_eq_true_eq, Bool.not_eq_true', decide_eq_false_iff_not, ne_eq]
  grind (splits := 60)
theorem g18 (t n i u x y m k p z l : Int) : ACalls Try.prog 18 [.agg [.v (.int .i64 t), .v (.int .i64 n), .v (.int .u32 i), .v (.int .u32 u), .v (.int .u32 x), .v (.int .u32 y), .v (.int .i64 m), .v (.int .i64 k), .v (.int .u8 p), .v (.int .i64 z), .v (.int .i64 l)]] [] (.tup [.agg [.v (.int .i64 (f17r0 t n i u x y m k p z l)), .v (.int .i64 n), .v (.int .u32 i), .v (.int .u32 u), .v (.int .u32 (f17r1 t n i u x y m k p z l)), .v (.int .u32 y), .v (.int .i64 m), .v (.int .i64 k), .v (.int .u8 p), .v (.int .i64 z), .v (.int .i64 (f17r2 t n i u x y m k p z l))], .sw 0 10]) [] [.rows true [.int .u16, .int .u16, .int .u32, .int .u32, .int .u8, .int .u8, .int .u8, .int .u16, .int .u16, .int .u16] (f17r3 t n i u x y m k p z l)] := by
  have h := f18 t n i u x y m k p z l
  rw [m18_0 t n i u x y m k p z l, m18_1 t n i u x y m k p z l, m18_2 t n i u x y m k p z l, m18_3 t n i u x y m k p z l] at h
  exact h
theorem m19_0 (t n i u x y m k p z l : Int) : f19r0 t n i u x y m k p z l = f12r0 t n i u x y m k p z l := by
  unfold f19r0 f12r0
  simp only [f41r0, ilt_d, ile_d, ieq_d, ine_d, notB_d, cond_if, decide_eq_true_eq, Bool.not_eq_true', decide_eq_false_iff_not, ne_eq]
  grind (splits := 60)
theorem m19_1 (t n i u x y m k p z l : Int) : f19r1 t n i u x y m k p z l = f12r1 t n i u x y m k p z l := by
  unfold f19r1 f12r1
  simp only [f41r0, ilt_d, ile_d, ieq_d, ine_d, notB_d, cond_if, decide_eq_true_eq, Bool.not_eq_true', decide_eq_false_iff_not, ne_eq]
  grind (splits := 60)
theorem m19_2 (t n i u x y m k p z l : Int) : f19r2 t n i u x y m k p z l = f12r2 t n i u x y m k p z l := by
  unfold f19r2 f12r2
  simp only [f41r0, ilt_d, ile_d, ieq_d, ine_d, notB_d, cond_if, decide_eq_true_eq, Bool.not_eq_true', decide_eq_false_iff_not, ne_eq]
  grind (splits := 60)
theorem g19 (t n i u x y m k p z l : Int) : ACalls Try.prog 19 [.agg [.v (.int .i64 t), .v (.int .i64 n), .v (.int .u32 i), .v (.int .u32 u), .v (.int .u32 x), .v (.int .u32 y), .v (.int .i64 m), .v (.int .i64 k), .v (.int .u8 p), .v (.int .i64 z), .v (.int .i64 l)]] [] (.tup [.agg [.v (.int .i64 (f12r0 t n i u x y m k p z l)), .v (.int .i64 n), .v (.int .u32 i), .v (.int .u32 u), .v (.int .u32 x), .v (.int .u32 y), .v (.int .i64 m), .v (.int .i64 k), .v (.int .u8 p), .v (.int .i64 z), .v (.int .i64 (f12r1 t n i u x y m k p z l))], .sw 0 10]) [] [.rows true [.int .u16, .int .u16, .int .u32, .int .u32, .int .u8, .int .u8, .int .u8, .int .u16, .int .u16, .int .u16] (f12r2 t n i u x y m k p z l)] := by
  have h := f19 t n i u x y m k p z l
  rw [m19_0 t n i u x y m k p z l, m19_1 t n i u x y m k p z l, m19_2 t n i u x y m k p z l] at h
  exact h
theorem one_c' (c : Bool) (a b : LH) (ha : one a = true) (hb : one b = true) : one (bif c then a else b) = true := by cases c <;> assumption
theorem one15 (t n i u x y m k p z l : Int) : one (f15r3 t n i u x y m k p z l) = true := by
  unfold f15r3
  repeat' first | apply one_c' | rfl
theorem one17 (t n i u x y m k p z l : Int) : one (f17r3 t n i u x y m k p z l) = true := by
  unfold f17r3
  repeat' first | apply one_c' | rfl
theorem one12 (t n i u x y m k p z l : Int) : one (f12r2 t n i u x y m k p z l) = true := by
  unfold f12r2
  repeat' first | apply one_c' | rfl
end Go.Proofs.Yteagpmfnhjhlfaa.Con
