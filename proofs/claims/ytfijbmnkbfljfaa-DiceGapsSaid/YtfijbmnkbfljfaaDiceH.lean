import Derived.Test.YtfijbmnkbfljfaaDice
set_option linter.unusedVariables false
set_option linter.unusedSimpArgs false
set_option maxRecDepth 100000
namespace Go.Proofs.Ytfijbmnkbfljfaa.Dice
open Go.Abs
/-- the hit of a place's draw is the document's -/
theorem hit_eq (x s : Int) (h0 : 0 ≤ x) (h1 : x < 4294967296) : (bif ile s 0 then false else bif ile 1048576 s then true else ilt (icv .i64 x) (ishl .i64 s 12)) = f24r0 x s := by
  unfold f24r0
  simp only [ilt_d, ile_d, cond_if, decide_eq_true_eq]
  by_cases h2 : s ≤ 0
  · simp [h2]
  by_cases h3 : 1048576 ≤ s
  · simp [h2, h3]
  simp only [h2, h3, if_false]
  have e1 : icv .i64 x = x := by unfold icv; exact w_i64_in (by omega)
  have e2 : ishl .i64 s 12 = s * 4096 := by
    unfold ishl
    rw [show min (12 : Int).toNat (IntKind.bits .i64) = 12 from rfl]
    rw [show (2 : Int) ^ 12 = 4096 from rfl]; exact w_i64_in (by omega)
  have e3 : iquo .i64 x 4096 = x / 4096 := by
    unfold iquo
    rw [Int.tdiv_eq_ediv_of_nonneg h0]; exact w_i64_in (by omega)
  rw [e1, e2, e3]
  congr 1
  apply propext
  omega
theorem f49_one (x : Int) : f49r0 [x] 0 = x := rfl
theorem hit_one (x s : Int) (h0 : 0 ≤ x) (h1 : x < 4294967296) : f23r0 [x] 0 0 s = f24r0 x s := by
  unfold f23r0; rw [f49_one]; exact hit_eq x s h0 h1
theorem hit_is (x s : Int) (h0 : 0 ≤ x) (h1 : x < 4294967296) : f24r0 x s = decide (0 < s ∧ (1048576 ≤ s ∨ x / 4096 < s)) := by
  have e3 : icv .i64 x = x := by unfold icv; exact w_i64_in (by omega)
  have e4 : iquo .i64 x 4096 = x / 4096 := by
    unfold iquo
    rw [Int.tdiv_eq_ediv_of_nonneg h0]; exact w_i64_in (by omega)
  unfold f24r0
  rw [e3, e4]
  simp only [ilt_d, ile_d, cond_if, decide_eq_true_eq]
  by_cases h2 : s ≤ 0
  · rw [if_pos h2]; exact (decide_eq_false (by omega)).symm
  rw [if_neg h2]
  by_cases h3 : 1048576 ≤ s
  · rw [if_pos h3]; exact (decide_eq_true (by omega)).symm
  rw [if_neg h3]
  congr 1; apply propext; omega
theorem bif3 (a b c d : Bool) : (bif !a then bif !c then bif d then true else false else false else bif b then bif !c then bif d then true else false else false else false) = ((!a || b) && (!c && d)) := by
  cases a <;> cases b <;> cases c <;> cases d <;> rfl
theorem rises_eq (x s m : Int) (h0 : 0 ≤ x) (h1 : x < 4294967296) : f6r0 x s m = true := by
  unfold f6r0
  simp only [hit_one x _ h0 h1]
  have e1 : icv .i64 (ishr .u32 x 12) = x / 4096 := by
    unfold ishr
    rw [show min (12 : Int).toNat (IntKind.bits .u32) = 12 from rfl, show (2 : Int) ^ 12 = 4096 from rfl]
    unfold icv; exact w_i64_in (by omega)
  have e2 : iadd .i64 (x / 4096) 1 = x / 4096 + 1 := by unfold iadd; exact w_i64_in (by omega)
  rw [e1, e2]
  simp only [hit_is x _ h0 h1, notB_d, imin, imax, bif3]
  have g1 : 0 ≤ x / 4096 := by omega
  have g2 : x / 4096 < 1048576 := by omega
  generalize x / 4096 = z at *
  simp only [Bool.and_eq_true, Bool.or_eq_true, Bool.not_eq_true', decide_eq_true_eq, decide_eq_false_iff_not]
  omega
theorem dice_rises (x s m : Int) (h0 : 0 ≤ x) (h1 : x < 4294967296) : ACalls Try.prog 6 [AV.v (.int .u32 x), AV.v (.int .i64 s), AV.v (.int .i64 m)] [] (AV.v (Value.bool true)) [] [] := by
  have := f6 x s m (by unfold fitN lenI; simp) rfl
  rw [rises_eq x s m h0 h1] at this; exact this
theorem law_rises (x s m : Int) (w0 : (Lit.int .u32 x).wf = true) (w1 : (Lit.int .i64 s).wf = true) (w2 : (Lit.int .i64 m).wf = true) :
    ACalls Try.prog 6 [AV.v (.int .u32 x), AV.v (.int .i64 s), AV.v (.int .i64 m)] [] (AV.v (Value.bool true)) [] [] :=
  dice_rises x s m (wf_u32' w0).1 (by have := (wf_u32' w0).2; omega)
end Go.Proofs.Ytfijbmnkbfljfaa.Dice
