import Derived.Test.YtnejcdinieaemaaDoorAbsO
import Derived.Test.YtnejcdinieaemaaDoorTrZ
set_option maxRecDepth 100000
set_option linter.all false
set_option maxHeartbeats 4000000
set_option linter.unusedSimpArgs false
set_option linter.unusedVariables false
namespace Go.Proofs.YtnejcdinieaemaaDoor.Tr
open Go.Abs
def f27r0 (x : Int) : ByteArray := bif (ilt x 0) then (sadd (bs [45]) (dS x)) else (dS (isub .i64 0 x))
theorem f27_1 (x : Int)  (d0 : (ilt x 0) = true) (s0 : ((ilt x 0) = true) → (dP x) = true) (s1 : ((ilt x 0) = true) → sfit (bs [45]) (dS x)) : ACalls Tryd.prog 27 [AV.v (.int .i64 x)] [] (AV.v (Value.string (sadd (bs [45]) (dS x)))) [] [] :=
  ACalls.nb (res := AV.v (Value.string (sadd (bs [45]) (dS x)))) (.of_out [Orc.br true, Orc.call [] (AV.v (Value.string (dS x))) [] []] [] [isB (ilt x 0) true, ACalls Tryd.prog 55 [AV.v (.int .i64 x)] [] (AV.v (Value.string (dS x))) [] [], sfit (bs [45]) (dS x)] Tryd.func27 (by kernel_rfl) (by kernel_rfl) (.cons d0 (.cons (by apply g55 <;> (first | exact (s0 d0))) (.cons (s1 d0) .nil))))
theorem f27_2 (x : Int)  (d0 : (ilt x 0) = false) (s2 : ((ilt x 0) = false) → (dP (isub .i64 0 x)) = true) : ACalls Tryd.prog 27 [AV.v (.int .i64 x)] [] (AV.v (Value.string (dS (isub .i64 0 x)))) [] [] :=
  ACalls.nb (res := AV.v (Value.string (dS (isub .i64 0 x)))) (.of_out [Orc.br false, Orc.call [] (AV.v (Value.string (dS (isub .i64 0 x)))) [] []] [] [isB (ilt x 0) false, ACalls Tryd.prog 55 [AV.v (.int .i64 (isub .i64 0 x))] [] (AV.v (Value.string (dS (isub .i64 0 x)))) [] []] Tryd.func27 (by kernel_rfl) (by kernel_rfl) (.cons d0 (.cons (by apply g55 <;> (first | exact (s2 d0))) .nil)))
theorem f27 (x : Int) (s0 : ((ilt x 0) = true) → (dP x) = true) (s1 : ((ilt x 0) = true) → sfit (bs [45]) (dS x)) (s2 : ((ilt x 0) = false) → (dP (isub .i64 0 x)) = true) : ACalls Tryd.prog 27 [AV.v (.int .i64 x)] [] (AV.v (Value.string (f27r0 x))) [] [] := by
  have h := (ACalls.cond (ilt x 0) (fun d0 => (f27_1 x d0 s0 s1)) (fun d0 => (f27_2 x d0 s2)))
  simp only [c_int, c_bool, c_str, c_agg, c_tup, c_fn, c_ifc, c_sl, c_pe, c_ptr, c_rows, c_siter, c_consA, c_consU, c_consO, c_cells, c_ints, c_bools, c_strs, c_same] at h
  exact h
def f28r0 (a : Int) (b : Int) (c : Int) (d : Int) (e : Int) (f : Int) : List Int := [a, b, c, d, e, f]
theorem f28_1 (a : Int) (b : Int) (c : Int) (d : Int) (e : Int) (f : Int)  : ACalls Tryd.prog 28 [AV.agg [AV.v (.int .i64 a), AV.v (.int .i64 b), AV.v (.int .i64 c), AV.v (.int .i64 d), AV.v (.int .i64 e), AV.v (.int .i64 f)]] [] (AV.sw 0 1) [] [AObj.ints 0 true .i64 [a, b, c, d, e, f]] :=
  ACalls.nb (res := AV.sw 0 1) (.of_out [] [1] [] Tryd.func28 (by kernel_rfl) (by kernel_rfl) .nil)
theorem f28 (a : Int) (b : Int) (c : Int) (d : Int) (e : Int) (f : Int) : ACalls Tryd.prog 28 [AV.agg [AV.v (.int .i64 a), AV.v (.int .i64 b), AV.v (.int .i64 c), AV.v (.int .i64 d), AV.v (.int .i64 e), AV.v (.int .i64 f)]] [] (AV.sw 0 1) [] [AObj.ints 0 true .i64 [a, b, c, d, e, f]] := (f28_1 a b c d e f)
def nmK (k : Int) : ByteArray := f11r0 k
theorem g11 (k : Int) : ACalls Tryd.prog 11 [.v (.int .i64 k)] [] (.v (.string (nmK k))) [] [] := by
  refine f11 k fun h0 h1 a0 a1 a2 a3 a4 a5 a6 a7 => ?_
  simp only [ilt_d, ile_d, ieq_d, decide_eq_false_iff_not] at *
  show (k : Int) = 8
  omega
theorem nm_eq (k : Int) : f12r0 k = nmK k := by
  by_cases h : 1 ≤ k ∧ k ≤ 8
  · have : k = 1 ∨ k = 2 ∨ k = 3 ∨ k = 4 ∨ k = 5 ∨ k = 6 ∨ k = 7 ∨ k = 8 := by omega
    rcases this with rfl | rfl | rfl | rfl | rfl | rfl | rfl | rfl <;> rfl
  · unfold f12r0 nmK f11r0
    by_cases h1 : k < 1
    · rw [ilt_d k 1, decide_eq_true h1]
      by_cases h2 : k < 0
      · rw [ilt_d k 0, decide_eq_true h2]; rfl
      · have : k = 0 := by omega
        subst this; rfl
    · rw [ilt_d k 1, decide_eq_false h1, ilt_d 8 k, decide_eq_true (by omega), ilt_d k 0, decide_eq_false (by omega), ile_d 9 k, decide_eq_true (by omega)]; rfl
theorem g12 (k : Int) : ACalls Tryd.prog 12 [.v (.int .i64 k)] [] (.v (.string (nmK k))) [] [] := by
  have key : ilt k 1 = false → ilt 8 k = false → isub .i64 k 1 = k - 1 ∧ 1 ≤ k ∧ k ≤ 8 := fun h0 h1 => by
    simp only [ilt_d, decide_eq_false_iff_not] at h0 h1
    unfold isub; rw [w_i64_in (by omega)]; omega
  have h := f12 k (fun h0 h1 => ?_) (fun h0 h1 => ?_)
  · rw [nm_eq] at h; exact h
  · obtain ⟨e, h2, h3⟩ := key h0 h1
    rw [e]; unfold inB; omega
  · obtain ⟨e, h2, h3⟩ := key h0 h1
    rw [e]; unfold ltN idxN; omega
theorem nmK_size (k : Int) : (nmK k).size ≤ 5 := by
  unfold nmK f11r0
  cases ilt k 0 <;> cases ile 9 k <;> cases ieq k 0 <;> cases ieq k 1 <;> cases ieq k 2 <;> cases ieq k 3 <;> cases ieq k 4 <;> cases ieq k 5 <;> cases ieq k 6 <;> cases ieq k 7 <;> decide
end Go.Proofs.YtnejcdinieaemaaDoor.Tr
