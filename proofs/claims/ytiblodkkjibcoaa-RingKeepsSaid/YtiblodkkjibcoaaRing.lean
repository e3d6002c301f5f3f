import Derived.Test.YtiblodkkjibcoaaAbsO
import Derived.Test.YtiblodkkjibcoaaProg
import Derived.Test.YtiblodkkjibcoaaRingM
set_option maxRecDepth 100000

set_option maxHeartbeats 4000000
set_option linter.unusedSimpArgs false
set_option linter.unusedVariables false
namespace Go.Proofs.Ytiblodkkjibcoaa.Ring
open Go.Abs
theorem f6_1 (k : Int)  : ACalls Try.prog 6 [AV.v (.int .i64 k)] [] (AV.ptr 0 0) [] [AObj.cells 0 true [AV.sw 1 1, AV.v (.int .i64 0), AV.v (.int .i64 0), AV.v (.int .i64 (imax 0 (imin k 65536)))], AObj.ints 0 true .i64 []] :=
  ACalls.nb (res := AV.ptr 0 0) (.of_out [Orc.fin (Gh.nilc 0 0 1 (AObj.ints 0 true .i64 []))] [0, 1] [] Try.func6 (by kernel_rfl) (by kernel_rfl) .nil)
theorem f6 (k : Int) : ACalls Try.prog 6 [AV.v (.int .i64 k)] [] (AV.ptr 0 0) [] [AObj.cells 0 true [AV.sw 1 1, AV.v (.int .i64 0), AV.v (.int .i64 0), AV.v (.int .i64 (imax 0 (imin k 65536)))], AObj.ints 0 true .i64 []] := (f6_1 k)
theorem f14_1 (l : List Int) (a : Int) (n : Int) (k : Int)  : ACalls Try.prog 14 [AV.ptr 0 0] [AObj.cells 0 true [AV.sw 1 1, AV.v (.int .i64 a), AV.v (.int .i64 n), AV.v (.int .i64 k)], AObj.ints 0 true .i64 l] (AV.v (.int .i64 n)) [] [] :=
  ACalls.nb (res := AV.v (.int .i64 n)) (.of_out [] [0, 1] [] Try.func14 (by kernel_rfl) (by kernel_rfl) .nil)
theorem f14 (l : List Int) (a : Int) (n : Int) (k : Int) : ACalls Try.prog 14 [AV.ptr 0 0] [AObj.cells 0 true [AV.sw 1 1, AV.v (.int .i64 a), AV.v (.int .i64 n), AV.v (.int .i64 k)], AObj.ints 0 true .i64 l] (AV.v (.int .i64 n)) [] [] := (f14_1 l a n k)
def f22r0 (l : List Int) (a : Int) (n : Int) (k : Int) (i : Int) : Int := bif ilt i 0 then 0 else bif ile n i then 0 else getI l (idxN 0 (irem (iadd .i64 a i) (nlen (lenI l))))
def f22r1 (l : List Int) (a : Int) (n : Int) (k : Int) (i : Int) : Bool := bif ilt i 0 then false else bif ile n i then false else true
theorem f22_1 (l : List Int) (a : Int) (n : Int) (k : Int) (i : Int)  (d0 : (ilt i 0) = true) : ACalls Try.prog 22 [AV.ptr 0 0, AV.v (.int .i64 i)] [AObj.cells 0 true [AV.sw 1 1, AV.v (.int .i64 a), AV.v (.int .i64 n), AV.v (.int .i64 k)], AObj.ints 0 true .i64 l] (AV.tup [AV.v (.int .i64 0), AV.v (Value.bool false)]) [] [] :=
  ACalls.nb (res := AV.tup [AV.v (.int .i64 0), AV.v (Value.bool false)]) (.of_out [Orc.br true, Orc.br true] [0, 1] [isB (ilt i 0) true, isB true true] Try.func22 (by kernel_rfl) (by kernel_rfl) (.cons d0 (.cons (by show _ = _; kernel_rfl) .nil)))
theorem f22_2 (l : List Int) (a : Int) (n : Int) (k : Int) (i : Int)  (d0 : (ilt i 0) = false) (d1 : (ile n i) = true) : ACalls Try.prog 22 [AV.ptr 0 0, AV.v (.int .i64 i)] [AObj.cells 0 true [AV.sw 1 1, AV.v (.int .i64 a), AV.v (.int .i64 n), AV.v (.int .i64 k)], AObj.ints 0 true .i64 l] (AV.tup [AV.v (.int .i64 0), AV.v (Value.bool false)]) [] [] :=
  ACalls.nb (res := AV.tup [AV.v (.int .i64 0), AV.v (Value.bool false)]) (.of_out [Orc.br false, Orc.br true] [0, 1] [isB (ilt i 0) false, isB (ile n i) true] Try.func22 (by kernel_rfl) (by kernel_rfl) (.cons d0 (.cons d1 .nil)))
theorem f22_3 (l : List Int) (a : Int) (n : Int) (k : Int) (i : Int)  (d0 : (ilt i 0) = false) (d1 : (ile n i) = false) (s0 : ((ilt i 0) = false) → ((ile n i) = false) → nz (nlen (lenI l))) (s1 : ((ilt i 0) = false) → ((ile n i) = false) → inB (irem (iadd .i64 a i) (nlen (lenI l))) (lenI l)) (s2 : ((ilt i 0) = false) → ((ile n i) = false) → ltN (idxN 0 (irem (iadd .i64 a i) (nlen (lenI l)))) (lenI l)) : ACalls Try.prog 22 [AV.ptr 0 0, AV.v (.int .i64 i)] [AObj.cells 0 true [AV.sw 1 1, AV.v (.int .i64 a), AV.v (.int .i64 n), AV.v (.int .i64 k)], AObj.ints 0 true .i64 l] (AV.tup [AV.v (.int .i64 (getI l (idxN 0 (irem (iadd .i64 a i) (nlen (lenI l)))))), AV.v (Value.bool true)]) [] [] :=
  ACalls.nb (res := AV.tup [AV.v (.int .i64 (getI l (idxN 0 (irem (iadd .i64 a i) (nlen (lenI l)))))), AV.v (Value.bool true)]) (.of_out [Orc.br false, Orc.br false] [0, 1] [isB (ilt i 0) false, isB (ile n i) false, Mixed Try.prog, nz (nlen (lenI l)), inB (irem (iadd .i64 a i) (nlen (lenI l))) (lenI l), ltN (idxN 0 (irem (iadd .i64 a i) (nlen (lenI l)))) (lenI l)] Try.func22 (by kernel_rfl) (by kernel_rfl) (.cons d0 (.cons d1 (.cons (by show _ = _; kernel_rfl) (.cons (s0 d0 d1) (.cons (s1 d0 d1) (.cons (s2 d0 d1) .nil)))))))
theorem f22 (l : List Int) (a : Int) (n : Int) (k : Int) (i : Int) (s0 : ((ilt i 0) = false) → ((ile n i) = false) → nz (nlen (lenI l))) (s1 : ((ilt i 0) = false) → ((ile n i) = false) → inB (irem (iadd .i64 a i) (nlen (lenI l))) (lenI l)) (s2 : ((ilt i 0) = false) → ((ile n i) = false) → ltN (idxN 0 (irem (iadd .i64 a i) (nlen (lenI l)))) (lenI l)) : ACalls Try.prog 22 [AV.ptr 0 0, AV.v (.int .i64 i)] [AObj.cells 0 true [AV.sw 1 1, AV.v (.int .i64 a), AV.v (.int .i64 n), AV.v (.int .i64 k)], AObj.ints 0 true .i64 l] (AV.tup [AV.v (.int .i64 (f22r0 l a n k i)), AV.v (Value.bool (f22r1 l a n k i))]) [] [] := by
  have h := (ACalls.cond (ilt i 0) (fun d0 => (f22_1 l a n k i d0)) (fun d0 => (ACalls.cond (ile n i) (fun d1 => (f22_2 l a n k i d0 d1)) (fun d1 => (f22_3 l a n k i d0 d1 s0 s1 s2)))))
  simp only [c_int, c_bool, c_str, c_agg, c_tup, c_fn, c_ifc, c_sl, c_pe, c_ptr, c_rows, c_siter, c_consA, c_consU, c_consO, c_cells, c_ints, c_bools, c_strs, c_same] at h
  exact h
theorem s22 {l : List Int} {a n k i : Int} (h : okR l a n k = true) (h1 : ilt i 0 = false) (h2 : ile n i = false) : 0 < l.length ∧ 0 ≤ i ∧ i < n ∧ irem (iadd .i64 a i) (nlen (lenI l)) = (((a.toNat + i.toNat) % l.length : Nat) : Int) := by
  simp only [ilt_d, ile_d, decide_eq_false_iff_not] at h1 h2
  have h' := okR_iff.1 h
  exact ⟨by omega, by omega, by omega, ix h (by omega) (by omega)⟩
theorem nzN {m : Nat} (h : 0 < m) : nz (nlen m) := by unfold nz nlen; omega
theorem g22 (l : List Int) (a n k i : Int) (h : okR l a n k = true) : ACalls Try.prog 22 [AV.ptr 0 0, AV.v (.int .i64 i)] [AObj.cells 0 true [AV.sw 1 1, AV.v (.int .i64 a), AV.v (.int .i64 n), AV.v (.int .i64 k)], AObj.ints 0 true .i64 l] (AV.tup [AV.v (.int .i64 (aV l a n i)), AV.v (Value.bool (aB n i))]) [] [] := by
  have := f22 l a n k i (fun h1 h2 => nzN (s22 h h1 h2).1) (fun h1 h2 => by rw [(s22 h h1 h2).2.2.2]; exact (inN (s22 h h1 h2).1).1) (fun h1 h2 => by rw [(s22 h h1 h2).2.2.2]; exact (inN (s22 h h1 h2).1).2)
  have e0 : f22r0 l a n k i = aV l a n i := by
    unfold f22r0 aV
    cases h1 : ilt i 0 with
    | true => simp only [ilt_d, decide_eq_true_eq] at h1; rw [if_neg (by omega)]; rfl
    | false =>
      cases h2 : ile n i with
      | true => simp only [ile_d, decide_eq_true_eq] at h2; rw [if_neg (by omega)]; rfl
      | false =>
        have := s22 h h1 h2
        rw [if_pos ⟨this.2.1, this.2.2.1⟩]
        simp only [cond_false]
        rw [this.2.2.2]
        unfold getI idxN; rw [Int.toNat_natCast, Nat.zero_add]
  have e1 : f22r1 l a n k i = aB n i := by
    unfold f22r1 aB
    cases h1 : ilt i 0 <;> cases h2 : ile n i <;> simp only [ilt_d, ile_d, decide_eq_true_eq, decide_eq_false_iff_not] at h1 h2 <;> simp [cond] <;> omega
  rw [e0, e1] at this; exact this
theorem f20_1 (l : List Int) (a : Int) (n : Int) (k : Int)  (s0 : okR l a n k = true) : ACalls Try.prog 20 [AV.ptr 0 0] [AObj.cells 0 true [AV.sw 1 1, AV.v (.int .i64 a), AV.v (.int .i64 n), AV.v (.int .i64 k)], AObj.ints 0 true .i64 l] (AV.tup [AV.v (.int .i64 (aV l a n 0)), AV.v (Value.bool (aB n 0))]) [] [] :=
  ACalls.nb (res := AV.tup [AV.v (.int .i64 (aV l a n 0)), AV.v (Value.bool (aB n 0))]) (.of_out [Orc.call [0, 1] (AV.tup [AV.v (.int .i64 (aV l a n 0)), AV.v (Value.bool (aB n 0))]) [] []] [0, 1] [ACalls Try.prog 22 [AV.ptr 0 0, AV.v (.int .i64 0)] [AObj.cells 0 true [AV.sw 1 1, AV.v (.int .i64 a), AV.v (.int .i64 n), AV.v (.int .i64 k)], AObj.ints 0 true .i64 l] (AV.tup [AV.v (.int .i64 (aV l a n 0)), AV.v (Value.bool (aB n 0))]) [] []] Try.func20 (by kernel_rfl) (by kernel_rfl) (.cons (by apply g22 <;> (first | exact (s0))) .nil))
theorem f20 (l : List Int) (a : Int) (n : Int) (k : Int) (s0 : okR l a n k = true) : ACalls Try.prog 20 [AV.ptr 0 0] [AObj.cells 0 true [AV.sw 1 1, AV.v (.int .i64 a), AV.v (.int .i64 n), AV.v (.int .i64 k)], AObj.ints 0 true .i64 l] (AV.tup [AV.v (.int .i64 (aV l a n 0)), AV.v (Value.bool (aB n 0))]) [] [] := (f20_1 l a n k s0)
def f8r0 (l : List Int) (a : Int) (n : Int) (k : Int) : Int := bif aB n 0 then irem (iadd .i64 a 1) (nlen (lenI (setI l (idxN 0 a) 0))) else a
def f8r1 (l : List Int) (a : Int) (n : Int) (k : Int) : Int := bif aB n 0 then isub .i64 n 1 else n
def f8r2 (l : List Int) (a : Int) (n : Int) (k : Int) : List Int := bif aB n 0 then setI l (idxN 0 a) 0 else l
theorem f8_1 (l : List Int) (a : Int) (n : Int) (k : Int)  (d0 : (aB n 0) = true) (s0 : okR l a n k = true) (s1 : ((aB n 0) = true) → inB a (lenI l)) (s2 : ((aB n 0) = true) → ltN (idxN 0 a) (lenI l)) (s3 : ((aB n 0) = true) → nz (nlen (lenI (setI l (idxN 0 a) 0)))) : ACalls Try.prog 8 [AV.ptr 0 0] [AObj.cells 0 true [AV.sw 1 1, AV.v (.int .i64 a), AV.v (.int .i64 n), AV.v (.int .i64 k)], AObj.ints 0 true .i64 l] (AV.tup [AV.v (.int .i64 (aV l a n 0)), AV.v (Value.bool (aB n 0))]) [(0, AObj.cells 0 true [AV.sw 1 1, AV.v (.int .i64 (irem (iadd .i64 a 1) (nlen (lenI (setI l (idxN 0 a) 0))))), AV.v (.int .i64 (isub .i64 n 1)), AV.v (.int .i64 k)]), (1, AObj.ints 0 true .i64 (setI l (idxN 0 a) 0))] [] :=
  ACalls.nb (res := AV.tup [AV.v (.int .i64 (aV l a n 0)), AV.v (Value.bool (aB n 0))]) (.of_out [Orc.call [0, 1] (AV.tup [AV.v (.int .i64 (aV l a n 0)), AV.v (Value.bool (aB n 0))]) [] [], Orc.br true] [0, 1] [ACalls Try.prog 20 [AV.ptr 0 0] [AObj.cells 0 true [AV.sw 1 1, AV.v (.int .i64 a), AV.v (.int .i64 n), AV.v (.int .i64 k)], AObj.ints 0 true .i64 l] (AV.tup [AV.v (.int .i64 (aV l a n 0)), AV.v (Value.bool (aB n 0))]) [] [], isB (aB n 0) true, Mixed Try.prog, inB a (lenI l), ltN (idxN 0 a) (lenI l), Mixed Try.prog, nz (nlen (lenI (setI l (idxN 0 a) 0)))] Try.func8 (by kernel_rfl) (by kernel_rfl) (.cons (by apply f20 <;> (first | exact (s0))) (.cons d0 (.cons (by show _ = _; kernel_rfl) (.cons (s1 d0) (.cons (s2 d0) (.cons (by show _ = _; kernel_rfl) (.cons (s3 d0) .nil))))))))
theorem f8_2 (l : List Int) (a : Int) (n : Int) (k : Int)  (d0 : (aB n 0) = false) (s0 : okR l a n k = true) : ACalls Try.prog 8 [AV.ptr 0 0] [AObj.cells 0 true [AV.sw 1 1, AV.v (.int .i64 a), AV.v (.int .i64 n), AV.v (.int .i64 k)], AObj.ints 0 true .i64 l] (AV.tup [AV.v (.int .i64 (aV l a n 0)), AV.v (Value.bool (aB n 0))]) [(0, AObj.cells 0 true [AV.sw 1 1, AV.v (.int .i64 a), AV.v (.int .i64 n), AV.v (.int .i64 k)]), (1, AObj.ints 0 true .i64 l)] [] :=
  ACalls.nb (res := AV.tup [AV.v (.int .i64 (aV l a n 0)), AV.v (Value.bool (aB n 0))]) (.of_out [Orc.call [0, 1] (AV.tup [AV.v (.int .i64 (aV l a n 0)), AV.v (Value.bool (aB n 0))]) [] [], Orc.br false] [0, 1] [ACalls Try.prog 20 [AV.ptr 0 0] [AObj.cells 0 true [AV.sw 1 1, AV.v (.int .i64 a), AV.v (.int .i64 n), AV.v (.int .i64 k)], AObj.ints 0 true .i64 l] (AV.tup [AV.v (.int .i64 (aV l a n 0)), AV.v (Value.bool (aB n 0))]) [] [], isB (aB n 0) false] Try.func8 (by kernel_rfl) (by kernel_rfl) (.cons (by apply f20 <;> (first | exact (s0))) (.cons d0 .nil)))
theorem f8 (l : List Int) (a : Int) (n : Int) (k : Int) (s0 : okR l a n k = true) (s1 : ((aB n 0) = true) → inB a (lenI l)) (s2 : ((aB n 0) = true) → ltN (idxN 0 a) (lenI l)) (s3 : ((aB n 0) = true) → nz (nlen (lenI (setI l (idxN 0 a) 0)))) : ACalls Try.prog 8 [AV.ptr 0 0] [AObj.cells 0 true [AV.sw 1 1, AV.v (.int .i64 a), AV.v (.int .i64 n), AV.v (.int .i64 k)], AObj.ints 0 true .i64 l] (AV.tup [AV.v (.int .i64 (aV l a n 0)), AV.v (Value.bool (aB n 0))]) [(0, AObj.cells 0 true [AV.sw 1 1, AV.v (.int .i64 (f8r0 l a n k)), AV.v (.int .i64 (f8r1 l a n k)), AV.v (.int .i64 k)]), (1, AObj.ints 0 true .i64 (f8r2 l a n k))] [] := by
  have h := (ACalls.cond (aB n 0) (fun d0 => (f8_1 l a n k d0 s0 s1 s2 s3)) (fun d0 => (f8_2 l a n k d0 s0)))
  simp only [c_int, c_bool, c_str, c_agg, c_tup, c_fn, c_ifc, c_sl, c_pe, c_ptr, c_rows, c_siter, c_consA, c_consU, c_consO, c_cells, c_ints, c_bools, c_strs, c_same] at h
  exact h
theorem s8 {l : List Int} {a n k : Int} (h : okR l a n k = true) (h1 : aB n 0 = true) : 0 < n ∧ 0 < l.length ∧ 0 ≤ a ∧ a < l.length ∧ l.length ≤ 65536 := by
  simp only [aB, decide_eq_true_eq] at h1
  have h' := okR_iff.1 h
  omega
theorem g8 (l : List Int) (a n k : Int) (h : okR l a n k = true) : ACalls Try.prog 8 [AV.ptr 0 0] [AObj.cells 0 true [AV.sw 1 1, AV.v (.int .i64 a), AV.v (.int .i64 n), AV.v (.int .i64 k)], AObj.ints 0 true .i64 l] (AV.tup [AV.v (.int .i64 (aV l a n 0)), AV.v (Value.bool (aB n 0))]) [(0, AObj.cells 0 true [AV.sw 1 1, AV.v (.int .i64 (popA l a n)), AV.v (.int .i64 (popN n)), AV.v (.int .i64 k)]), (1, AObj.ints 0 true .i64 (popL l a n))] [] := by
  have := f8 l a n k h (fun h1 => by have := s8 h h1; exact ⟨by omega, by unfold lenI; omega⟩) (fun h1 => by have := s8 h h1; unfold ltN idxN lenI; omega) (fun h1 => by have := s8 h h1; exact nzN (by unfold lenI setI; rw [List.length_set]; omega))
  have ea : aB n 0 = decide (0 < n) := by unfold aB; simp
  have e0 : f8r0 l a n k = popA l a n := by
    unfold f8r0 popA
    rw [ea, cond_if]; simp only [decide_eq_true_eq]
    by_cases h1 : 0 < n
    · rw [if_pos h1, if_pos h1]
      have := s8 h (by rw [ea, decide_eq_true_eq]; exact h1)
      unfold irem iadd nlen lenI setI
      rw [List.length_set, w_i64_in (by omega), Int.tmod_eq_emod_of_nonneg (by omega)]
    · rw [if_neg h1, if_neg h1]
  have e1 : f8r1 l a n k = popN n := by
    unfold f8r1 popN
    rw [ea, cond_if]; simp only [decide_eq_true_eq]
    have := okR_iff.1 h
    by_cases h1 : 0 < n
    · rw [if_pos h1, if_pos h1]; unfold isub; rw [w_i64_in (by omega)]
    · rw [if_neg h1, if_neg h1]
  have e2 : f8r2 l a n k = popL l a n := by
    unfold f8r2 popL
    rw [ea, cond_if]; simp only [decide_eq_true_eq]
    unfold setI idxN; rw [Nat.zero_add]
  rw [e0, e1, e2] at this; exact this
def L21S (l : List Int) (a : Int) (n : Int) (k : Int) (y2 : List Int) (x21 : Int) : Tm := [some (AV.ptr 0 0), none, some (AV.sw 2 1), none, none, none, none, none, none, none, none, none, none, none, none, none, none, none, none, none, some (AV.v (.int .i64 n)), some (AV.v (.int .i64 x21)), none, none, none, none, none, none, none, none, none, none, none, none, none, none, none, none, none, none, none, none, none, none, none, none, none, none, none, none, none, none, none]
def L21H (l : List Int) (a : Int) (n : Int) (k : Int) (y2 : List Int) (x21 : Int) : List AObj := [AObj.cells 0 true [AV.sw 1 1, AV.v (.int .i64 a), AV.v (.int .i64 n), AV.v (.int .i64 k)], AObj.ints 0 true .i64 l, AObj.ints 0 true .i64 y2]
def L21T (l : List Int) (a : Int) (n : Int) (k : Int) (o0 : List Int) : Tm := [some (AV.ptr 0 0), none, some (AV.sw 2 1), none, none, none, none, none, none, none, none, none, none, none, none, none, none, none, none, none, none, none, none, none, none, none, none, none, none, none, none, none, none, none, none, none, none, none, none, none, none, none, none, none, none, none, none, none, none, none, none, none, none]
def L21U (l : List Int) (a : Int) (n : Int) (k : Int) (o0 : List Int) : List AObj := [AObj.cells 0 true [AV.sw 1 1, AV.v (.int .i64 a), AV.v (.int .i64 n), AV.v (.int .i64 k)], AObj.ints 0 true .i64 l, AObj.ints 0 true .i64 o0]
theorem L21_1 (l : List Int) (a : Int) (n : Int) (k : Int) (y2 : List Int) (x21 : Int)  (d0 : (ilt x21 n) = true) (s0 : nz (nlen (lenI l))) (s1 : inB (irem (iadd .i64 a x21) (nlen (lenI l))) (lenI l)) (s2 : ltN (idxN 0 (irem (iadd .i64 a x21) (nlen (lenI l)))) (lenI l)) (s3 : inB x21 (lenI y2)) (s4 : ltN (idxN 0 x21) (lenI y2)) {e : AExit} {tm2 : Tm} {h2 : List AObj} (b : ARun Try.prog 2 (.loop (lp Try.f21 0)) (L21S l a n k  (setI y2 (idxN 0 x21) (getI l (idxN 0 (irem (iadd .i64 a x21) (nlen (lenI l)))))) (iadd .i64 x21 1)) (L21H l a n k  (setI y2 (idxN 0 x21) (getI l (idxN 0 (irem (iadd .i64 a x21) (nlen (lenI l)))))) (iadd .i64 x21 1)) e tm2 h2) : ARun Try.prog 2 (.loop (lp Try.f21 0)) (L21S l a n k  y2 x21) (L21H l a n k  y2 x21) e tm2 h2 :=
  .round [Orc.br true] [0, 2, 20, 21] [0, 1, 2] [isB (ilt x21 n) true, Mixed Try.prog, nz (nlen (lenI l)), inB (irem (iadd .i64 a x21) (nlen (lenI l))) (lenI l), ltN (idxN 0 (irem (iadd .i64 a x21) (nlen (lenI l)))) (lenI l), inB x21 (lenI y2), ltN (idxN 0 x21) (lenI y2)] (by kernel_rfl) (.cons d0 (.cons (by show _ = _; kernel_rfl) (.cons (s0) (.cons (s1) (.cons (s2) (.cons (s3) (.cons (s4) .nil))))))) b
theorem L21_2 (l : List Int) (a : Int) (n : Int) (k : Int) (y2 : List Int) (x21 : Int)  (d0 : (ilt x21 n) = false) : ARun Try.prog 2 (.loop (lp Try.f21 0)) (L21S l a n k  y2 x21) (L21H l a n k  y2 x21) (AExit.exit 0) (L21T l a n k  (y2)) (L21U l a n k  (y2)) :=
  .last [Orc.br false] [0, 2] [0, 1, 2] [isB (ilt x21 n) false] (by kernel_rfl) (.cons d0 .nil)
def L21L (l : List Int) (a : Int) (n : Int) (k : Int) : Nat → List Int → Int → Option (List Int)
  | 0, _, _ => none
  | fuel + 1, y2, x21 => (bif ilt x21 n then bif decide (nz (nlen (lenI l))) then bif decide (inB (irem (iadd .i64 a x21) (nlen (lenI l))) (lenI l)) then bif decide (ltN (idxN 0 (irem (iadd .i64 a x21) (nlen (lenI l)))) (lenI l)) then bif decide (inB x21 (lenI y2)) then bif decide (ltN (idxN 0 x21) (lenI y2)) then L21L l a n k  fuel (setI y2 (idxN 0 x21) (getI l (idxN 0 (irem (iadd .i64 a x21) (nlen (lenI l)))))) (iadd .i64 x21 1) else none else none else none else none else none else some (y2))
theorem L21 (l : List Int) (a : Int) (n : Int) (k : Int) : ∀ (fuel : Nat) (y2 : List Int) (x21 : Int) (o0 : List Int) (_ : L21L l a n k  fuel  y2 x21 = some (o0)), ARun Try.prog 2 (.loop (lp Try.f21 0)) (L21S l a n k  y2 x21) (L21H l a n k  y2 x21) (AExit.exit 0) (L21T l a n k  o0) (L21U l a n k  o0)
  | 0, _, _, _, h => by simp [L21L] at h
  | fuel + 1, y2, x21, o0, h => by
    simp only [L21L] at h
    exact (splitB h (fun d0 h => (chk h (fun s0 h => chk h (fun s1 h => chk h (fun s2 h => chk h (fun s3 h => chk h (fun s4 h => L21_1 l a n k  y2 x21 d0 s0 s1 s2 s3 s4 (L21 l a n k  fuel (setI y2 (idxN 0 x21) (getI l (idxN 0 (irem (iadd .i64 a x21) (nlen (lenI l)))))) (iadd .i64 x21 1) o0 h)))))))) (fun d0 h => ((by cases h; exact L21_2 l a n k  y2 x21 d0))))
theorem f21_1 (l : List Int) (a : Int) (n : Int) (k : Int) (L21_0_fuel : Nat) (L21_0_o0 : List Int)  (L21_0_h0 : L21L l a n k L21_0_fuel     (repI 0       (match imin (imax 4 (imul .i64 2 (nlen (lenI l)))) k with       | Int.ofNat n => n       | Int.negSucc a => 0))     0 =   some L21_0_o0) (s0 : inC 0 (imin (imax 4 (imul .i64 2 (nlen (lenI l)))) k) (imin (imax 4 (imul .i64 2 (nlen (lenI l)))) k)) (s1 : fitN   (match imin (imax 4 (imul .i64 2 (nlen (lenI l)))) k with   | Int.ofNat n => n   | Int.negSucc a => 0)   8) : ACalls Try.prog 21 [AV.ptr 0 0] [AObj.cells 0 true [AV.sw 1 1, AV.v (.int .i64 a), AV.v (.int .i64 n), AV.v (.int .i64 k)], AObj.ints 0 true .i64 l] (AV.tup []) [(0, AObj.cells 0 true [AV.sw 2 1, AV.v (.int .i64 0), AV.v (.int .i64 n), AV.v (.int .i64 k)])] [AObj.ints 0 true .i64 L21_0_o0] :=
  ACalls.nb (res := AV.tup []) (.of_out [Orc.loop [0, 2, 20, 21] [0, 1, 2] (AExit.exit 0) [some (AV.ptr 0 0), none, some (AV.sw 2 1), none, none, none, none, none, none, none, none, none, none, none, none, none, none, none, none, none, none, none, none, none, none, none, none, none, none, none, none, none, none, none, none, none, none, none, none, none, none, none, none, none, none, none, none, none, none, none, none, none, none] [AObj.cells 0 true [AV.sw 1 1, AV.v (.int .i64 a), AV.v (.int .i64 n), AV.v (.int .i64 k)], AObj.ints 0 true .i64 l, AObj.ints 0 true .i64 L21_0_o0]] [0, 1, 2] [Mixed Try.prog, inC 0 (imin (imax 4 (imul .i64 2 (nlen (lenI l)))) k) (imin (imax 4 (imul .i64 2 (nlen (lenI l)))) k), fitN   (match imin (imax 4 (imul .i64 2 (nlen (lenI l)))) k with   | Int.ofNat n => n   | Int.negSucc a => 0)   8, _] Try.func21 (by kernel_rfl) (by kernel_rfl) (.cons (by show _ = _; kernel_rfl) (.cons (s0) (.cons (s1) (.cons (L21 _ _ _ _ _ _ _ _ (L21_0_h0)) .nil)))))
theorem f21 (l : List Int) (a : Int) (n : Int) (k : Int) (L21_0_fuel : Nat) (L21_0_o0 : List Int) (L21_0_h0 : L21L l a n k L21_0_fuel     (repI 0       (match imin (imax 4 (imul .i64 2 (nlen (lenI l)))) k with       | Int.ofNat n => n       | Int.negSucc a => 0))     0 =   some L21_0_o0) (s0 : inC 0 (imin (imax 4 (imul .i64 2 (nlen (lenI l)))) k) (imin (imax 4 (imul .i64 2 (nlen (lenI l)))) k)) (s1 : fitN   (match imin (imax 4 (imul .i64 2 (nlen (lenI l)))) k with   | Int.ofNat n => n   | Int.negSucc a => 0)   8) : ACalls Try.prog 21 [AV.ptr 0 0] [AObj.cells 0 true [AV.sw 1 1, AV.v (.int .i64 a), AV.v (.int .i64 n), AV.v (.int .i64 k)], AObj.ints 0 true .i64 l] (AV.tup []) [(0, AObj.cells 0 true [AV.sw 2 1, AV.v (.int .i64 0), AV.v (.int .i64 n), AV.v (.int .i64 k)])] [AObj.ints 0 true .i64 L21_0_o0] := (f21_1 l a n k L21_0_fuel L21_0_o0 L21_0_h0 s0 s1)
theorem l21 {l : List Int} {a n k : Int} (h : okR l a n k = true) (hl : 0 < l.length ∨ n = 0) (m : Nat) (hm : n.toNat ≤ m) : ∀ j i : Nat, i + j = n.toNat →
    L21L l a n k (j + 1) ((itR l a n).take i ++ List.replicate (m - i) 0) (i : Int) = some (itR l a n ++ List.replicate (m - n.toNat) 0)
  | 0, i, hi => by
    have h' := okR_iff.1 h
    rw [L21L, show ilt (i : Int) n = false from by simp only [ilt_d, decide_eq_false_iff_not]; omega, List.take_of_length_le (by rw [itR_len]; omega), show i = n.toNat by omega]; rfl
  | j + 1, i, hi => by
    have h' := okR_iff.1 h
    have e0 := ix (i := (i : Int)) h (by omega) (by omega)
    have hh := inN (m := l.length) (p := a.toNat + (i : Int).toNat) (by omega)
    have ht : ((itR l a n).take i).length = i := by rw [List.length_take, itR_len]; omega
    have hlen : lenI ((itR l a n).take i ++ List.replicate (m - i) 0) = m := by unfold lenI; rw [List.length_append, ht, List.length_replicate]; omega
    have e3 : iadd .i64 (i : Int) 1 = ((i + 1 : Nat) : Int) := by unfold iadd; rw [w_i64_in (by omega)]; omega
    rw [L21L, show ilt (i : Int) n = true from by simp only [ilt_d, decide_eq_true_eq]; omega, e0, hlen, decide_eq_true (nzN (m := lenI l) (by unfold lenI; omega)), decide_eq_true (show inB _ (lenI l) from hh.1), decide_eq_true (show ltN _ (lenI l) from hh.2),
      decide_eq_true (show inB (i : Int) m from ⟨by omega, by omega⟩), decide_eq_true (show ltN (idxN 0 (i : Int)) m from by unfold ltN idxN; omega), e3]
    have e4 : setI ((itR l a n).take i ++ List.replicate (m - i) 0) (idxN 0 (i : Int)) (getI l (idxN 0 (((a.toNat + (i : Int).toNat) % l.length : Nat) : Int))) = (itR l a n).take (i + 1) ++ List.replicate (m - (i + 1)) 0 := by
      unfold setI getI idxN
      rw [Nat.zero_add, Nat.zero_add, Int.toNat_natCast, Int.toNat_natCast, List.set_append_right _ _ (by omega), ht, Nat.sub_self, show m - i = (m - (i + 1)) + 1 by omega, List.replicate_succ, List.set_cons_zero,
        List.take_succ_eq_append_getElem (by rw [itR_len]; omega), List.append_assoc]
      simp only [itR, List.getElem_map, List.getElem_range, List.cons_append, List.nil_append]
    rw [e4]
    exact l21 h hl m hm j (i + 1) (by omega)
theorem g21 (l : List Int) (a n k : Int) (h : okR l a n k = true) (hk : n ≠ k) (hn : n = (l.length : Int)) : ACalls Try.prog 21 [AV.ptr 0 0] [AObj.cells 0 true [AV.sw 1 1, AV.v (.int .i64 a), AV.v (.int .i64 n), AV.v (.int .i64 k)], AObj.ints 0 true .i64 l] (AV.tup []) [(0, AObj.cells 0 true [AV.sw 2 1, AV.v (.int .i64 0), AV.v (.int .i64 n), AV.v (.int .i64 k)])] [AObj.ints 0 true .i64 (groL l a n k)] := by
  have h' := okR_iff.1 h
  have hg := groL_len h hn hk
  have e1 : imin (imax 4 (imul .i64 2 (nlen (lenI l)))) k = groM l k := by
    unfold imin imax imul nlen lenI groM; rw [w_i64_in (by omega)]; omega
  have e2 : (match imin (imax 4 (imul .i64 2 (nlen (lenI l)))) k with | Int.ofNat n => n | Int.negSucc a => 0) = groM l k := by rw [e1]
  refine f21 l a n k (n.toNat + 1) _ ?_ (by rw [e1]; unfold inC; omega) (by rw [e2]; unfold fitN; omega)
  rw [e2]
  have := l21 h (by omega) (groM l k) (by omega) n.toNat 0 (by omega)
  simpa [groL, repI] using this
def f11r0 (l : List Int) (a : Int) (n : Int) (k : Int) (x : Int) : Int := bif ieq n k then 9 else 0
def f11r1 (l : List Int) (a : Int) (n : Int) (k : Int) (x : Int) : Int := bif ieq n k then a else bif ieq n (nlen (lenI l)) then 0 else a
def f11r2 (l : List Int) (a : Int) (n : Int) (k : Int) (x : Int) : List Int := bif ieq n k then l else bif ieq n (nlen (lenI l)) then setI (groL l a n k) (idxN 0 (irem (iadd .i64 0 n) (nlen (lenI (groL l a n k))))) x else setI l (idxN 0 (irem (iadd .i64 a n) (nlen (lenI l)))) x
theorem f11_1 (l : List Int) (a : Int) (n : Int) (k : Int) (x : Int)  (d0 : (ieq n k) = true) : ACalls Try.prog 11 [AV.ptr 0 0, AV.v (.int .i64 x)] [AObj.cells 0 true [AV.sw 1 1, AV.v (.int .i64 a), AV.v (.int .i64 n), AV.v (.int .i64 k)], AObj.ints 0 true .i64 l] (AV.v (.int .i64 9)) [(0, AObj.cells 0 true [AV.sw 2 1, AV.v (.int .i64 a), AV.v (.int .i64 n), AV.v (.int .i64 k)]), (1, AObj.dead)] [AObj.ints 0 true .i64 l] :=
  ACalls.nb (res := AV.v (.int .i64 9)) (.of_out [Orc.br true, Orc.fin (Gh.move 1)] [0, 1, 2] [Mixed Try.prog, isB (ieq n k) true] Try.func11 (by kernel_rfl) (by kernel_rfl) (.cons (by show _ = _; kernel_rfl) (.cons d0 .nil)))
theorem f11_2 (l : List Int) (a : Int) (n : Int) (k : Int) (x : Int)  (d0 : (ieq n k) = false) (d1 : (ieq n (nlen (lenI l))) = true) (s0 : ((ieq n k) = false) → ((ieq n (nlen (lenI l))) = true) → okR l a n k = true) (s1 : ((ieq n k) = false) → ((ieq n (nlen (lenI l))) = true) → n ≠ k) (s2 : ((ieq n k) = false) → ((ieq n (nlen (lenI l))) = true) → n = ↑l.length) (s3 : ((ieq n k) = false) → ((ieq n (nlen (lenI l))) = true) → nz (nlen (lenI (groL l a n k)))) (s4 : ((ieq n k) = false) → ((ieq n (nlen (lenI l))) = true) → inB (irem (iadd .i64 0 n) (nlen (lenI (groL l a n k)))) (lenI (groL l a n k))) (s5 : ((ieq n k) = false) → ((ieq n (nlen (lenI l))) = true) → ltN (idxN 0 (irem (iadd .i64 0 n) (nlen (lenI (groL l a n k))))) (lenI (groL l a n k))) : ACalls Try.prog 11 [AV.ptr 0 0, AV.v (.int .i64 x)] [AObj.cells 0 true [AV.sw 1 1, AV.v (.int .i64 a), AV.v (.int .i64 n), AV.v (.int .i64 k)], AObj.ints 0 true .i64 l] (AV.v (.int .i64 0)) [(0, AObj.cells 0 true [AV.sw 2 1, AV.v (.int .i64 0), AV.v (.int .i64 (iadd .i64 n 1)), AV.v (.int .i64 k)]), (1, AObj.dead)] [AObj.ints 0 true .i64 (setI (groL l a n k) (idxN 0 (irem (iadd .i64 0 n) (nlen (lenI (groL l a n k))))) x)] :=
  ACalls.nb (res := AV.v (.int .i64 0)) (.of_out [Orc.br false, Orc.br true, Orc.call [0, 1] (AV.tup []) [(0, AObj.cells 0 true [AV.sw 2 1, AV.v (.int .i64 0), AV.v (.int .i64 n), AV.v (.int .i64 k)])] [AObj.ints 0 true .i64 (groL l a n k)], Orc.fin (Gh.move 1)] [0, 1, 2] [Mixed Try.prog, isB (ieq n k) false, Mixed Try.prog, isB (ieq n (nlen (lenI l))) true, ACalls Try.prog 21 [AV.ptr 0 0] [AObj.cells 0 true [AV.sw 1 1, AV.v (.int .i64 a), AV.v (.int .i64 n), AV.v (.int .i64 k)], AObj.ints 0 true .i64 l] (AV.tup []) [(0, AObj.cells 0 true [AV.sw 2 1, AV.v (.int .i64 0), AV.v (.int .i64 n), AV.v (.int .i64 k)])] [AObj.ints 0 true .i64 (groL l a n k)], Mixed Try.prog, nz (nlen (lenI (groL l a n k))), inB (irem (iadd .i64 0 n) (nlen (lenI (groL l a n k)))) (lenI (groL l a n k)), ltN (idxN 0 (irem (iadd .i64 0 n) (nlen (lenI (groL l a n k))))) (lenI (groL l a n k))] Try.func11 (by kernel_rfl) (by kernel_rfl) (.cons (by show _ = _; kernel_rfl) (.cons d0 (.cons (by show _ = _; kernel_rfl) (.cons d1 (.cons (by apply g21 <;> (first | exact (s0 d0 d1) | exact (s1 d0 d1) | exact (s2 d0 d1))) (.cons (by show _ = _; kernel_rfl) (.cons (s3 d0 d1) (.cons (s4 d0 d1) (.cons (s5 d0 d1) .nil))))))))))
theorem f11_3 (l : List Int) (a : Int) (n : Int) (k : Int) (x : Int)  (d0 : (ieq n k) = false) (d1 : (ieq n (nlen (lenI l))) = false) (s6 : ((ieq n k) = false) → ((ieq n (nlen (lenI l))) = false) → nz (nlen (lenI l))) (s7 : ((ieq n k) = false) → ((ieq n (nlen (lenI l))) = false) → inB (irem (iadd .i64 a n) (nlen (lenI l))) (lenI l)) (s8 : ((ieq n k) = false) → ((ieq n (nlen (lenI l))) = false) → ltN (idxN 0 (irem (iadd .i64 a n) (nlen (lenI l)))) (lenI l)) : ACalls Try.prog 11 [AV.ptr 0 0, AV.v (.int .i64 x)] [AObj.cells 0 true [AV.sw 1 1, AV.v (.int .i64 a), AV.v (.int .i64 n), AV.v (.int .i64 k)], AObj.ints 0 true .i64 l] (AV.v (.int .i64 0)) [(0, AObj.cells 0 true [AV.sw 2 1, AV.v (.int .i64 a), AV.v (.int .i64 (iadd .i64 n 1)), AV.v (.int .i64 k)]), (1, AObj.dead)] [AObj.ints 0 true .i64 (setI l (idxN 0 (irem (iadd .i64 a n) (nlen (lenI l)))) x)] :=
  ACalls.nb (res := AV.v (.int .i64 0)) (.of_out [Orc.br false, Orc.br false, Orc.fin (Gh.move 1)] [0, 1, 2] [Mixed Try.prog, isB (ieq n k) false, Mixed Try.prog, isB (ieq n (nlen (lenI l))) false, Mixed Try.prog, nz (nlen (lenI l)), inB (irem (iadd .i64 a n) (nlen (lenI l))) (lenI l), ltN (idxN 0 (irem (iadd .i64 a n) (nlen (lenI l)))) (lenI l)] Try.func11 (by kernel_rfl) (by kernel_rfl) (.cons (by show _ = _; kernel_rfl) (.cons d0 (.cons (by show _ = _; kernel_rfl) (.cons d1 (.cons (by show _ = _; kernel_rfl) (.cons (s6 d0 d1) (.cons (s7 d0 d1) (.cons (s8 d0 d1) .nil)))))))))
theorem f11 (l : List Int) (a : Int) (n : Int) (k : Int) (x : Int) (s0 : ((ieq n k) = false) → ((ieq n (nlen (lenI l))) = true) → okR l a n k = true) (s1 : ((ieq n k) = false) → ((ieq n (nlen (lenI l))) = true) → n ≠ k) (s2 : ((ieq n k) = false) → ((ieq n (nlen (lenI l))) = true) → n = ↑l.length) (s3 : ((ieq n k) = false) → ((ieq n (nlen (lenI l))) = true) → nz (nlen (lenI (groL l a n k)))) (s4 : ((ieq n k) = false) → ((ieq n (nlen (lenI l))) = true) → inB (irem (iadd .i64 0 n) (nlen (lenI (groL l a n k)))) (lenI (groL l a n k))) (s5 : ((ieq n k) = false) → ((ieq n (nlen (lenI l))) = true) → ltN (idxN 0 (irem (iadd .i64 0 n) (nlen (lenI (groL l a n k))))) (lenI (groL l a n k))) (s6 : ((ieq n k) = false) → ((ieq n (nlen (lenI l))) = false) → nz (nlen (lenI l))) (s7 : ((ieq n k) = false) → ((ieq n (nlen (lenI l))) = false) → inB (irem (iadd .i64 a n) (nlen (lenI l))) (lenI l)) (s8 : ((ieq n k) = false) → ((ieq n (nlen (lenI l))) = false) → ltN (idxN 0 (irem (iadd .i64 a n) (nlen (lenI l)))) (lenI l)) : ACalls Try.prog 11 [AV.ptr 0 0, AV.v (.int .i64 x)] [AObj.cells 0 true [AV.sw 1 1, AV.v (.int .i64 a), AV.v (.int .i64 n), AV.v (.int .i64 k)], AObj.ints 0 true .i64 l] (AV.v (.int .i64 (f11r0 l a n k x))) [(0, AObj.cells 0 true [AV.sw 2 1, AV.v (.int .i64 (f11r1 l a n k x)), AV.v (.int .i64 (bif ieq n k then n else iadd .i64 n 1)), AV.v (.int .i64 k)]), (1, AObj.dead)] [AObj.ints 0 true .i64 (f11r2 l a n k x)] := by
  have h := (ACalls.cond (ieq n k) (fun d0 => (f11_1 l a n k x d0)) (fun d0 => (ACalls.cond (ieq n (nlen (lenI l))) (fun d1 => (f11_2 l a n k x d0 d1 s0 s1 s2 s3 s4 s5)) (fun d1 => (f11_3 l a n k x d0 d1 s6 s7 s8)))))
  simp only [c_int, c_bool, c_str, c_agg, c_tup, c_fn, c_ifc, c_sl, c_pe, c_ptr, c_rows, c_siter, c_consA, c_consU, c_consO, c_cells, c_ints, c_bools, c_strs, c_same] at h
  exact h

theorem g11 (l : List Int) (a n k x : Int) (h : okR l a n k = true) : ACalls Try.prog 11 [AV.ptr 0 0, AV.v (.int .i64 x)] [AObj.cells 0 true [AV.sw 1 1, AV.v (.int .i64 a), AV.v (.int .i64 n), AV.v (.int .i64 k)], AObj.ints 0 true .i64 l] (AV.v (.int .i64 (psE n k))) [(0, AObj.cells 0 true [AV.sw 2 1, AV.v (.int .i64 (psA l a n k)), AV.v (.int .i64 (psN n k)), AV.v (.int .i64 k)]), (1, AObj.dead)] [AObj.ints 0 true .i64 (psL l a n k x)] := by
  have h' := okR_iff.1 h
  have q1 : ieq n k = false → n ≠ k := fun e => by simpa [ieq_d] using e
  have q2 : ieq n (nlen (lenI l)) = true → n = (l.length : Int) := fun e => by simpa [ieq_d, nlen, lenI] using e
  have q3 : ieq n (nlen (lenI l)) = false → n ≠ (l.length : Int) := fun e => by simpa [ieq_d, nlen, lenI] using e
  have gr : ieq n k = false → ieq n (nlen (lenI l)) = true → irem (iadd .i64 0 n) (nlen (lenI (groL l a n k))) = ((((0 : Int).toNat + n.toNat) % (groL l a n k).length : Nat) : Int) ∧ 0 < (groL l a n k).length := fun e1 e2 => by
    have hl := groL_len h (q2 e2) (q1 e1)
    exact ⟨ix (gro_ok h (q2 e2) (q1 e1)) (by omega) (by omega), by omega⟩
  have no : ieq n k = false → ieq n (nlen (lenI l)) = false → irem (iadd .i64 a n) (nlen (lenI l)) = (((a.toNat + n.toNat) % l.length : Nat) : Int) ∧ 0 < l.length := fun e1 e2 => by
    have := q3 e2
    exact ⟨ix h (by omega) (by omega), by omega⟩
  have := f11 l a n k x (fun _ _ => h) (fun e1 _ => q1 e1) (fun _ e2 => q2 e2) (fun e1 e2 => nzN (gr e1 e2).2) (fun e1 e2 => by rw [(gr e1 e2).1]; exact (inN (gr e1 e2).2).1) (fun e1 e2 => by rw [(gr e1 e2).1]; exact (inN (gr e1 e2).2).2)
    (fun e1 e2 => nzN (no e1 e2).2) (fun e1 e2 => by rw [(no e1 e2).1]; exact (inN (no e1 e2).2).1) (fun e1 e2 => by rw [(no e1 e2).1]; exact (inN (no e1 e2).2).2)
  have e0 : f11r0 l a n k x = psE n k := by unfold f11r0 psE; rw [cond_if]; simp only [ieq_d, decide_eq_true_eq]
  have e1 : f11r1 l a n k x = psA l a n k := by unfold f11r1 psA gA; rw [cond_if, cond_if]; simp only [ieq_d, decide_eq_true_eq, nlen, lenI]
  have e2 : f11r2 l a n k x = psL l a n k x := by
    unfold f11r2 psL gL gA
    cases h1 : ieq n k with
    | true => rw [if_pos (by simpa [ieq_d] using h1)]; rfl
    | false =>
      rw [if_neg (q1 h1)]
      cases h2 : ieq n (nlen (lenI l)) with
      | true =>
        simp only [cond_false, cond_true]
        rw [(gr h1 h2).1, if_pos (q2 h2), if_pos (q2 h2)]
        unfold setI idxN; rw [Nat.zero_add, Int.toNat_natCast]
      | false =>
        simp only [cond_false]
        rw [(no h1 h2).1, if_neg (q3 h2), if_neg (q3 h2)]
        unfold setI idxN; rw [Nat.zero_add, Int.toNat_natCast]
  have e3 : (bif ieq n k then n else iadd .i64 n 1) = psN n k := by
    unfold psN; rw [cond_if]; simp only [ieq_d, decide_eq_true_eq]
    split
    · rfl
    · unfold iadd; rw [w_i64_in (by omega)]
  rw [e0, e1, e2, e3] at this; exact this
end Go.Proofs.Ytiblodkkjibcoaa.Ring
