import Derived.Test.YtiblodkkjibcoaaAbsO
import Derived.Test.YtiblodkkjibcoaaRing
set_option maxRecDepth 100000
set_option linter.all false
set_option maxHeartbeats 4000000
set_option linter.unusedSimpArgs false
set_option linter.unusedVariables false
namespace Go.Proofs.Ytiblodkkjibcoaa.Ring
open Go.Abs
theorem f28_1 (w : Bool) (v : Bool) (l : List Int) (a : Int) (n : Int) (k : Int)  : ACalls Try.prog 28 [AV.ptr 0 0] [AObj.cells 0 w [AV.sw 1 1, AV.v (.int .i64 a), AV.v (.int .i64 n), AV.v (.int .i64 k)], AObj.ints 0 v .i64 l] (AV.fn (Fn.func 31) [AV.ptr 2 0]) [] [AObj.cells 0 true [AV.ptr 0 0]] :=
  ACalls.nb (res := AV.fn (Fn.func 31) [AV.ptr 2 0]) (.of_out [] [0, 1, 2] [] Try.func28 (by kernel_rfl) (by kernel_rfl) .nil)
theorem f28 (w : Bool) (v : Bool) (l : List Int) (a : Int) (n : Int) (k : Int) : ACalls Try.prog 28 [AV.ptr 0 0] [AObj.cells 0 w [AV.sw 1 1, AV.v (.int .i64 a), AV.v (.int .i64 n), AV.v (.int .i64 k)], AObj.ints 0 v .i64 l] (AV.fn (Fn.func 31) [AV.ptr 2 0]) [] [AObj.cells 0 true [AV.ptr 0 0]] := (f28_1 w v l a n k)
theorem ro14_1 (w : Bool) (v : Bool) (l : List Int) (a : Int) (n : Int) (k : Int)  : ACalls Try.prog 14 [AV.ptr 0 0] [AObj.cells 0 w [AV.sw 1 1, AV.v (.int .i64 a), AV.v (.int .i64 n), AV.v (.int .i64 k)], AObj.ints 0 v .i64 l] (AV.v (.int .i64 n)) [] [] :=
  ACalls.nb (res := AV.v (.int .i64 n)) (.of_out [] [0, 1] [] Try.func14 (by kernel_rfl) (by kernel_rfl) .nil)
theorem ro14 (w : Bool) (v : Bool) (l : List Int) (a : Int) (n : Int) (k : Int) : ACalls Try.prog 14 [AV.ptr 0 0] [AObj.cells 0 w [AV.sw 1 1, AV.v (.int .i64 a), AV.v (.int .i64 n), AV.v (.int .i64 k)], AObj.ints 0 v .i64 l] (AV.v (.int .i64 n)) [] [] := (ro14_1 w v l a n k)
def ro22r0 (w : Bool) (v : Bool) (l : List Int) (a : Int) (n : Int) (k : Int) (i : Int) : Int := bif (ilt i 0) then 0 else (bif (ile n i) then 0 else (getI l (idxN 0 (irem (iadd .i64 a i) (nlen (lenI l))))))
def ro22r1 (w : Bool) (v : Bool) (l : List Int) (a : Int) (n : Int) (k : Int) (i : Int) : Bool := bif (ilt i 0) then false else (bif (ile n i) then false else true)
theorem ro22_1 (w : Bool) (v : Bool) (l : List Int) (a : Int) (n : Int) (k : Int) (i : Int)  (d0 : (ilt i 0) = true) : ACalls Try.prog 22 [AV.ptr 0 0, AV.v (.int .i64 i)] [AObj.cells 0 w [AV.sw 1 1, AV.v (.int .i64 a), AV.v (.int .i64 n), AV.v (.int .i64 k)], AObj.ints 0 v .i64 l] (AV.tup [AV.v (.int .i64 0), AV.v (Value.bool false)]) [] [] :=
  ACalls.nb (res := AV.tup [AV.v (.int .i64 0), AV.v (Value.bool false)]) (.of_out [Orc.br true, Orc.br true] [0, 1] [isB (ilt i 0) true, isB true true] Try.func22 (by kernel_rfl) (by kernel_rfl) (.cons d0 (.cons (by show _ = _; kernel_rfl) .nil)))
theorem ro22_2 (w : Bool) (v : Bool) (l : List Int) (a : Int) (n : Int) (k : Int) (i : Int)  (d0 : (ilt i 0) = false) (d1 : (ile n i) = true) : ACalls Try.prog 22 [AV.ptr 0 0, AV.v (.int .i64 i)] [AObj.cells 0 w [AV.sw 1 1, AV.v (.int .i64 a), AV.v (.int .i64 n), AV.v (.int .i64 k)], AObj.ints 0 v .i64 l] (AV.tup [AV.v (.int .i64 0), AV.v (Value.bool false)]) [] [] :=
  ACalls.nb (res := AV.tup [AV.v (.int .i64 0), AV.v (Value.bool false)]) (.of_out [Orc.br false, Orc.br true] [0, 1] [isB (ilt i 0) false, isB (ile n i) true] Try.func22 (by kernel_rfl) (by kernel_rfl) (.cons d0 (.cons d1 .nil)))
theorem ro22_3 (w : Bool) (v : Bool) (l : List Int) (a : Int) (n : Int) (k : Int) (i : Int)  (d0 : (ilt i 0) = false) (d1 : (ile n i) = false) (s0 : ((ilt i 0) = false) → ((ile n i) = false) → nz (nlen (lenI l))) (s1 : ((ilt i 0) = false) → ((ile n i) = false) → inB (irem (iadd .i64 a i) (nlen (lenI l))) (lenI l)) (s2 : ((ilt i 0) = false) → ((ile n i) = false) → ltN (idxN 0 (irem (iadd .i64 a i) (nlen (lenI l)))) (lenI l)) : ACalls Try.prog 22 [AV.ptr 0 0, AV.v (.int .i64 i)] [AObj.cells 0 w [AV.sw 1 1, AV.v (.int .i64 a), AV.v (.int .i64 n), AV.v (.int .i64 k)], AObj.ints 0 v .i64 l] (AV.tup [AV.v (.int .i64 (getI l (idxN 0 (irem (iadd .i64 a i) (nlen (lenI l)))))), AV.v (Value.bool true)]) [] [] :=
  ACalls.nb (res := AV.tup [AV.v (.int .i64 (getI l (idxN 0 (irem (iadd .i64 a i) (nlen (lenI l)))))), AV.v (Value.bool true)]) (.of_out [Orc.br false, Orc.br false] [0, 1] [isB (ilt i 0) false, isB (ile n i) false, Mixed Try.prog, nz (nlen (lenI l)), inB (irem (iadd .i64 a i) (nlen (lenI l))) (lenI l), ltN (idxN 0 (irem (iadd .i64 a i) (nlen (lenI l)))) (lenI l)] Try.func22 (by kernel_rfl) (by kernel_rfl) (.cons d0 (.cons d1 (.cons (by show _ = _; kernel_rfl) (.cons (s0 d0 d1) (.cons (s1 d0 d1) (.cons (s2 d0 d1) .nil)))))))
theorem ro22 (w : Bool) (v : Bool) (l : List Int) (a : Int) (n : Int) (k : Int) (i : Int) (s0 : ((ilt i 0) = false) → ((ile n i) = false) → nz (nlen (lenI l))) (s1 : ((ilt i 0) = false) → ((ile n i) = false) → inB (irem (iadd .i64 a i) (nlen (lenI l))) (lenI l)) (s2 : ((ilt i 0) = false) → ((ile n i) = false) → ltN (idxN 0 (irem (iadd .i64 a i) (nlen (lenI l)))) (lenI l)) : ACalls Try.prog 22 [AV.ptr 0 0, AV.v (.int .i64 i)] [AObj.cells 0 w [AV.sw 1 1, AV.v (.int .i64 a), AV.v (.int .i64 n), AV.v (.int .i64 k)], AObj.ints 0 v .i64 l] (AV.tup [AV.v (.int .i64 (ro22r0 w v l a n k i)), AV.v (Value.bool (ro22r1 w v l a n k i))]) [] [] := by
  have h := (ACalls.cond (ilt i 0) (fun d0 => (ro22_1 w v l a n k i d0)) (fun d0 => (ACalls.cond (ile n i) (fun d1 => (ro22_2 w v l a n k i d0 d1)) (fun d1 => (ro22_3 w v l a n k i d0 d1 s0 s1 s2)))))
  simp only [c_int, c_bool, c_str, c_agg, c_tup, c_fn, c_ifc, c_sl, c_pe, c_ptr, c_rows, c_siter, c_consA, c_consU, c_consO, c_cells, c_ints, c_bools, c_strs, c_same] at h
  exact h
end Go.Proofs.Ytiblodkkjibcoaa.Ring
