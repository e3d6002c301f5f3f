import Derived.Test.YtlmnohdgfjienaaAbsO
import Derived.Test.YtlmnohdgfjienaaSkD
import Derived.Test.YtlmnohdgfjienaaSkA
import Derived.Test.YtlmnohdgfjienaaSkB
import Derived.Test.YtlmnohdgfjienaaSkC
set_option maxRecDepth 100000
set_option linter.all false
set_option maxHeartbeats 0
set_option linter.unusedSimpArgs false
set_option linter.unusedVariables false
namespace Go.Proofs.Ytlmnohdgfjienaa.Cf
open Go.Abs Go.Proofs.Ytlmnohdgfjienaa.Code Go.Proofs.Ytlmnohdgfjienaa.Code
@[reducible] def tY (m : List Int) : List Int := subI m 4 (subN (nlen (lenI m)) 4)
@[reducible] def aY (m : List Int) : Int := fqA (tY m) 0 0
@[reducible] def rY (m : List Int) : Int := fqR (tY m) 0 0
@[reducible] def hY (m : List Int) : ByteArray := strI (subI m 0 (subN (imin (nlen (lenI m)) 4) 0))
@[reducible] def vY (m : List Int) (i : Nat) : Int := stV (tY m) (aY m) (rY m) i
@[reducible] def zY (f : List Int → Int → Int → Int) (m : List Int) : Int := f (tY m) (aY m) (rY m)
@[reducible] def lY (f : List Int → Int → Int → List Int) (m : List Int) : List Int := f (tY m) (aY m) (rY m)
@[reducible] def kY (m : List Int) : Int := ckE (vY m 0) (vY m 1) (vY m 2) (vY m 3) (vY m 4) (vY m 5) (vY m 6) (vY m 7) (vY m 8) (zY rsT m) (zY rsE m) (lenR FF (fqF (tY m) 0 0)) (lenI (fqB (tY m) 0 0)) (lenI (lY rsP m)) (lenI (lY rsL m)) (fb (fqF (tY m) 0 0) (fqB (tY m) 0 0)) (pix (lY rsP m))
def f42r0 (s : ByteArray) (t : ByteArray) : Bool := bif ile (slen t) (slen s) then seqS (ssub s 0 (slen t)) t else false
theorem f42_1 (s : ByteArray) (t : ByteArray)  (d0 : (ile (slen t) (slen s)) = true) (s0 : ((ile (slen t) (slen s)) = true) → inC 0 (slen t) (slen s)) : ACalls Try.prog 42 [AV.v (Value.string s), AV.v (Value.string t)] [] (AV.v (Value.bool (seqS (ssub s 0 (slen t)) t))) [] [] :=
  ACalls.nb (res := AV.v (Value.bool (seqS (ssub s 0 (slen t)) t))) (.of_out [Orc.br true] [] [isB (ile (slen t) (slen s)) true, inC 0 (slen t) (slen s)] Try.func42 (by kernel_rfl) (by kernel_rfl) (.cons d0 (.cons (s0 d0) .nil)))
theorem f42_2 (s : ByteArray) (t : ByteArray)  (d0 : (ile (slen t) (slen s)) = false) : ACalls Try.prog 42 [AV.v (Value.string s), AV.v (Value.string t)] [] (AV.v (Value.bool false)) [] [] :=
  ACalls.nb (res := AV.v (Value.bool false)) (.of_out [Orc.br false] [] [isB (ile (slen t) (slen s)) false] Try.func42 (by kernel_rfl) (by kernel_rfl) (.cons d0 .nil))
theorem f42 (s : ByteArray) (t : ByteArray) (s0 : ((ile (slen t) (slen s)) = true) → inC 0 (slen t) (slen s)) : ACalls Try.prog 42 [AV.v (Value.string s), AV.v (Value.string t)] [] (AV.v (Value.bool (f42r0 s t))) [] [] := by
  have h := (ACalls.cond (ile (slen t) (slen s)) (fun d0 => (f42_1 s t d0 s0)) (fun d0 => (f42_2 s t d0)))
  simp only [c_int, c_bool, c_str, c_agg, c_tup, c_fn, c_ifc, c_sl, c_pe, c_ptr, c_rows, c_siter, c_consA, c_consU, c_consO, c_cells, c_ints, c_bools, c_strs, c_same] at h
  exact h
theorem f21_1 (s : ByteArray) (t : ByteArray)  (s0 : ile (slen t) (slen s) = true → inC 0 (slen t) (slen s)) : ACalls Try.prog 21 [AV.v (Value.string s), AV.v (Value.string t)] [] (AV.v (Value.bool (f42r0 s t))) [] [] :=
  ACalls.nb (res := AV.v (Value.bool (f42r0 s t))) (.of_out [Orc.call [] (AV.v (Value.bool (f42r0 s t))) [] []] [] [ACalls Try.prog 42 [AV.v (Value.string s), AV.v (Value.string t)] [] (AV.v (Value.bool (f42r0 s t))) [] []] Try.func21 (by kernel_rfl) (by kernel_rfl) (.cons (by apply f42 <;> (first | exact (s0))) .nil))
theorem f21 (s : ByteArray) (t : ByteArray) (s0 : ile (slen t) (slen s) = true → inC 0 (slen t) (slen s)) : ACalls Try.prog 21 [AV.v (Value.string s), AV.v (Value.string t)] [] (AV.v (Value.bool (f42r0 s t))) [] [] := (f21_1 s t s0)
def f10r0 (m : List Int) : Int := bif notB (f42r0 (hY m) (bs [76, 69, 65, 84])) then 0 else bif ine (zY rsR m) 0 then 0 else bif ilt 0 (lefC (tY m) (zY rsA m) (zY rsR m)) then 0 else bif ine (kY m) 0 then 0 else vY m 0
def f10r1 (m : List Int) : Int := bif notB (f42r0 (hY m) (bs [76, 69, 65, 84])) then 0 else bif ine (zY rsR m) 0 then 0 else bif ilt 0 (lefC (tY m) (zY rsA m) (zY rsR m)) then 0 else bif ine (kY m) 0 then 0 else vY m 1
def f10r2 (m : List Int) : Int := bif notB (f42r0 (hY m) (bs [76, 69, 65, 84])) then 0 else bif ine (zY rsR m) 0 then 0 else bif ilt 0 (lefC (tY m) (zY rsA m) (zY rsR m)) then 0 else bif ine (kY m) 0 then 0 else vY m 2
def f10r3 (m : List Int) : Int := bif notB (f42r0 (hY m) (bs [76, 69, 65, 84])) then 0 else bif ine (zY rsR m) 0 then 0 else bif ilt 0 (lefC (tY m) (zY rsA m) (zY rsR m)) then 0 else bif ine (kY m) 0 then 0 else vY m 3
def f10r4 (m : List Int) : Int := bif notB (f42r0 (hY m) (bs [76, 69, 65, 84])) then 0 else bif ine (zY rsR m) 0 then 0 else bif ilt 0 (lefC (tY m) (zY rsA m) (zY rsR m)) then 0 else bif ine (kY m) 0 then 0 else vY m 4
def f10r5 (m : List Int) : Int := bif notB (f42r0 (hY m) (bs [76, 69, 65, 84])) then 0 else bif ine (zY rsR m) 0 then 0 else bif ilt 0 (lefC (tY m) (zY rsA m) (zY rsR m)) then 0 else bif ine (kY m) 0 then 0 else vY m 5
def f10r6 (m : List Int) : Int := bif notB (f42r0 (hY m) (bs [76, 69, 65, 84])) then 0 else bif ine (zY rsR m) 0 then 0 else bif ilt 0 (lefC (tY m) (zY rsA m) (zY rsR m)) then 0 else bif ine (kY m) 0 then 0 else vY m 6
def f10r7 (m : List Int) : Int := bif notB (f42r0 (hY m) (bs [76, 69, 65, 84])) then 0 else bif ine (zY rsR m) 0 then 0 else bif ilt 0 (lefC (tY m) (zY rsA m) (zY rsR m)) then 0 else bif ine (kY m) 0 then 0 else vY m 7
def f10r8 (m : List Int) : Int := bif notB (f42r0 (hY m) (bs [76, 69, 65, 84])) then 0 else bif ine (zY rsR m) 0 then 0 else bif ilt 0 (lefC (tY m) (zY rsA m) (zY rsR m)) then 0 else bif ine (kY m) 0 then 0 else vY m 8
def f10r9 (m : List Int) : Int := bif notB (f42r0 (hY m) (bs [76, 69, 65, 84])) then 0 else bif ine (zY rsR m) 0 then 0 else bif ilt 0 (lefC (tY m) (zY rsA m) (zY rsR m)) then 0 else bif ine (kY m) 0 then 0 else zY rsT m
def f10r10 (m : List Int) : Int := bif notB (f42r0 (hY m) (bs [76, 69, 65, 84])) then 0 else bif ine (zY rsR m) 0 then 0 else bif ilt 0 (lefC (tY m) (zY rsA m) (zY rsR m)) then 0 else bif ine (kY m) 0 then 0 else zY rsE m
def f10r11 (m : List Int) : Int := bif notB (f42r0 (hY m) (bs [76, 69, 65, 84])) then 5 else bif ine (zY rsR m) 0 then zY rsR m else bif ilt 0 (lefC (tY m) (zY rsA m) (zY rsR m)) then 4 else bif ine (kY m) 0 then ckE (vY m 0) (vY m 1) (vY m 2) (vY m 3) (vY m 4) (vY m 5) (vY m 6) (vY m 7) (vY m 8) (zY rsT m) (zY rsE m) (lenR FF (fqF (tY m) 0 0)) (lenI (fqB (tY m) 0 0)) (lenI (lY rsP m)) (lenI (lY rsL m)) (fb (fqF (tY m) 0 0) (fqB (tY m) 0 0)) (pix (lY rsP m)) else 0
def f10r12 (m : List Int) : Int := bif notB (f42r0 (hY m) (bs [76, 69, 65, 84])) then 0 else bif ine (zY rsR m) 0 then iadd .i64 4 (zY rsA m) else bif ilt 0 (lefC (tY m) (zY rsA m) (zY rsR m)) then iadd .i64 4 (zY rsA m) else bif ine (kY m) 0 then iadd .i64 4 (zY rsA m) else 0
def f10r13 (m : List Int) : List (El FF) := bif notB (f42r0 (hY m) (bs [76, 69, 65, 84])) then [] else bif ine (zY rsR m) 0 then [] else bif ilt 0 (lefC (tY m) (zY rsA m) (zY rsR m)) then [] else bif ine (kY m) 0 then [] else fqF (tY m) 0 0
def f10r14 (m : List Int) : List Int := bif notB (f42r0 (hY m) (bs [76, 69, 65, 84])) then [] else bif ine (zY rsR m) 0 then [] else bif ilt 0 (lefC (tY m) (zY rsA m) (zY rsR m)) then [] else bif ine (kY m) 0 then [] else fqB (tY m) 0 0
def f10r15 (m : List Int) : List Int := bif notB (f42r0 (hY m) (bs [76, 69, 65, 84])) then [] else bif ine (zY rsR m) 0 then [] else bif ilt 0 (lefC (tY m) (zY rsA m) (zY rsR m)) then [] else bif ine (kY m) 0 then [] else lY rsP m
def f10r16 (m : List Int) : List Int := bif notB (f42r0 (hY m) (bs [76, 69, 65, 84])) then [] else bif ine (zY rsR m) 0 then [] else bif ilt 0 (lefC (tY m) (zY rsA m) (zY rsR m)) then [] else bif ine (kY m) 0 then [] else lY rsL m
theorem f10_1 (m : List Int)  (d0 : (notB (f42r0 (hY m) (bs [76, 69, 65, 84]))) = true) (s0 : inC 0 (imin (nlen (lenI m)) 4) (nlen (lenI m))) (s1 : leN (Nat.add 0 (subN (imin (nlen (lenI m)) 4) 0)) (lenI m)) (s2 : ile (slen (bs [76, 69, 65, 84])) (slen (hY m)) = true → inC 0 (slen (bs [76, 69, 65, 84])) (slen (hY m))) : ACalls Try.prog 10 [AV.sw 0 1] [AObj.ints 0 false IntKind.u8 m] (AV.tup [AV.agg [AV.sw 1 10, AV.sw 2 1, AV.v (.int .i64 0), AV.v (.int .i64 0), AV.v (.int .i64 0), AV.v (.int .i64 0), AV.v (.int .i64 0), AV.v (.int .i64 0), AV.v (.int .i64 0), AV.v (.int .i64 0), AV.v (.int .i64 0), AV.sw 3 1, AV.sw 4 1, AV.v (.int .i64 0), AV.v (.int .i64 0)], AV.v (.int .i64 5), AV.v (.int .i64 0)]) [] [AObj.rows false FF [], AObj.ints 0 false .i64 [], AObj.ints 0 false .i64 [], AObj.ints 0 false IntKind.u32 []] :=
  ACalls.nb (res := AV.tup [AV.agg [AV.sw 1 10, AV.sw 2 1, AV.v (.int .i64 0), AV.v (.int .i64 0), AV.v (.int .i64 0), AV.v (.int .i64 0), AV.v (.int .i64 0), AV.v (.int .i64 0), AV.v (.int .i64 0), AV.v (.int .i64 0), AV.v (.int .i64 0), AV.sw 3 1, AV.sw 4 1, AV.v (.int .i64 0), AV.v (.int .i64 0)], AV.v (.int .i64 5), AV.v (.int .i64 0)]) (.of_out [Orc.call [] (AV.v (Value.bool (f42r0 (hY m) (bs [76, 69, 65, 84])))) [] [], Orc.br true, Orc.fin (Gh.nilc 1 0 10 (AObj.rows false FF [])), Orc.fin (Gh.nilc 1 1 1 (AObj.ints 0 false .i64 [])), Orc.fin (Gh.nilc 1 11 1 (AObj.ints 0 false .i64 [])), Orc.fin (Gh.nilc 1 12 1 (AObj.ints 0 false IntKind.u32 []))] [0, 3, 4, 5, 6] [inC 0 (imin (nlen (lenI m)) 4) (nlen (lenI m)), leN (Nat.add 0 (subN (imin (nlen (lenI m)) 4) 0)) (lenI m), ACalls Try.prog 21 [AV.v (Value.string (hY m)), AV.v (Value.string (bs [76, 69, 65, 84]))] [] (AV.v (Value.bool (f42r0 (hY m) (bs [76, 69, 65, 84])))) [] [], isB (notB (f42r0 (hY m) (bs [76, 69, 65, 84]))) true] Try.func10 (by kernel_rfl) (by kernel_rfl) (.cons (s0) (.cons (s1) (.cons (by apply f21 <;> (first | exact (s2))) (.cons d0 .nil)))))
theorem f10_2 (m : List Int)  (d0 : (notB (f42r0 (hY m) (bs [76, 69, 65, 84]))) = false) (d1 : (ine (zY rsR m) 0) = true) (s0 : inC 0 (imin (nlen (lenI m)) 4) (nlen (lenI m))) (s1 : leN (Nat.add 0 (subN (imin (nlen (lenI m)) 4) 0)) (lenI m)) (s2 : ile (slen (bs [76, 69, 65, 84])) (slen (hY m)) = true → inC 0 (slen (bs [76, 69, 65, 84])) (slen (hY m))) (s3 : ((notB (f42r0 (hY m) (bs [76, 69, 65, 84]))) = false) → inC 4 (nlen (lenI m)) (nlen (lenI m))) (s4 : ((notB (f42r0 (hY m) (bs [76, 69, 65, 84]))) = false) → leN (Nat.add 4 (subN (nlen (lenI m)) 4)) (lenI m)) (s5 : ((notB (f42r0 (hY m) (bs [76, 69, 65, 84]))) = false) → fitN (lenI (tY m)) 1) (s6 : ((notB (f42r0 (hY m) (bs [76, 69, 65, 84]))) = false) → okC (tY m) 0 = true) (s7 : ((notB (f42r0 (hY m) (bs [76, 69, 65, 84]))) = false) → okC (tY m) (aY m) = true) : ACalls Try.prog 10 [AV.sw 0 1] [AObj.ints 0 false IntKind.u8 m] (AV.tup [AV.agg [AV.sw 1 10, AV.sw 2 1, AV.v (.int .i64 0), AV.v (.int .i64 0), AV.v (.int .i64 0), AV.v (.int .i64 0), AV.v (.int .i64 0), AV.v (.int .i64 0), AV.v (.int .i64 0), AV.v (.int .i64 0), AV.v (.int .i64 0), AV.sw 3 1, AV.sw 4 1, AV.v (.int .i64 0), AV.v (.int .i64 0)], AV.v (.int .i64 (zY rsR m)), AV.v (.int .i64 (iadd .i64 4 (zY rsA m)))]) [] [AObj.rows false FF [], AObj.ints 0 false .i64 [], AObj.ints 0 false .i64 [], AObj.ints 0 false IntKind.u32 []] :=
  ACalls.nb (res := AV.tup [AV.agg [AV.sw 1 10, AV.sw 2 1, AV.v (.int .i64 0), AV.v (.int .i64 0), AV.v (.int .i64 0), AV.v (.int .i64 0), AV.v (.int .i64 0), AV.v (.int .i64 0), AV.v (.int .i64 0), AV.v (.int .i64 0), AV.v (.int .i64 0), AV.sw 3 1, AV.sw 4 1, AV.v (.int .i64 0), AV.v (.int .i64 0)], AV.v (.int .i64 (zY rsR m)), AV.v (.int .i64 (iadd .i64 4 (zY rsA m)))]) (.of_out [Orc.call [] (AV.v (Value.bool (f42r0 (hY m) (bs [76, 69, 65, 84])))) [] [], Orc.br false, Orc.call [3] (AV.ptr 1 0) [] [AObj.cells 0 true [AV.sw 2 1, AV.v (.int .i64 0), AV.v (.int .i64 0)], AObj.ints 0 false IntKind.u8 (tY m)], Orc.call [4, 6, 5] (AV.tup []) [(0, AObj.cells 0 true [AV.sw 2 1, AV.v (.int .i64 (aY m)), AV.v (.int .i64 (rY m))]), (1, AObj.cells 0 true [AV.sw 3 10, AV.sw 4 1, AV.v (.int .i64 0), AV.v (.int .i64 0), AV.v (.int .i64 0), AV.v (.int .i64 0), AV.v (.int .i64 0), AV.v (.int .i64 0), AV.v (.int .i64 0), AV.v (.int .i64 0), AV.v (.int .i64 0), AV.v (Value.slice none 0 0), AV.v (Value.slice none 0 0), AV.v (.int .i64 0), AV.v (.int .i64 0)])] [AObj.rows false FF (fqF (tY m) 0 0), AObj.ints 0 false .i64 (fqB (tY m) 0 0)], Orc.call [4, 6, 5, 7, 8] (AV.tup []) [(0, AObj.cells 0 true [AV.sw 2 1, AV.v (.int .i64 (zY rsA m)), AV.v (.int .i64 (zY rsR m))]), (1, AObj.cells 0 true [AV.sw 3 10, AV.sw 4 1, AV.v (.int .i64 (vY m 0)), AV.v (.int .i64 (vY m 1)), AV.v (.int .i64 (vY m 2)), AV.v (.int .i64 (vY m 3)), AV.v (.int .i64 (vY m 4)), AV.v (.int .i64 (vY m 5)), AV.v (.int .i64 (vY m 6)), AV.v (.int .i64 (vY m 7)), AV.v (.int .i64 (vY m 8)), AV.sw 5 1, AV.sw 6 1, AV.v (.int .i64 (zY rsT m)), AV.v (.int .i64 (zY rsE m))])] [AObj.ints 0 false .i64 (lY rsP m), AObj.ints 0 false IntKind.u32 (lY rsL m)], Orc.call [4, 5] (AV.v (.int .i64 (zY rsA m))) [] [], Orc.call [4, 5] (AV.v (.int .i64 (zY rsR m))) [] [], Orc.br true, Orc.call [4, 5] (AV.v (.int .i64 (zY rsR m))) [] [], Orc.fin (Gh.nilc 1 0 10 (AObj.rows false FF [])), Orc.fin (Gh.nilc 1 1 1 (AObj.ints 0 false .i64 [])), Orc.fin (Gh.nilc 1 11 1 (AObj.ints 0 false .i64 [])), Orc.fin (Gh.nilc 1 12 1 (AObj.ints 0 false IntKind.u32 []))] [0, 11, 12, 13, 14] [inC 0 (imin (nlen (lenI m)) 4) (nlen (lenI m)), leN (Nat.add 0 (subN (imin (nlen (lenI m)) 4) 0)) (lenI m), ACalls Try.prog 21 [AV.v (Value.string (hY m)), AV.v (Value.string (bs [76, 69, 65, 84]))] [] (AV.v (Value.bool (f42r0 (hY m) (bs [76, 69, 65, 84])))) [] [], isB (notB (f42r0 (hY m) (bs [76, 69, 65, 84]))) false, inC 4 (nlen (lenI m)) (nlen (lenI m)), leN (Nat.add 4 (subN (nlen (lenI m)) 4)) (lenI m), ACalls Try.prog 22 [AV.sw 0 1] [AObj.ints 0 false IntKind.u8 (tY m)] (AV.ptr 1 0) [] [AObj.cells 0 true [AV.sw 2 1, AV.v (.int .i64 0), AV.v (.int .i64 0)], AObj.ints 0 false IntKind.u8 (tY m)], ACalls Try.prog 23 [AV.ptr 0 0, AV.ptr 1 0] [AObj.cells 0 true [AV.sw 2 1, AV.v (.int .i64 0), AV.v (.int .i64 0)], AObj.cells 0 true [AV.v (Value.slice none 0 0), AV.v (Value.slice none 0 0), AV.v (.int .i64 0), AV.v (.int .i64 0), AV.v (.int .i64 0), AV.v (.int .i64 0), AV.v (.int .i64 0), AV.v (.int .i64 0), AV.v (.int .i64 0), AV.v (.int .i64 0), AV.v (.int .i64 0), AV.v (Value.slice none 0 0), AV.v (Value.slice none 0 0), AV.v (.int .i64 0), AV.v (.int .i64 0)], AObj.ints 0 false IntKind.u8 (tY m)] (AV.tup []) [(0, AObj.cells 0 true [AV.sw 2 1, AV.v (.int .i64 (aY m)), AV.v (.int .i64 (rY m))]), (1, AObj.cells 0 true [AV.sw 3 10, AV.sw 4 1, AV.v (.int .i64 0), AV.v (.int .i64 0), AV.v (.int .i64 0), AV.v (.int .i64 0), AV.v (.int .i64 0), AV.v (.int .i64 0), AV.v (.int .i64 0), AV.v (.int .i64 0), AV.v (.int .i64 0), AV.v (Value.slice none 0 0), AV.v (Value.slice none 0 0), AV.v (.int .i64 0), AV.v (.int .i64 0)])] [AObj.rows false FF (fqF (tY m) 0 0), AObj.ints 0 false .i64 (fqB (tY m) 0 0)], ACalls Try.prog 24 [AV.ptr 0 0, AV.ptr 1 0] [AObj.cells 0 true [AV.sw 2 1, AV.v (.int .i64 (aY m)), AV.v (.int .i64 (rY m))], AObj.cells 0 true [AV.sw 3 10, AV.sw 4 1, AV.v (.int .i64 0), AV.v (.int .i64 0), AV.v (.int .i64 0), AV.v (.int .i64 0), AV.v (.int .i64 0), AV.v (.int .i64 0), AV.v (.int .i64 0), AV.v (.int .i64 0), AV.v (.int .i64 0), AV.v (Value.slice none 0 0), AV.v (Value.slice none 0 0), AV.v (.int .i64 0), AV.v (.int .i64 0)], AObj.ints 0 false IntKind.u8 (tY m), AObj.rows false FF (fqF (tY m) 0 0), AObj.ints 0 false .i64 (fqB (tY m) 0 0)] (AV.tup []) [(0, AObj.cells 0 true [AV.sw 2 1, AV.v (.int .i64 (zY rsA m)), AV.v (.int .i64 (zY rsR m))]), (1, AObj.cells 0 true [AV.sw 3 10, AV.sw 4 1, AV.v (.int .i64 (vY m 0)), AV.v (.int .i64 (vY m 1)), AV.v (.int .i64 (vY m 2)), AV.v (.int .i64 (vY m 3)), AV.v (.int .i64 (vY m 4)), AV.v (.int .i64 (vY m 5)), AV.v (.int .i64 (vY m 6)), AV.v (.int .i64 (vY m 7)), AV.v (.int .i64 (vY m 8)), AV.sw 5 1, AV.sw 6 1, AV.v (.int .i64 (zY rsT m)), AV.v (.int .i64 (zY rsE m))])] [AObj.ints 0 false .i64 (lY rsP m), AObj.ints 0 false IntKind.u32 (lY rsL m)], ACalls Try.prog 25 [AV.ptr 0 0] [AObj.cells 0 true [AV.sw 1 1, AV.v (.int .i64 (zY rsA m)), AV.v (.int .i64 (zY rsR m))], AObj.ints 0 false IntKind.u8 (tY m)] (AV.v (.int .i64 (zY rsA m))) [] [], ACalls Try.prog 26 [AV.ptr 0 0] [AObj.cells 0 true [AV.sw 1 1, AV.v (.int .i64 (zY rsA m)), AV.v (.int .i64 (zY rsR m))], AObj.ints 0 false IntKind.u8 (tY m)] (AV.v (.int .i64 (zY rsR m))) [] [], isB (ine (zY rsR m) 0) true, ACalls Try.prog 26 [AV.ptr 0 0] [AObj.cells 0 true [AV.sw 1 1, AV.v (.int .i64 (zY rsA m)), AV.v (.int .i64 (zY rsR m))], AObj.ints 0 false IntKind.u8 (tY m)] (AV.v (.int .i64 (zY rsR m))) [] []] Try.func10 (by kernel_rfl) (by kernel_rfl) (.cons (s0) (.cons (s1) (.cons (by apply f21 <;> (first | exact (s2))) (.cons d0 (.cons (s3 d0) (.cons (s4 d0) (.cons (by apply Go.Proofs.Ytlmnohdgfjienaa.Code.f22 <;> (first | exact (s5 d0))) (.cons (by apply q23 <;> (first | exact (s6 d0))) (.cons (by apply q24 <;> (first | exact (s7 d0))) (.cons (by apply Go.Proofs.Ytlmnohdgfjienaa.Code.f25) (.cons (by apply Go.Proofs.Ytlmnohdgfjienaa.Code.f26) (.cons d1 (.cons (by apply Go.Proofs.Ytlmnohdgfjienaa.Code.f26) .nil))))))))))))))
theorem f10_3 (m : List Int)  (d0 : (notB (f42r0 (hY m) (bs [76, 69, 65, 84]))) = false) (d1 : (ine (zY rsR m) 0) = false) (d2 : (ilt 0 (lefC (tY m) (zY rsA m) (zY rsR m))) = true) (s0 : inC 0 (imin (nlen (lenI m)) 4) (nlen (lenI m))) (s1 : leN (Nat.add 0 (subN (imin (nlen (lenI m)) 4) 0)) (lenI m)) (s2 : ile (slen (bs [76, 69, 65, 84])) (slen (hY m)) = true → inC 0 (slen (bs [76, 69, 65, 84])) (slen (hY m))) (s3 : ((notB (f42r0 (hY m) (bs [76, 69, 65, 84]))) = false) → inC 4 (nlen (lenI m)) (nlen (lenI m))) (s4 : ((notB (f42r0 (hY m) (bs [76, 69, 65, 84]))) = false) → leN (Nat.add 4 (subN (nlen (lenI m)) 4)) (lenI m)) (s5 : ((notB (f42r0 (hY m) (bs [76, 69, 65, 84]))) = false) → fitN (lenI (tY m)) 1) (s6 : ((notB (f42r0 (hY m) (bs [76, 69, 65, 84]))) = false) → okC (tY m) 0 = true) (s7 : ((notB (f42r0 (hY m) (bs [76, 69, 65, 84]))) = false) → okC (tY m) (aY m) = true) (s8 : ((notB (f42r0 (hY m) (bs [76, 69, 65, 84]))) = false) → ((ine (zY rsR m) 0) = false) → okC (tY m) (zY rsA m) = true) : ACalls Try.prog 10 [AV.sw 0 1] [AObj.ints 0 false IntKind.u8 m] (AV.tup [AV.agg [AV.sw 1 10, AV.sw 2 1, AV.v (.int .i64 0), AV.v (.int .i64 0), AV.v (.int .i64 0), AV.v (.int .i64 0), AV.v (.int .i64 0), AV.v (.int .i64 0), AV.v (.int .i64 0), AV.v (.int .i64 0), AV.v (.int .i64 0), AV.sw 3 1, AV.sw 4 1, AV.v (.int .i64 0), AV.v (.int .i64 0)], AV.v (.int .i64 4), AV.v (.int .i64 (iadd .i64 4 (zY rsA m)))]) [] [AObj.rows false FF [], AObj.ints 0 false .i64 [], AObj.ints 0 false .i64 [], AObj.ints 0 false IntKind.u32 []] :=
  ACalls.nb (res := AV.tup [AV.agg [AV.sw 1 10, AV.sw 2 1, AV.v (.int .i64 0), AV.v (.int .i64 0), AV.v (.int .i64 0), AV.v (.int .i64 0), AV.v (.int .i64 0), AV.v (.int .i64 0), AV.v (.int .i64 0), AV.v (.int .i64 0), AV.v (.int .i64 0), AV.sw 3 1, AV.sw 4 1, AV.v (.int .i64 0), AV.v (.int .i64 0)], AV.v (.int .i64 4), AV.v (.int .i64 (iadd .i64 4 (zY rsA m)))]) (.of_out [Orc.call [] (AV.v (Value.bool (f42r0 (hY m) (bs [76, 69, 65, 84])))) [] [], Orc.br false, Orc.call [3] (AV.ptr 1 0) [] [AObj.cells 0 true [AV.sw 2 1, AV.v (.int .i64 0), AV.v (.int .i64 0)], AObj.ints 0 false IntKind.u8 (tY m)], Orc.call [4, 6, 5] (AV.tup []) [(0, AObj.cells 0 true [AV.sw 2 1, AV.v (.int .i64 (aY m)), AV.v (.int .i64 (rY m))]), (1, AObj.cells 0 true [AV.sw 3 10, AV.sw 4 1, AV.v (.int .i64 0), AV.v (.int .i64 0), AV.v (.int .i64 0), AV.v (.int .i64 0), AV.v (.int .i64 0), AV.v (.int .i64 0), AV.v (.int .i64 0), AV.v (.int .i64 0), AV.v (.int .i64 0), AV.v (Value.slice none 0 0), AV.v (Value.slice none 0 0), AV.v (.int .i64 0), AV.v (.int .i64 0)])] [AObj.rows false FF (fqF (tY m) 0 0), AObj.ints 0 false .i64 (fqB (tY m) 0 0)], Orc.call [4, 6, 5, 7, 8] (AV.tup []) [(0, AObj.cells 0 true [AV.sw 2 1, AV.v (.int .i64 (zY rsA m)), AV.v (.int .i64 (zY rsR m))]), (1, AObj.cells 0 true [AV.sw 3 10, AV.sw 4 1, AV.v (.int .i64 (vY m 0)), AV.v (.int .i64 (vY m 1)), AV.v (.int .i64 (vY m 2)), AV.v (.int .i64 (vY m 3)), AV.v (.int .i64 (vY m 4)), AV.v (.int .i64 (vY m 5)), AV.v (.int .i64 (vY m 6)), AV.v (.int .i64 (vY m 7)), AV.v (.int .i64 (vY m 8)), AV.sw 5 1, AV.sw 6 1, AV.v (.int .i64 (zY rsT m)), AV.v (.int .i64 (zY rsE m))])] [AObj.ints 0 false .i64 (lY rsP m), AObj.ints 0 false IntKind.u32 (lY rsL m)], Orc.call [4, 5] (AV.v (.int .i64 (zY rsA m))) [] [], Orc.call [4, 5] (AV.v (.int .i64 (zY rsR m))) [] [], Orc.br false, Orc.call [4, 5] (AV.v (.int .i64 (lefC (tY m) (zY rsA m) (zY rsR m)))) [] [], Orc.br true, Orc.fin (Gh.nilc 1 0 10 (AObj.rows false FF [])), Orc.fin (Gh.nilc 1 1 1 (AObj.ints 0 false .i64 [])), Orc.fin (Gh.nilc 1 11 1 (AObj.ints 0 false .i64 [])), Orc.fin (Gh.nilc 1 12 1 (AObj.ints 0 false IntKind.u32 []))] [0, 11, 12, 13, 14] [inC 0 (imin (nlen (lenI m)) 4) (nlen (lenI m)), leN (Nat.add 0 (subN (imin (nlen (lenI m)) 4) 0)) (lenI m), ACalls Try.prog 21 [AV.v (Value.string (hY m)), AV.v (Value.string (bs [76, 69, 65, 84]))] [] (AV.v (Value.bool (f42r0 (hY m) (bs [76, 69, 65, 84])))) [] [], isB (notB (f42r0 (hY m) (bs [76, 69, 65, 84]))) false, inC 4 (nlen (lenI m)) (nlen (lenI m)), leN (Nat.add 4 (subN (nlen (lenI m)) 4)) (lenI m), ACalls Try.prog 22 [AV.sw 0 1] [AObj.ints 0 false IntKind.u8 (tY m)] (AV.ptr 1 0) [] [AObj.cells 0 true [AV.sw 2 1, AV.v (.int .i64 0), AV.v (.int .i64 0)], AObj.ints 0 false IntKind.u8 (tY m)], ACalls Try.prog 23 [AV.ptr 0 0, AV.ptr 1 0] [AObj.cells 0 true [AV.sw 2 1, AV.v (.int .i64 0), AV.v (.int .i64 0)], AObj.cells 0 true [AV.v (Value.slice none 0 0), AV.v (Value.slice none 0 0), AV.v (.int .i64 0), AV.v (.int .i64 0), AV.v (.int .i64 0), AV.v (.int .i64 0), AV.v (.int .i64 0), AV.v (.int .i64 0), AV.v (.int .i64 0), AV.v (.int .i64 0), AV.v (.int .i64 0), AV.v (Value.slice none 0 0), AV.v (Value.slice none 0 0), AV.v (.int .i64 0), AV.v (.int .i64 0)], AObj.ints 0 false IntKind.u8 (tY m)] (AV.tup []) [(0, AObj.cells 0 true [AV.sw 2 1, AV.v (.int .i64 (aY m)), AV.v (.int .i64 (rY m))]), (1, AObj.cells 0 true [AV.sw 3 10, AV.sw 4 1, AV.v (.int .i64 0), AV.v (.int .i64 0), AV.v (.int .i64 0), AV.v (.int .i64 0), AV.v (.int .i64 0), AV.v (.int .i64 0), AV.v (.int .i64 0), AV.v (.int .i64 0), AV.v (.int .i64 0), AV.v (Value.slice none 0 0), AV.v (Value.slice none 0 0), AV.v (.int .i64 0), AV.v (.int .i64 0)])] [AObj.rows false FF (fqF (tY m) 0 0), AObj.ints 0 false .i64 (fqB (tY m) 0 0)], ACalls Try.prog 24 [AV.ptr 0 0, AV.ptr 1 0] [AObj.cells 0 true [AV.sw 2 1, AV.v (.int .i64 (aY m)), AV.v (.int .i64 (rY m))], AObj.cells 0 true [AV.sw 3 10, AV.sw 4 1, AV.v (.int .i64 0), AV.v (.int .i64 0), AV.v (.int .i64 0), AV.v (.int .i64 0), AV.v (.int .i64 0), AV.v (.int .i64 0), AV.v (.int .i64 0), AV.v (.int .i64 0), AV.v (.int .i64 0), AV.v (Value.slice none 0 0), AV.v (Value.slice none 0 0), AV.v (.int .i64 0), AV.v (.int .i64 0)], AObj.ints 0 false IntKind.u8 (tY m), AObj.rows false FF (fqF (tY m) 0 0), AObj.ints 0 false .i64 (fqB (tY m) 0 0)] (AV.tup []) [(0, AObj.cells 0 true [AV.sw 2 1, AV.v (.int .i64 (zY rsA m)), AV.v (.int .i64 (zY rsR m))]), (1, AObj.cells 0 true [AV.sw 3 10, AV.sw 4 1, AV.v (.int .i64 (vY m 0)), AV.v (.int .i64 (vY m 1)), AV.v (.int .i64 (vY m 2)), AV.v (.int .i64 (vY m 3)), AV.v (.int .i64 (vY m 4)), AV.v (.int .i64 (vY m 5)), AV.v (.int .i64 (vY m 6)), AV.v (.int .i64 (vY m 7)), AV.v (.int .i64 (vY m 8)), AV.sw 5 1, AV.sw 6 1, AV.v (.int .i64 (zY rsT m)), AV.v (.int .i64 (zY rsE m))])] [AObj.ints 0 false .i64 (lY rsP m), AObj.ints 0 false IntKind.u32 (lY rsL m)], ACalls Try.prog 25 [AV.ptr 0 0] [AObj.cells 0 true [AV.sw 1 1, AV.v (.int .i64 (zY rsA m)), AV.v (.int .i64 (zY rsR m))], AObj.ints 0 false IntKind.u8 (tY m)] (AV.v (.int .i64 (zY rsA m))) [] [], ACalls Try.prog 26 [AV.ptr 0 0] [AObj.cells 0 true [AV.sw 1 1, AV.v (.int .i64 (zY rsA m)), AV.v (.int .i64 (zY rsR m))], AObj.ints 0 false IntKind.u8 (tY m)] (AV.v (.int .i64 (zY rsR m))) [] [], isB (ine (zY rsR m) 0) false, ACalls Try.prog 27 [AV.ptr 0 0] [AObj.cells 0 true [AV.sw 1 1, AV.v (.int .i64 (zY rsA m)), AV.v (.int .i64 (zY rsR m))], AObj.ints 0 false IntKind.u8 (tY m)] (AV.v (.int .i64 (lefC (tY m) (zY rsA m) (zY rsR m)))) [] [], isB (ilt 0 (lefC (tY m) (zY rsA m) (zY rsR m))) true] Try.func10 (by kernel_rfl) (by kernel_rfl) (.cons (s0) (.cons (s1) (.cons (by apply f21 <;> (first | exact (s2))) (.cons d0 (.cons (s3 d0) (.cons (s4 d0) (.cons (by apply Go.Proofs.Ytlmnohdgfjienaa.Code.f22 <;> (first | exact (s5 d0))) (.cons (by apply q23 <;> (first | exact (s6 d0))) (.cons (by apply q24 <;> (first | exact (s7 d0))) (.cons (by apply Go.Proofs.Ytlmnohdgfjienaa.Code.f25) (.cons (by apply Go.Proofs.Ytlmnohdgfjienaa.Code.f26) (.cons d1 (.cons (by apply Go.Proofs.Ytlmnohdgfjienaa.Code.g27 <;> (first | exact (s8 d0 d1))) (.cons d2 .nil)))))))))))))))
theorem f10_4 (m : List Int)  (d0 : (notB (f42r0 (hY m) (bs [76, 69, 65, 84]))) = false) (d1 : (ine (zY rsR m) 0) = false) (d2 : (ilt 0 (lefC (tY m) (zY rsA m) (zY rsR m))) = false) (d3 : (ine (kY m) 0) = true) (s0 : inC 0 (imin (nlen (lenI m)) 4) (nlen (lenI m))) (s1 : leN (Nat.add 0 (subN (imin (nlen (lenI m)) 4) 0)) (lenI m)) (s2 : ile (slen (bs [76, 69, 65, 84])) (slen (hY m)) = true → inC 0 (slen (bs [76, 69, 65, 84])) (slen (hY m))) (s3 : ((notB (f42r0 (hY m) (bs [76, 69, 65, 84]))) = false) → inC 4 (nlen (lenI m)) (nlen (lenI m))) (s4 : ((notB (f42r0 (hY m) (bs [76, 69, 65, 84]))) = false) → leN (Nat.add 4 (subN (nlen (lenI m)) 4)) (lenI m)) (s5 : ((notB (f42r0 (hY m) (bs [76, 69, 65, 84]))) = false) → fitN (lenI (tY m)) 1) (s6 : ((notB (f42r0 (hY m) (bs [76, 69, 65, 84]))) = false) → okC (tY m) 0 = true) (s7 : ((notB (f42r0 (hY m) (bs [76, 69, 65, 84]))) = false) → okC (tY m) (aY m) = true) (s8 : ((notB (f42r0 (hY m) (bs [76, 69, 65, 84]))) = false) → ((ine (zY rsR m) 0) = false) → okC (tY m) (zY rsA m) = true) : ACalls Try.prog 10 [AV.sw 0 1] [AObj.ints 0 false IntKind.u8 m] (AV.tup [AV.agg [AV.sw 1 10, AV.sw 2 1, AV.v (.int .i64 0), AV.v (.int .i64 0), AV.v (.int .i64 0), AV.v (.int .i64 0), AV.v (.int .i64 0), AV.v (.int .i64 0), AV.v (.int .i64 0), AV.v (.int .i64 0), AV.v (.int .i64 0), AV.sw 3 1, AV.sw 4 1, AV.v (.int .i64 0), AV.v (.int .i64 0)], AV.v (.int .i64 (kY m)), AV.v (.int .i64 (iadd .i64 4 (zY rsA m)))]) [] [AObj.rows false FF [], AObj.ints 0 false .i64 [], AObj.ints 0 false .i64 [], AObj.ints 0 false IntKind.u32 []] :=
  ACalls.nb (res := AV.tup [AV.agg [AV.sw 1 10, AV.sw 2 1, AV.v (.int .i64 0), AV.v (.int .i64 0), AV.v (.int .i64 0), AV.v (.int .i64 0), AV.v (.int .i64 0), AV.v (.int .i64 0), AV.v (.int .i64 0), AV.v (.int .i64 0), AV.v (.int .i64 0), AV.sw 3 1, AV.sw 4 1, AV.v (.int .i64 0), AV.v (.int .i64 0)], AV.v (.int .i64 (kY m)), AV.v (.int .i64 (iadd .i64 4 (zY rsA m)))]) (.of_out [Orc.call [] (AV.v (Value.bool (f42r0 (hY m) (bs [76, 69, 65, 84])))) [] [], Orc.br false, Orc.call [3] (AV.ptr 1 0) [] [AObj.cells 0 true [AV.sw 2 1, AV.v (.int .i64 0), AV.v (.int .i64 0)], AObj.ints 0 false IntKind.u8 (tY m)], Orc.call [4, 6, 5] (AV.tup []) [(0, AObj.cells 0 true [AV.sw 2 1, AV.v (.int .i64 (aY m)), AV.v (.int .i64 (rY m))]), (1, AObj.cells 0 true [AV.sw 3 10, AV.sw 4 1, AV.v (.int .i64 0), AV.v (.int .i64 0), AV.v (.int .i64 0), AV.v (.int .i64 0), AV.v (.int .i64 0), AV.v (.int .i64 0), AV.v (.int .i64 0), AV.v (.int .i64 0), AV.v (.int .i64 0), AV.v (Value.slice none 0 0), AV.v (Value.slice none 0 0), AV.v (.int .i64 0), AV.v (.int .i64 0)])] [AObj.rows false FF (fqF (tY m) 0 0), AObj.ints 0 false .i64 (fqB (tY m) 0 0)], Orc.call [4, 6, 5, 7, 8] (AV.tup []) [(0, AObj.cells 0 true [AV.sw 2 1, AV.v (.int .i64 (zY rsA m)), AV.v (.int .i64 (zY rsR m))]), (1, AObj.cells 0 true [AV.sw 3 10, AV.sw 4 1, AV.v (.int .i64 (vY m 0)), AV.v (.int .i64 (vY m 1)), AV.v (.int .i64 (vY m 2)), AV.v (.int .i64 (vY m 3)), AV.v (.int .i64 (vY m 4)), AV.v (.int .i64 (vY m 5)), AV.v (.int .i64 (vY m 6)), AV.v (.int .i64 (vY m 7)), AV.v (.int .i64 (vY m 8)), AV.sw 5 1, AV.sw 6 1, AV.v (.int .i64 (zY rsT m)), AV.v (.int .i64 (zY rsE m))])] [AObj.ints 0 false .i64 (lY rsP m), AObj.ints 0 false IntKind.u32 (lY rsL m)], Orc.call [4, 5] (AV.v (.int .i64 (zY rsA m))) [] [], Orc.call [4, 5] (AV.v (.int .i64 (zY rsR m))) [] [], Orc.br false, Orc.call [4, 5] (AV.v (.int .i64 (lefC (tY m) (zY rsA m) (zY rsR m)))) [] [], Orc.br false, Orc.call [7, 8, 9, 10] (AV.tup [AV.v (.int .i64 (kY m)), AV.v (.int .i64 (ckK (vY m 0) (vY m 1) (vY m 2) (vY m 3) (vY m 4) (vY m 5) (vY m 6) (vY m 7) (vY m 8) (zY rsT m) (zY rsE m) (lenR FF (fqF (tY m) 0 0)) (lenI (fqB (tY m) 0 0)) (lenI (lY rsP m)) (lenI (lY rsL m)) (fb (fqF (tY m) 0 0) (fqB (tY m) 0 0)) (pix (lY rsP m))))]) [] [], Orc.br true, Orc.fin (Gh.nilc 1 0 10 (AObj.rows false FF [])), Orc.fin (Gh.nilc 1 1 1 (AObj.ints 0 false .i64 [])), Orc.fin (Gh.nilc 1 11 1 (AObj.ints 0 false .i64 [])), Orc.fin (Gh.nilc 1 12 1 (AObj.ints 0 false IntKind.u32 []))] [0, 11, 12, 13, 14] [inC 0 (imin (nlen (lenI m)) 4) (nlen (lenI m)), leN (Nat.add 0 (subN (imin (nlen (lenI m)) 4) 0)) (lenI m), ACalls Try.prog 21 [AV.v (Value.string (hY m)), AV.v (Value.string (bs [76, 69, 65, 84]))] [] (AV.v (Value.bool (f42r0 (hY m) (bs [76, 69, 65, 84])))) [] [], isB (notB (f42r0 (hY m) (bs [76, 69, 65, 84]))) false, inC 4 (nlen (lenI m)) (nlen (lenI m)), leN (Nat.add 4 (subN (nlen (lenI m)) 4)) (lenI m), ACalls Try.prog 22 [AV.sw 0 1] [AObj.ints 0 false IntKind.u8 (tY m)] (AV.ptr 1 0) [] [AObj.cells 0 true [AV.sw 2 1, AV.v (.int .i64 0), AV.v (.int .i64 0)], AObj.ints 0 false IntKind.u8 (tY m)], ACalls Try.prog 23 [AV.ptr 0 0, AV.ptr 1 0] [AObj.cells 0 true [AV.sw 2 1, AV.v (.int .i64 0), AV.v (.int .i64 0)], AObj.cells 0 true [AV.v (Value.slice none 0 0), AV.v (Value.slice none 0 0), AV.v (.int .i64 0), AV.v (.int .i64 0), AV.v (.int .i64 0), AV.v (.int .i64 0), AV.v (.int .i64 0), AV.v (.int .i64 0), AV.v (.int .i64 0), AV.v (.int .i64 0), AV.v (.int .i64 0), AV.v (Value.slice none 0 0), AV.v (Value.slice none 0 0), AV.v (.int .i64 0), AV.v (.int .i64 0)], AObj.ints 0 false IntKind.u8 (tY m)] (AV.tup []) [(0, AObj.cells 0 true [AV.sw 2 1, AV.v (.int .i64 (aY m)), AV.v (.int .i64 (rY m))]), (1, AObj.cells 0 true [AV.sw 3 10, AV.sw 4 1, AV.v (.int .i64 0), AV.v (.int .i64 0), AV.v (.int .i64 0), AV.v (.int .i64 0), AV.v (.int .i64 0), AV.v (.int .i64 0), AV.v (.int .i64 0), AV.v (.int .i64 0), AV.v (.int .i64 0), AV.v (Value.slice none 0 0), AV.v (Value.slice none 0 0), AV.v (.int .i64 0), AV.v (.int .i64 0)])] [AObj.rows false FF (fqF (tY m) 0 0), AObj.ints 0 false .i64 (fqB (tY m) 0 0)], ACalls Try.prog 24 [AV.ptr 0 0, AV.ptr 1 0] [AObj.cells 0 true [AV.sw 2 1, AV.v (.int .i64 (aY m)), AV.v (.int .i64 (rY m))], AObj.cells 0 true [AV.sw 3 10, AV.sw 4 1, AV.v (.int .i64 0), AV.v (.int .i64 0), AV.v (.int .i64 0), AV.v (.int .i64 0), AV.v (.int .i64 0), AV.v (.int .i64 0), AV.v (.int .i64 0), AV.v (.int .i64 0), AV.v (.int .i64 0), AV.v (Value.slice none 0 0), AV.v (Value.slice none 0 0), AV.v (.int .i64 0), AV.v (.int .i64 0)], AObj.ints 0 false IntKind.u8 (tY m), AObj.rows false FF (fqF (tY m) 0 0), AObj.ints 0 false .i64 (fqB (tY m) 0 0)] (AV.tup []) [(0, AObj.cells 0 true [AV.sw 2 1, AV.v (.int .i64 (zY rsA m)), AV.v (.int .i64 (zY rsR m))]), (1, AObj.cells 0 true [AV.sw 3 10, AV.sw 4 1, AV.v (.int .i64 (vY m 0)), AV.v (.int .i64 (vY m 1)), AV.v (.int .i64 (vY m 2)), AV.v (.int .i64 (vY m 3)), AV.v (.int .i64 (vY m 4)), AV.v (.int .i64 (vY m 5)), AV.v (.int .i64 (vY m 6)), AV.v (.int .i64 (vY m 7)), AV.v (.int .i64 (vY m 8)), AV.sw 5 1, AV.sw 6 1, AV.v (.int .i64 (zY rsT m)), AV.v (.int .i64 (zY rsE m))])] [AObj.ints 0 false .i64 (lY rsP m), AObj.ints 0 false IntKind.u32 (lY rsL m)], ACalls Try.prog 25 [AV.ptr 0 0] [AObj.cells 0 true [AV.sw 1 1, AV.v (.int .i64 (zY rsA m)), AV.v (.int .i64 (zY rsR m))], AObj.ints 0 false IntKind.u8 (tY m)] (AV.v (.int .i64 (zY rsA m))) [] [], ACalls Try.prog 26 [AV.ptr 0 0] [AObj.cells 0 true [AV.sw 1 1, AV.v (.int .i64 (zY rsA m)), AV.v (.int .i64 (zY rsR m))], AObj.ints 0 false IntKind.u8 (tY m)] (AV.v (.int .i64 (zY rsR m))) [] [], isB (ine (zY rsR m) 0) false, ACalls Try.prog 27 [AV.ptr 0 0] [AObj.cells 0 true [AV.sw 1 1, AV.v (.int .i64 (zY rsA m)), AV.v (.int .i64 (zY rsR m))], AObj.ints 0 false IntKind.u8 (tY m)] (AV.v (.int .i64 (lefC (tY m) (zY rsA m) (zY rsR m)))) [] [], isB (ilt 0 (lefC (tY m) (zY rsA m) (zY rsR m))) false, ACalls Try.prog 14 [AV.agg [AV.sw 0 10, AV.sw 1 1, AV.v (.int .i64 (vY m 0)), AV.v (.int .i64 (vY m 1)), AV.v (.int .i64 (vY m 2)), AV.v (.int .i64 (vY m 3)), AV.v (.int .i64 (vY m 4)), AV.v (.int .i64 (vY m 5)), AV.v (.int .i64 (vY m 6)), AV.v (.int .i64 (vY m 7)), AV.v (.int .i64 (vY m 8)), AV.sw 2 1, AV.sw 3 1, AV.v (.int .i64 (zY rsT m)), AV.v (.int .i64 (zY rsE m))]] [AObj.rows false FF (fqF (tY m) 0 0), AObj.ints 0 false .i64 (fqB (tY m) 0 0), AObj.ints 0 false .i64 (lY rsP m), AObj.ints 0 false IntKind.u32 (lY rsL m)] (AV.tup [AV.v (.int .i64 (kY m)), AV.v (.int .i64 (ckK (vY m 0) (vY m 1) (vY m 2) (vY m 3) (vY m 4) (vY m 5) (vY m 6) (vY m 7) (vY m 8) (zY rsT m) (zY rsE m) (lenR FF (fqF (tY m) 0 0)) (lenI (fqB (tY m) 0 0)) (lenI (lY rsP m)) (lenI (lY rsL m)) (fb (fqF (tY m) 0 0) (fqB (tY m) 0 0)) (pix (lY rsP m))))]) [] [], isB (ine (kY m) 0) true] Try.func10 (by kernel_rfl) (by kernel_rfl) (.cons (s0) (.cons (s1) (.cons (by apply f21 <;> (first | exact (s2))) (.cons d0 (.cons (s3 d0) (.cons (s4 d0) (.cons (by apply Go.Proofs.Ytlmnohdgfjienaa.Code.f22 <;> (first | exact (s5 d0))) (.cons (by apply q23 <;> (first | exact (s6 d0))) (.cons (by apply q24 <;> (first | exact (s7 d0))) (.cons (by apply Go.Proofs.Ytlmnohdgfjienaa.Code.f25) (.cons (by apply Go.Proofs.Ytlmnohdgfjienaa.Code.f26) (.cons d1 (.cons (by apply Go.Proofs.Ytlmnohdgfjienaa.Code.g27 <;> (first | exact (s8 d0 d1))) (.cons d2 (.cons (by apply g14) (.cons d3 .nil)))))))))))))))))
theorem f10_5 (m : List Int)  (d0 : (notB (f42r0 (hY m) (bs [76, 69, 65, 84]))) = false) (d1 : (ine (zY rsR m) 0) = false) (d2 : (ilt 0 (lefC (tY m) (zY rsA m) (zY rsR m))) = false) (d3 : (ine (kY m) 0) = false) (s0 : inC 0 (imin (nlen (lenI m)) 4) (nlen (lenI m))) (s1 : leN (Nat.add 0 (subN (imin (nlen (lenI m)) 4) 0)) (lenI m)) (s2 : ile (slen (bs [76, 69, 65, 84])) (slen (hY m)) = true → inC 0 (slen (bs [76, 69, 65, 84])) (slen (hY m))) (s3 : ((notB (f42r0 (hY m) (bs [76, 69, 65, 84]))) = false) → inC 4 (nlen (lenI m)) (nlen (lenI m))) (s4 : ((notB (f42r0 (hY m) (bs [76, 69, 65, 84]))) = false) → leN (Nat.add 4 (subN (nlen (lenI m)) 4)) (lenI m)) (s5 : ((notB (f42r0 (hY m) (bs [76, 69, 65, 84]))) = false) → fitN (lenI (tY m)) 1) (s6 : ((notB (f42r0 (hY m) (bs [76, 69, 65, 84]))) = false) → okC (tY m) 0 = true) (s7 : ((notB (f42r0 (hY m) (bs [76, 69, 65, 84]))) = false) → okC (tY m) (aY m) = true) (s8 : ((notB (f42r0 (hY m) (bs [76, 69, 65, 84]))) = false) → ((ine (zY rsR m) 0) = false) → okC (tY m) (zY rsA m) = true) : ACalls Try.prog 10 [AV.sw 0 1] [AObj.ints 0 false IntKind.u8 m] (AV.tup [AV.agg [AV.sw 1 10, AV.sw 2 1, AV.v (.int .i64 (vY m 0)), AV.v (.int .i64 (vY m 1)), AV.v (.int .i64 (vY m 2)), AV.v (.int .i64 (vY m 3)), AV.v (.int .i64 (vY m 4)), AV.v (.int .i64 (vY m 5)), AV.v (.int .i64 (vY m 6)), AV.v (.int .i64 (vY m 7)), AV.v (.int .i64 (vY m 8)), AV.sw 3 1, AV.sw 4 1, AV.v (.int .i64 (zY rsT m)), AV.v (.int .i64 (zY rsE m))], AV.v (.int .i64 0), AV.v (.int .i64 0)]) [] [AObj.rows false FF (fqF (tY m) 0 0), AObj.ints 0 false .i64 (fqB (tY m) 0 0), AObj.ints 0 false .i64 (lY rsP m), AObj.ints 0 false IntKind.u32 (lY rsL m)] :=
  ACalls.nb (res := AV.tup [AV.agg [AV.sw 1 10, AV.sw 2 1, AV.v (.int .i64 (vY m 0)), AV.v (.int .i64 (vY m 1)), AV.v (.int .i64 (vY m 2)), AV.v (.int .i64 (vY m 3)), AV.v (.int .i64 (vY m 4)), AV.v (.int .i64 (vY m 5)), AV.v (.int .i64 (vY m 6)), AV.v (.int .i64 (vY m 7)), AV.v (.int .i64 (vY m 8)), AV.sw 3 1, AV.sw 4 1, AV.v (.int .i64 (zY rsT m)), AV.v (.int .i64 (zY rsE m))], AV.v (.int .i64 0), AV.v (.int .i64 0)]) (.of_out [Orc.call [] (AV.v (Value.bool (f42r0 (hY m) (bs [76, 69, 65, 84])))) [] [], Orc.br false, Orc.call [3] (AV.ptr 1 0) [] [AObj.cells 0 true [AV.sw 2 1, AV.v (.int .i64 0), AV.v (.int .i64 0)], AObj.ints 0 false IntKind.u8 (tY m)], Orc.call [4, 6, 5] (AV.tup []) [(0, AObj.cells 0 true [AV.sw 2 1, AV.v (.int .i64 (aY m)), AV.v (.int .i64 (rY m))]), (1, AObj.cells 0 true [AV.sw 3 10, AV.sw 4 1, AV.v (.int .i64 0), AV.v (.int .i64 0), AV.v (.int .i64 0), AV.v (.int .i64 0), AV.v (.int .i64 0), AV.v (.int .i64 0), AV.v (.int .i64 0), AV.v (.int .i64 0), AV.v (.int .i64 0), AV.v (Value.slice none 0 0), AV.v (Value.slice none 0 0), AV.v (.int .i64 0), AV.v (.int .i64 0)])] [AObj.rows false FF (fqF (tY m) 0 0), AObj.ints 0 false .i64 (fqB (tY m) 0 0)], Orc.call [4, 6, 5, 7, 8] (AV.tup []) [(0, AObj.cells 0 true [AV.sw 2 1, AV.v (.int .i64 (zY rsA m)), AV.v (.int .i64 (zY rsR m))]), (1, AObj.cells 0 true [AV.sw 3 10, AV.sw 4 1, AV.v (.int .i64 (vY m 0)), AV.v (.int .i64 (vY m 1)), AV.v (.int .i64 (vY m 2)), AV.v (.int .i64 (vY m 3)), AV.v (.int .i64 (vY m 4)), AV.v (.int .i64 (vY m 5)), AV.v (.int .i64 (vY m 6)), AV.v (.int .i64 (vY m 7)), AV.v (.int .i64 (vY m 8)), AV.sw 5 1, AV.sw 6 1, AV.v (.int .i64 (zY rsT m)), AV.v (.int .i64 (zY rsE m))])] [AObj.ints 0 false .i64 (lY rsP m), AObj.ints 0 false IntKind.u32 (lY rsL m)], Orc.call [4, 5] (AV.v (.int .i64 (zY rsA m))) [] [], Orc.call [4, 5] (AV.v (.int .i64 (zY rsR m))) [] [], Orc.br false, Orc.call [4, 5] (AV.v (.int .i64 (lefC (tY m) (zY rsA m) (zY rsR m)))) [] [], Orc.br false, Orc.call [7, 8, 9, 10] (AV.tup [AV.v (.int .i64 (kY m)), AV.v (.int .i64 (ckK (vY m 0) (vY m 1) (vY m 2) (vY m 3) (vY m 4) (vY m 5) (vY m 6) (vY m 7) (vY m 8) (zY rsT m) (zY rsE m) (lenR FF (fqF (tY m) 0 0)) (lenI (fqB (tY m) 0 0)) (lenI (lY rsP m)) (lenI (lY rsL m)) (fb (fqF (tY m) 0 0) (fqB (tY m) 0 0)) (pix (lY rsP m))))]) [] [], Orc.br false] [0, 7, 8, 9, 10] [inC 0 (imin (nlen (lenI m)) 4) (nlen (lenI m)), leN (Nat.add 0 (subN (imin (nlen (lenI m)) 4) 0)) (lenI m), ACalls Try.prog 21 [AV.v (Value.string (hY m)), AV.v (Value.string (bs [76, 69, 65, 84]))] [] (AV.v (Value.bool (f42r0 (hY m) (bs [76, 69, 65, 84])))) [] [], isB (notB (f42r0 (hY m) (bs [76, 69, 65, 84]))) false, inC 4 (nlen (lenI m)) (nlen (lenI m)), leN (Nat.add 4 (subN (nlen (lenI m)) 4)) (lenI m), ACalls Try.prog 22 [AV.sw 0 1] [AObj.ints 0 false IntKind.u8 (tY m)] (AV.ptr 1 0) [] [AObj.cells 0 true [AV.sw 2 1, AV.v (.int .i64 0), AV.v (.int .i64 0)], AObj.ints 0 false IntKind.u8 (tY m)], ACalls Try.prog 23 [AV.ptr 0 0, AV.ptr 1 0] [AObj.cells 0 true [AV.sw 2 1, AV.v (.int .i64 0), AV.v (.int .i64 0)], AObj.cells 0 true [AV.v (Value.slice none 0 0), AV.v (Value.slice none 0 0), AV.v (.int .i64 0), AV.v (.int .i64 0), AV.v (.int .i64 0), AV.v (.int .i64 0), AV.v (.int .i64 0), AV.v (.int .i64 0), AV.v (.int .i64 0), AV.v (.int .i64 0), AV.v (.int .i64 0), AV.v (Value.slice none 0 0), AV.v (Value.slice none 0 0), AV.v (.int .i64 0), AV.v (.int .i64 0)], AObj.ints 0 false IntKind.u8 (tY m)] (AV.tup []) [(0, AObj.cells 0 true [AV.sw 2 1, AV.v (.int .i64 (aY m)), AV.v (.int .i64 (rY m))]), (1, AObj.cells 0 true [AV.sw 3 10, AV.sw 4 1, AV.v (.int .i64 0), AV.v (.int .i64 0), AV.v (.int .i64 0), AV.v (.int .i64 0), AV.v (.int .i64 0), AV.v (.int .i64 0), AV.v (.int .i64 0), AV.v (.int .i64 0), AV.v (.int .i64 0), AV.v (Value.slice none 0 0), AV.v (Value.slice none 0 0), AV.v (.int .i64 0), AV.v (.int .i64 0)])] [AObj.rows false FF (fqF (tY m) 0 0), AObj.ints 0 false .i64 (fqB (tY m) 0 0)], ACalls Try.prog 24 [AV.ptr 0 0, AV.ptr 1 0] [AObj.cells 0 true [AV.sw 2 1, AV.v (.int .i64 (aY m)), AV.v (.int .i64 (rY m))], AObj.cells 0 true [AV.sw 3 10, AV.sw 4 1, AV.v (.int .i64 0), AV.v (.int .i64 0), AV.v (.int .i64 0), AV.v (.int .i64 0), AV.v (.int .i64 0), AV.v (.int .i64 0), AV.v (.int .i64 0), AV.v (.int .i64 0), AV.v (.int .i64 0), AV.v (Value.slice none 0 0), AV.v (Value.slice none 0 0), AV.v (.int .i64 0), AV.v (.int .i64 0)], AObj.ints 0 false IntKind.u8 (tY m), AObj.rows false FF (fqF (tY m) 0 0), AObj.ints 0 false .i64 (fqB (tY m) 0 0)] (AV.tup []) [(0, AObj.cells 0 true [AV.sw 2 1, AV.v (.int .i64 (zY rsA m)), AV.v (.int .i64 (zY rsR m))]), (1, AObj.cells 0 true [AV.sw 3 10, AV.sw 4 1, AV.v (.int .i64 (vY m 0)), AV.v (.int .i64 (vY m 1)), AV.v (.int .i64 (vY m 2)), AV.v (.int .i64 (vY m 3)), AV.v (.int .i64 (vY m 4)), AV.v (.int .i64 (vY m 5)), AV.v (.int .i64 (vY m 6)), AV.v (.int .i64 (vY m 7)), AV.v (.int .i64 (vY m 8)), AV.sw 5 1, AV.sw 6 1, AV.v (.int .i64 (zY rsT m)), AV.v (.int .i64 (zY rsE m))])] [AObj.ints 0 false .i64 (lY rsP m), AObj.ints 0 false IntKind.u32 (lY rsL m)], ACalls Try.prog 25 [AV.ptr 0 0] [AObj.cells 0 true [AV.sw 1 1, AV.v (.int .i64 (zY rsA m)), AV.v (.int .i64 (zY rsR m))], AObj.ints 0 false IntKind.u8 (tY m)] (AV.v (.int .i64 (zY rsA m))) [] [], ACalls Try.prog 26 [AV.ptr 0 0] [AObj.cells 0 true [AV.sw 1 1, AV.v (.int .i64 (zY rsA m)), AV.v (.int .i64 (zY rsR m))], AObj.ints 0 false IntKind.u8 (tY m)] (AV.v (.int .i64 (zY rsR m))) [] [], isB (ine (zY rsR m) 0) false, ACalls Try.prog 27 [AV.ptr 0 0] [AObj.cells 0 true [AV.sw 1 1, AV.v (.int .i64 (zY rsA m)), AV.v (.int .i64 (zY rsR m))], AObj.ints 0 false IntKind.u8 (tY m)] (AV.v (.int .i64 (lefC (tY m) (zY rsA m) (zY rsR m)))) [] [], isB (ilt 0 (lefC (tY m) (zY rsA m) (zY rsR m))) false, ACalls Try.prog 14 [AV.agg [AV.sw 0 10, AV.sw 1 1, AV.v (.int .i64 (vY m 0)), AV.v (.int .i64 (vY m 1)), AV.v (.int .i64 (vY m 2)), AV.v (.int .i64 (vY m 3)), AV.v (.int .i64 (vY m 4)), AV.v (.int .i64 (vY m 5)), AV.v (.int .i64 (vY m 6)), AV.v (.int .i64 (vY m 7)), AV.v (.int .i64 (vY m 8)), AV.sw 2 1, AV.sw 3 1, AV.v (.int .i64 (zY rsT m)), AV.v (.int .i64 (zY rsE m))]] [AObj.rows false FF (fqF (tY m) 0 0), AObj.ints 0 false .i64 (fqB (tY m) 0 0), AObj.ints 0 false .i64 (lY rsP m), AObj.ints 0 false IntKind.u32 (lY rsL m)] (AV.tup [AV.v (.int .i64 (kY m)), AV.v (.int .i64 (ckK (vY m 0) (vY m 1) (vY m 2) (vY m 3) (vY m 4) (vY m 5) (vY m 6) (vY m 7) (vY m 8) (zY rsT m) (zY rsE m) (lenR FF (fqF (tY m) 0 0)) (lenI (fqB (tY m) 0 0)) (lenI (lY rsP m)) (lenI (lY rsL m)) (fb (fqF (tY m) 0 0) (fqB (tY m) 0 0)) (pix (lY rsP m))))]) [] [], isB (ine (kY m) 0) false] Try.func10 (by kernel_rfl) (by kernel_rfl) (.cons (s0) (.cons (s1) (.cons (by apply f21 <;> (first | exact (s2))) (.cons d0 (.cons (s3 d0) (.cons (s4 d0) (.cons (by apply Go.Proofs.Ytlmnohdgfjienaa.Code.f22 <;> (first | exact (s5 d0))) (.cons (by apply q23 <;> (first | exact (s6 d0))) (.cons (by apply q24 <;> (first | exact (s7 d0))) (.cons (by apply Go.Proofs.Ytlmnohdgfjienaa.Code.f25) (.cons (by apply Go.Proofs.Ytlmnohdgfjienaa.Code.f26) (.cons d1 (.cons (by apply Go.Proofs.Ytlmnohdgfjienaa.Code.g27 <;> (first | exact (s8 d0 d1))) (.cons d2 (.cons (by apply g14) (.cons d3 .nil)))))))))))))))))
theorem f10 (m : List Int) (s0 : inC 0 (imin (nlen (lenI m)) 4) (nlen (lenI m))) (s1 : leN (Nat.add 0 (subN (imin (nlen (lenI m)) 4) 0)) (lenI m)) (s2 : ile (slen (bs [76, 69, 65, 84])) (slen (hY m)) = true → inC 0 (slen (bs [76, 69, 65, 84])) (slen (hY m))) (s3 : ((notB (f42r0 (hY m) (bs [76, 69, 65, 84]))) = false) → inC 4 (nlen (lenI m)) (nlen (lenI m))) (s4 : ((notB (f42r0 (hY m) (bs [76, 69, 65, 84]))) = false) → leN (Nat.add 4 (subN (nlen (lenI m)) 4)) (lenI m)) (s5 : ((notB (f42r0 (hY m) (bs [76, 69, 65, 84]))) = false) → fitN (lenI (tY m)) 1) (s6 : ((notB (f42r0 (hY m) (bs [76, 69, 65, 84]))) = false) → okC (tY m) 0 = true) (s7 : ((notB (f42r0 (hY m) (bs [76, 69, 65, 84]))) = false) → okC (tY m) (aY m) = true) (s8 : ((notB (f42r0 (hY m) (bs [76, 69, 65, 84]))) = false) → ((ine (zY rsR m) 0) = false) → okC (tY m) (zY rsA m) = true) : ACalls Try.prog 10 [AV.sw 0 1] [AObj.ints 0 false IntKind.u8 m] (AV.tup [AV.agg [AV.sw 1 10, AV.sw 2 1, AV.v (.int .i64 (f10r0 m)), AV.v (.int .i64 (f10r1 m)), AV.v (.int .i64 (f10r2 m)), AV.v (.int .i64 (f10r3 m)), AV.v (.int .i64 (f10r4 m)), AV.v (.int .i64 (f10r5 m)), AV.v (.int .i64 (f10r6 m)), AV.v (.int .i64 (f10r7 m)), AV.v (.int .i64 (f10r8 m)), AV.sw 3 1, AV.sw 4 1, AV.v (.int .i64 (f10r9 m)), AV.v (.int .i64 (f10r10 m))], AV.v (.int .i64 (f10r11 m)), AV.v (.int .i64 (f10r12 m))]) [] [AObj.rows false FF (f10r13 m), AObj.ints 0 false .i64 (f10r14 m), AObj.ints 0 false .i64 (f10r15 m), AObj.ints 0 false IntKind.u32 (f10r16 m)] := by
  have h := (ACalls.cond (notB (f42r0 (hY m) (bs [76, 69, 65, 84]))) (fun d0 => (f10_1 m d0 s0 s1 s2)) (fun d0 => (ACalls.cond (ine (zY rsR m) 0) (fun d1 => (f10_2 m d0 d1 s0 s1 s2 s3 s4 s5 s6 s7)) (fun d1 => (ACalls.cond (ilt 0 (lefC (tY m) (zY rsA m) (zY rsR m))) (fun d2 => (f10_3 m d0 d1 d2 s0 s1 s2 s3 s4 s5 s6 s7 s8)) (fun d2 => (ACalls.cond (ine (kY m) 0) (fun d3 => (f10_4 m d0 d1 d2 d3 s0 s1 s2 s3 s4 s5 s6 s7 s8)) (fun d3 => (f10_5 m d0 d1 d2 d3 s0 s1 s2 s3 s4 s5 s6 s7 s8)))))))))
  simp only [c_int, c_bool, c_str, c_agg, c_tup, c_fn, c_ifc, c_sl, c_pe, c_ptr, c_rows, c_siter, c_consA, c_consU, c_consO, c_cells, c_ints, c_bools, c_strs, c_same] at h
  exact h
end Go.Proofs.Ytlmnohdgfjienaa.Cf

set_option maxRecDepth 100000
set_option linter.all false
set_option maxHeartbeats 0
namespace Go.Proofs.Ytlmnohdgfjienaa.Cf
open Go.Abs Go.Proofs.Ytlmnohdgfjienaa.Code Go.Proofs.Ytlmnohdgfjienaa.Code
/-- what stands behind the word -/
def tl (m : List Int) : List Int := subI m 4 (subN (nlen (lenI m)) 4)
def mg (m : List Int) : Bool := f42r0 (strI (subI m 0 (subN (imin (nlen (lenI m)) 4) 0))) (bs [76, 69, 65, 84])
def sA0 (m : List Int) : Int := fqA (tl m) 0 0
def sR0 (m : List Int) : Int := fqR (tl m) 0 0
def dV (m : List Int) (i : Nat) : Int := stV (tl m) (sA0 m) (sR0 m) i
/-- what Check says of what was read -/
def dck (m : List Int) : Int := ckE (dV m 0) (dV m 1) (dV m 2) (dV m 3) (dV m 4) (dV m 5) (dV m 6) (dV m 7) (dV m 8) (rsT (tl m) (sA0 m) (sR0 m)) (rsE (tl m) (sA0 m) (sR0 m)) (lenR FF (fqF (tl m) 0 0)) (lenI (fqB (tl m) 0 0)) (lenI (rsP (tl m) (sA0 m) (sR0 m))) (lenI (rsL (tl m) (sA0 m) (sR0 m))) (fb (fqF (tl m) 0 0) (fqB (tl m) 0 0)) (pix (rsP (tl m) (sA0 m) (sR0 m)))
/-- the error -/
def er (m : List Int) : Int := bif notB (mg m) then 5 else bif ine (rsR (tl m) (sA0 m) (sR0 m)) 0 then rsR (tl m) (sA0 m) (sR0 m) else bif ilt 0 (lefC (tl m) (rsA (tl m) (sA0 m) (sR0 m)) (rsR (tl m) (sA0 m) (sR0 m))) then 4 else dck m
/-- and where it is -/
def plc (m : List Int) : Int := bif notB (mg m) then 0 else bif ine (rsR (tl m) (sA0 m) (sR0 m)) 0 then iadd .i64 4 (rsA (tl m) (sA0 m) (sR0 m)) else bif ilt 0 (lefC (tl m) (rsA (tl m) (sA0 m) (sR0 m)) (rsR (tl m) (sA0 m) (sR0 m))) then iadd .i64 4 (rsA (tl m) (sA0 m) (sR0 m)) else bif ine (dck m) 0 then iadd .i64 4 (rsA (tl m) (sA0 m) (sR0 m)) else 0
def zI (m : List Int) (x : Int) : Int := bif ieq (er m) 0 then x else 0
def zL (m l : List Int) : List Int := bif ieq (er m) 0 then l else []
def zF (m : List Int) (l : List (El FF)) : List (El FF) := bif ieq (er m) 0 then l else []
theorem ok_rs {m : List Int} {a : Int} (r : Int) (ho : okC m a = true) : okC m (rsA m a r) = true := by
  have o9 := ok_st m a r ho 9
  have op : okC m (plQ m a r).1 = true := ok_pl m _ _ _ (upA_ok _ _ o9)
  have od : okC m (drQ m a r).1 = true := ok_dr m _ _ _ (upA_ok _ _ op)
  unfold rsA
  cases plE m a r
  · cases drE m a r
    · exact ok_st m _ _ (upA_ok _ _ od) 1
    · exact od
  · exact op
theorem mg_len {m : List Int} (h : mg m = true) : 4 ≤ m.length := by
  unfold mg f42r0 at h
  cases hl : ile (slen (bs [76, 69, 65, 84])) (slen (strI (subI m 0 (subN (imin (nlen (lenI m)) 4) 0)))) with
  | false => rw [hl] at h; simp at h
  | true =>
    unfold ile at hl
    have h2 := of_decide_eq_true hl
    have e : (strI (subI m 0 (subN (imin (nlen (lenI m)) 4) 0))).size = (subI m 0 (subN (imin (nlen (lenI m)) 4) 0)).length := by
      unfold strI strOfNums; show (Array.size _) = _; simp
    have e2 : slen (bs [76, 69, 65, 84]) = 4 := by decide
    rw [e2] at h2
    unfold slen at h2
    rw [e] at h2
    unfold subI subN at h2
    rw [List.length_take, List.length_drop] at h2
    omega
theorem tl_drop (m : List Int) (h : 4 ≤ m.length) : tl m = m.drop 4 := by
  unfold tl subI subN nlen lenI; rw [List.take_of_length_le (by rw [List.length_drop]; omega)]
theorem er_0 {m : List Int} (h : er m = 0) : mg m = true ∧ rsR (tl m) (sA0 m) (sR0 m) = 0 ∧ ilt 0 (lefC (tl m) (rsA (tl m) (sA0 m) (sR0 m)) (rsR (tl m) (sA0 m) (sR0 m))) = false ∧ dck m = 0 := by
  unfold er at h
  cases h1 : mg m with
  | false => rw [h1] at h; simp [notB] at h
  | true =>
    rw [h1] at h
    simp only [notB, Bool.not_true, cond_false] at h
    by_cases h2 : rsR (tl m) (sA0 m) (sR0 m) = 0
    · rw [show ine (rsR (tl m) (sA0 m) (sR0 m)) 0 = false from by unfold ine; simpa using h2, cond_false] at h
      cases h3 : ilt 0 (lefC (tl m) (rsA (tl m) (sA0 m) (sR0 m)) (rsR (tl m) (sA0 m) (sR0 m))) with
      | true => rw [h3] at h; simp at h
      | false => rw [h3, cond_false] at h; exact ⟨rfl, h2, rfl, h⟩
    · rw [show ine (rsR (tl m) (sA0 m) (sR0 m)) 0 = true from by unfold ine; simpa using h2, cond_true] at h
      exact absurd h h2
theorem ne_ieq {x : Int} (h : x ≠ 0) : ieq x 0 = false := by unfold ieq; simpa using h
theorem g10 (m : List Int) (hm : m.length ≤ 50000) (hb : byB m = true) : ACalls Try.prog 10 [AV.sw 0 1] [AObj.ints 0 false .u8 m] (AV.tup [AV.agg [AV.sw 1 10, AV.sw 2 1, iI (zI m (dV m 0)), iI (zI m (dV m 1)), iI (zI m (dV m 2)), iI (zI m (dV m 3)), iI (zI m (dV m 4)), iI (zI m (dV m 5)), iI (zI m (dV m 6)), iI (zI m (dV m 7)), iI (zI m (dV m 8)), AV.sw 3 1, AV.sw 4 1, iI (zI m (rsT (tl m) (sA0 m) (sR0 m))), iI (zI m (rsE (tl m) (sA0 m) (sR0 m)))], iI (er m), iI (plc m)]) [] [AObj.rows false FF (zF m (fqF (tl m) 0 0)), AObj.ints 0 false .i64 (zL m (fqB (tl m) 0 0)), AObj.ints 0 false .i64 (zL m (rsP (tl m) (sA0 m) (sR0 m))), AObj.ints 0 false .u32 (zL m (rsL (tl m) (sA0 m) (sR0 m)))] := by
  have p0 : inC 0 (imin (nlen (lenI m)) 4) (nlen (lenI m)) := by unfold inC imin nlen lenI; omega
  have p1 : leN (Nat.add 0 (subN (imin (nlen (lenI m)) 4) 0)) (lenI m) := by unfold leN subN imin nlen lenI; show 0 + _ ≤ _; omega
  have p2 : ile (slen (bs [76, 69, 65, 84])) (slen (strI (subI m 0 (subN (imin (nlen (lenI m)) 4) 0)))) = true → inC 0 (slen (bs [76, 69, 65, 84])) (slen (strI (subI m 0 (subN (imin (nlen (lenI m)) 4) 0)))) := fun h => by
    unfold ile at h; have := of_decide_eq_true h; unfold inC slen at *; omega
  cases h1 : mg m with
  | false =>
    have d : notB (mg m) = true := by rw [h1]; rfl
    have e : er m = 5 := by unfold er; rw [d]; rfl
    have h := f10_1 m (d0 := d) (s0 := p0) (s1 := p1) (s2 := p2)
    unfold zI zF zL plc; rw [e, d]
    exact h
  | true =>
    have d : notB (mg m) = false := by rw [h1]; rfl
    have h4 := mg_len h1
    have hd := tl_drop m h4
    have p3 : inC 4 (nlen (lenI m)) (nlen (lenI m)) := by unfold inC nlen lenI; omega
    have p4 : leN (Nat.add 4 (subN (nlen (lenI m)) 4)) (lenI m) := by unfold leN subN nlen lenI; show 4 + _ ≤ _; omega
    have p5 : fitN (lenI (tl m)) 1 := by rw [hd]; unfold fitN lenI; rw [List.length_drop]; omega
    have o0 : okC (tl m) 0 = true := by
      rw [hd, okC_iff, List.length_drop]
      exact ⟨by omega, byB_iff.2 fun c hc => byB_iff.1 hb c (List.mem_of_mem_drop hc)⟩
    have o1 : okC (tl m) (sA0 m) = true := ok_fq _ o0
    have o2 := ok_rs (sR0 m) o1
    by_cases h2 : rsR (tl m) (sA0 m) (sR0 m) = 0
    · have d1 : ine (rsR (tl m) (sA0 m) (sR0 m)) 0 = false := by unfold ine; simpa using h2
      cases d2 : ilt 0 (lefC (tl m) (rsA (tl m) (sA0 m) (sR0 m)) (rsR (tl m) (sA0 m) (sR0 m))) with
      | true =>
        have e : er m = 4 := by unfold er; rw [d, d1, d2]; rfl
        have h := f10_3 m (d0 := d) (d1 := d1) (d2 := d2) (s0 := p0) (s1 := p1) (s2 := p2) (s3 := fun _ => p3) (s4 := fun _ => p4) (s5 := fun _ => p5) (s6 := fun _ => o0) (s7 := fun _ => o1) (s8 := fun _ _ => o2)
        unfold zI zF zL plc; rw [e, d, d1, d2]
        exact h
      | false =>
        by_cases h3 : dck m = 0
        · have d3 : ine (dck m) 0 = false := by unfold ine; simpa using h3
          have e : er m = 0 := by unfold er; rw [d, d1, d2]; exact h3
          have h := f10_5 m (d0 := d) (d1 := d1) (d2 := d2) (d3 := d3) (s0 := p0) (s1 := p1) (s2 := p2) (s3 := fun _ => p3) (s4 := fun _ => p4) (s5 := fun _ => p5) (s6 := fun _ => o0) (s7 := fun _ => o1) (s8 := fun _ _ => o2)
          unfold zI zF zL plc; rw [e, d, d1, d2, d3]
          exact h
        · have d3 : ine (dck m) 0 = true := by unfold ine; simpa using h3
          have e : er m = dck m := by unfold er; rw [d, d1, d2]; rfl
          have h := f10_4 m (d0 := d) (d1 := d1) (d2 := d2) (d3 := d3) (s0 := p0) (s1 := p1) (s2 := p2) (s3 := fun _ => p3) (s4 := fun _ => p4) (s5 := fun _ => p5) (s6 := fun _ => o0) (s7 := fun _ => o1) (s8 := fun _ _ => o2)
          unfold zI zF zL plc; rw [e, d, d1, d2, d3, ne_ieq h3]
          exact h
    · have d1 : ine (rsR (tl m) (sA0 m) (sR0 m)) 0 = true := by unfold ine; simpa using h2
      have e : er m = rsR (tl m) (sA0 m) (sR0 m) := by unfold er; rw [d, d1]; rfl
      have h := f10_2 m (d0 := d) (d1 := d1) (s0 := p0) (s1 := p1) (s2 := p2) (s3 := fun _ => p3) (s4 := fun _ => p4) (s5 := fun _ => p5) (s6 := fun _ => o0) (s7 := fun _ => o1)
      unfold zI zF zL plc; rw [e, d, d1, ne_ieq h2]
      exact h
end Go.Proofs.Ytlmnohdgfjienaa.Cf

set_option maxRecDepth 100000
set_option linter.all false
set_option maxHeartbeats 0
namespace Go.Proofs.Ytlmnohdgfjienaa.Cf
open Go.Abs Go.Proofs.Ytlmnohdgfjienaa.Code Go.Proofs.Ytlmnohdgfjienaa.Code
/-- a reader is where this stands -/
structure At (M : List Int) (a : Int) (rest : List Int) : Prop where
  ok : okC M a = true
  at_ : M.drop a.toNat = rest
theorem at_up {M rest : List Int} {a y x : Int} (h : At M a (vb y ++ rest)) (hu : u64B y = true) (hx : y ≤ x) : upV M a 0 x = y ∧ upR M a 0 x = 0 ∧ At M (upA M a 0 x) rest := by
  have hn := num0_vb rest hu h.at_
  have ho := (okC_iff.1 h.ok).1
  have hk : upOk M a 0 x = true := by unfold upOk; rw [hn]; exact decide_eq_true ⟨rfl, rfl, hx⟩
  refine ⟨by unfold upV; rw [hk, hn]; rfl, by unfold upR; rw [hn]; simp [hx], ⟨upA_ok _ _ h.ok, ?_⟩⟩
  unfold upA; rw [hk, hn]
  simp only [cond_true]
  rw [show (a + ((vb y).length : Int)).toNat = a.toNat + (vb y).length by omega, ← List.drop_drop, h.at_]
  simp
theorem at_st {M rest : List Int} {a : Int} (l : List Int) (hl : l.all i64B = true) (h : At M a (zb l ++ rest)) : ∀ i, i ≤ l.length → stR M a 0 i = 0 ∧ At M (stA M a 0 i) (zb (l.drop i) ++ rest)
  | 0, _ => ⟨rfl, h⟩
  | i + 1, hi => by
    obtain ⟨h1, h2⟩ := at_st l hl h i (by omega)
    have hx : i64B l[i] = true := List.all_eq_true.1 hl _ (List.getElem_mem (by omega))
    rw [List.drop_eq_getElem_cons (show i < l.length by omega), zb_cons, List.append_assoc] at h2
    obtain ⟨k1, k2, k3⟩ := at_up h2 (zzB hx) (x := 18446744073709551615) (by have := u64B_iff.1 (zzB hx); omega)
    have e1 : stR M a 0 (i + 1) = upR M (stA M a 0 i) (stR M a 0 i) 18446744073709551615 := rfl
    have e2 : stA M a 0 (i + 1) = upA M (stA M a 0 i) (stR M a 0 i) 18446744073709551615 := rfl
    rw [e1, e2, h1]
    exact ⟨k2, k3⟩
theorem at_sv {M rest : List Int} {a : Int} (l : List Int) (hl : l.all i64B = true) (h : At M a (zb l ++ rest)) {i : Nat} (hi : i < l.length) : stV M a 0 i = l[i] := by
  obtain ⟨h1, h2⟩ := at_st l hl h i (by omega)
  have hx : i64B l[i] = true := List.all_eq_true.1 hl _ (List.getElem_mem hi)
  rw [List.drop_eq_getElem_cons hi, zb_cons, List.append_assoc] at h2
  obtain ⟨k1, -, -⟩ := at_up h2 (zzB hx) (x := 18446744073709551615) (by have := u64B_iff.1 (zzB hx); omega)
  unfold stV; rw [h1, k1]; exact uz_zz
theorem icv_i64 {x : Int} (h : -9223372036854775808 ≤ x ∧ x ≤ 9223372036854775807) : icv .i64 x = x := by unfold icv; exact w_i64_in h
theorem icv_u64 {x : Int} (h : 0 ≤ x ∧ x ≤ 18446744073709551615) : icv .u64 x = x := by unfold icv; exact w_u64_in h
/-- a flow that is let be -/
theorem kind_in {E : El FF} {x : Int} (hx : x = E.1) (h : lF E = E) : 0 ≤ x ∧ x ≤ 2 := by
  have : kp E.1 0 2 = E.1 := congrArg Prod.fst h
  rw [hx, ← this]; exact kp_lo _ (by decide)
theorem at_fl (j0 : List (El FF)) (j1 : List Int) {M rest : List Int} (h0 : j0.all elB = true) (h1 : j1.all i64B = true) (he : j1.length = j0.length) (hk : ∀ i, i < j0.length → lF (getR FF j0 i) = getR FF j0 i) :
    ∀ (k i : Nat) (a : Int), i + k = j0.length → At M a (flB j0 j1 k i ++ rest) → (frD M k a 0).2.1 = 0 ∧ (frD M k a 0).2.2.1 = j0.drop i ∧ (frD M k a 0).2.2.2 = j1.drop i ∧ At M (frD M k a 0).1 rest
  | 0, i, a, e, h => by
    rw [List.drop_eq_nil_of_le (show j0.length ≤ i by omega), List.drop_eq_nil_of_le (show j1.length ≤ i by omega)]
    exact ⟨rfl, rfl, rfl, h⟩
  | k + 1, i, a, e, h => by
    have hi : i < j0.length := by omega
    have hi1 : i < j1.length := by omega
    have g0 : getR FF j0 i = j0[i] := by unfold getR; rw [List.getD_eq_getElem?_getD, List.getElem?_eq_getElem hi]; rfl
    have g1 : getI j1 i = j1[i] := by unfold getI; rw [List.getD_eq_getElem?_getD, List.getElem?_eq_getElem hi1]; rfl
    have hE : elB (getR FF j0 i) = true := by rw [g0]; exact List.all_eq_true.1 h0 _ (List.getElem_mem hi)
    have hx : i64B (getI j1 i) = true := by rw [g1]; exact List.all_eq_true.1 h1 _ (List.getElem_mem hi1)
    have hkd := kind_in (x := (getR FF j0 i).1) rfl (hk i hi)
    rw [flB, feB, List.append_assoc, List.append_assoc] at h
    obtain ⟨u1, u2, u3⟩ := at_up h (icvB _) (x := 2) (by rw [icv_u64 (by omega)]; omega)
    have hv := val_all hE hx
    generalize hG : getR FF j0 i = E at *
    generalize hX : getI j1 i = x at *
    have s0 := at_st _ hv u3 10 (by simp)
    have q := fun (n : Nat) (hn : n < 10) => at_sv _ hv u3 (i := n) (by simpa using hn)
    have eE : fE M a 0 = E := by
      unfold fE
      rw [u2, u1, q 0 (by omega), q 1 (by omega), q 2 (by omega), q 3 (by omega), q 4 (by omega), q 5 (by omega), q 6 (by omega), q 7 (by omega), q 8 (by omega), icv_u64 (by omega), icv_i64 (by omega)]
      rfl
    have eX : fX M a 0 = x := by unfold fX; rw [u2, q 9 (by omega)]; rfl
    have eR : fR M a 0 = 0 := by unfold fR; rw [u2]; exact s0.1
    have eA : At M (fA M a 0) (flB j0 j1 k (i + 1) ++ rest) := by
      unfold fA; rw [u2]
      have := s0.2
      simpa [zb] using this
    obtain ⟨w1, w2, w3, w4⟩ := at_fl j0 j1 h0 h1 he hk k (i + 1) (fA M a 0) (by omega) eA
    rw [frD, if_neg (by omega), eR, eE, eX]
    refine ⟨w1, ?_, ?_, w4⟩
    · rw [List.drop_eq_getElem_cons hi, ← g0]; exact congrArg _ w2
    · rw [List.drop_eq_getElem_cons hi1, ← g1]; exact congrArg _ w3
theorem at_pl {M rest : List Int} : ∀ (l : List Int) (a : Int), l.all i64B = true → At M a (zb l ++ rest) → (plD M l.length a 0).2.1 = 0 ∧ (plD M l.length a 0).2.2 = l ∧ At M (plD M l.length a 0).1 rest ∧ plS M l.length a 0 = false
  | [], a, hl, h => ⟨rfl, rfl, h, rfl⟩
  | x :: l, a, hl, h => by
    have s := at_st (x :: l) hl h 1 (by simp)
    have v := at_sv (x :: l) hl h (i := 0) (by simp)
    simp only [List.all_cons, Bool.and_eq_true] at hl
    obtain ⟨w1, w2, w3, w4⟩ := at_pl l (stA M a 0 1) hl.2 s.2
    rw [List.length_cons, plD, if_neg (by omega), plS, if_neg (by omega), s.1]
    exact ⟨w1, by rw [v]; exact congrArg _ w2, w3, w4⟩
def u32B (x : Int) : Bool := decide (0 ≤ x ∧ x ≤ 4294967295)
theorem at_dr {M rest : List Int} : ∀ (l : List Int) (a : Int), l.all u32B = true → At M a (drB l ++ rest) → (drD M l.length a 0).2.1 = 0 ∧ (drD M l.length a 0).2.2 = l ∧ At M (drD M l.length a 0).1 rest ∧ drS M l.length a 0 = false
  | [], a, hl, h => ⟨rfl, rfl, h, rfl⟩
  | x :: l, a, hl, h => by
    simp only [List.all_cons, Bool.and_eq_true] at hl
    have hx := of_decide_eq_true hl.1
    have e : drB (x :: l) = vb (icv .u64 x) ++ drB l := rfl
    rw [e, List.append_assoc] at h
    obtain ⟨u1, u2, u3⟩ := at_up h (icvB _) (x := 4294967295) (by rw [icv_u64 (by omega)]; omega)
    obtain ⟨w1, w2, w3, w4⟩ := at_dr l _ hl.2 u3
    rw [List.length_cons, drD, if_neg (by omega), drS, if_neg (by omega), u2]
    refine ⟨w1, ?_, w3, w4⟩
    rw [u1, icv_u64 (by omega), show icv .u32 x = x from by unfold icv; rw [w_u32]; omega]
    exact congrArg _ w2
theorem eB_by (j0 : List (El FF)) (j1 j2 j3 : List Int) (r a0 a1 a2 a3 a4 a5 a6 a7 y z : Int) (hB : cfgB j0 j1 j2 j3 r a0 a1 a2 a3 a4 a5 a6 a7 y z = true) (he : j1.length = j0.length) : byB (eB0 j0 j1 j2 j3 r a0 a1 a2 a3 a4 a5 a6 a7 y z) = true := by
  unfold cfgB at hB
  simp only [Bool.and_eq_true, decide_eq_true_eq] at hB
  obtain ⟨⟨⟨⟨b0, b1⟩, b2⟩, b3⟩, -⟩ := hB
  have v : ∀ x, byB (vb (icv .u64 x)) = true := fun x => vb_by _ _ (Nat.le_refl _) (by have := u64B_iff.1 (icvB x); omega)
  have zv : ∀ l : List Int, l.all i64B = true → byB (zb l) = true := by
    intro l hl
    induction l with
    | nil => rfl
    | cons x l ih =>
      simp only [List.all_cons, Bool.and_eq_true] at hl
      rw [zb_cons]; exact byB_app (vb_by _ _ (Nat.le_refl _) (by have := u64B_iff.1 (zzB hl.1); omega)) (ih hl.2)
  have dv : ∀ l : List Int, byB (drB l) = true := by
    intro l
    induction l with
    | nil => rfl
    | cons x l ih => exact byB_app (v x) ih
  have fv : ∀ k i, i + k = j0.length → byB (flB j0 j1 k i) = true := by
    intro k
    induction k with
    | zero => intro i e; rfl
    | succ k ih =>
      intro i e
      have hi : i < j0.length := by omega
      have hi1 : i < j1.length := by omega
      have g0 : getR FF j0 i = j0[i] := by unfold getR; rw [List.getD_eq_getElem?_getD, List.getElem?_eq_getElem hi]; rfl
      have g1 : getI j1 i = j1[i] := by unfold getI; rw [List.getD_eq_getElem?_getD, List.getElem?_eq_getElem hi1]; rfl
      rw [flB, feB]
      refine byB_app (byB_app (v _) (zv _ (val_all ?_ ?_))) (ih (i + 1) (by omega))
      · rw [g0]; exact List.all_eq_true.1 b0 _ (List.getElem_mem hi)
      · rw [g1]; exact List.all_eq_true.1 b1 _ (List.getElem_mem hi1)
  simp only [List.all_cons, List.all_nil, Bool.and_eq_true] at b3
  obtain ⟨c0, c1, c2, c3, c4, c5, c6, c7, c8, c9, c10, -⟩ := b3
  unfold eB0
  exact byB_app (byB_app (byB_app (byB_app (byB_app (byB_app (byB_app (byB_app (v _) (fv _ _ (by omega))) (zv _ (by simp [c0, c1, c2, c3, c4, c5, c6, c7, c8]))) (v _)) (zv _ b2)) (v _)) (dv _)) (v _)) (zv _ (by simp [c10]))
end Go.Proofs.Ytlmnohdgfjienaa.Cf

set_option maxRecDepth 100000
set_option linter.all false
set_option maxHeartbeats 0
namespace Go.Proofs.Ytlmnohdgfjienaa.Cf
open Go.Abs Go.Proofs.Ytlmnohdgfjienaa.Code Go.Proofs.Ytlmnohdgfjienaa.Code
/-- what is read of a script -/
structure Red (m : List Int) (j0 : List (El FF)) (j1 j2 j3 : List Int) (r a0 a1 a2 a3 a4 a5 a6 a7 y z : Int) : Prop where
  er : er m = 0
  F : fqF (tl m) 0 0 = j0
  B : fqB (tl m) 0 0 = j1
  P : rsP (tl m) (sA0 m) (sR0 m) = j2
  L : rsL (tl m) (sA0 m) (sR0 m) = j3
  V : dV m 0 = r ∧ dV m 1 = a0 ∧ dV m 2 = a1 ∧ dV m 3 = a2 ∧ dV m 4 = a3 ∧ dV m 5 = a4 ∧ dV m 6 = a5 ∧ dV m 7 = a6 ∧ dV m 8 = a7
  T : rsT (tl m) (sA0 m) (sR0 m) = y
  E : rsE (tl m) (sA0 m) (sR0 m) = z
theorem mg_cons (l : List Int) : mg (76 :: 69 :: 65 :: 84 :: l) = true := by
  unfold mg
  have e : subI (76 :: 69 :: 65 :: 84 :: l) 0 (subN (imin (nlen (lenI (76 :: 69 :: 65 :: 84 :: l))) 4) 0) = [76, 69, 65, 84] := by
    have : subN (imin (nlen (lenI (76 :: 69 :: 65 :: 84 :: l))) 4) 0 = 4 := by unfold subN imin nlen lenI; simp only [List.length_cons]; omega
    rw [this]; rfl
  rw [e]; decide
theorem tl_cons (l : List Int) : tl (76 :: 69 :: 65 :: 84 :: l) = l := by
  rw [tl_drop _ (by simp only [List.length_cons]; omega)]; rfl
theorem nB (n : Nat) (h : n ≤ 100000) : icv .u64 (nlen n) = nlen n := icv_u64 (by unfold nlen; omega)
theorem dec_enc (j0 : List (El FF)) (j1 j2 j3 : List Int) (r a0 a1 a2 a3 a4 a5 a6 a7 y z : Int) (hB : cfgB j0 j1 j2 j3 r a0 a1 a2 a3 a4 a5 a6 a7 y z = true) (h3 : j3.all u32B = true) (hk : ckE r a0 a1 a2 a3 a4 a5 a6 a7 y z (lenR FF j0) (lenI j1) (lenI j2) (lenI j3) (fb j0 j1) (pix j2) = 0) :
    Red (76 :: 69 :: 65 :: 84 :: eB0 j0 j1 j2 j3 r a0 a1 a2 a3 a4 a5 a6 a7 y z) j0 j1 j2 j3 r a0 a1 a2 a3 a4 a5 a6 a7 y z := by
  obtain ⟨k1, k2, k3, k4, k5, k6, k7, k8, k9, k10, k11⟩ := (ckE_iff r a0 a1 a2 a3 a4 a5 a6 a7 y z _ _ _ _ _ _).1 hk
  have he : j1.length = j0.length := k3
  have hby := eB_by j0 j1 j2 j3 r a0 a1 a2 a3 a4 a5 a6 a7 y z hB he
  have hB' := hB
  unfold cfgB at hB
  simp only [Bool.and_eq_true, decide_eq_true_eq] at hB
  obtain ⟨⟨⟨⟨b0, b1⟩, b2⟩, b3⟩, n0, n1, n2, n3⟩ := hB
  simp only [List.all_cons, List.all_nil, Bool.and_eq_true] at b3
  obtain ⟨c0, c1, c2, c3, c4, c5, c6, c7, c8, c9, c10, -⟩ := b3
  have hA : [r, a0, a1, a2, a3, a4, a5, a6, a7].all i64B = true := by simp [c0, c1, c2, c3, c4, c5, c6, c7, c8]
  have hZ : [z].all i64B = true := by simp [c10]
  have hlen : (eB0 j0 j1 j2 j3 r a0 a1 a2 a3 a4 a5 a6 a7 y z).length ≤ 60000 := by
    have v0 := vb_len (icvB (nlen (lenR FF j0)))
    have v2 := vb_len (icvB (nlen (lenI j2)))
    have v3 := vb_len (icvB (nlen (lenI j3)))
    have vy := vb_len (icvB y)
    have zA := zb_len hA
    have z2 := zb_len b2
    have zZ := zb_len hZ
    have fl := flB_len b0 b1 he j0.length 0 (by omega)
    have hd := drB_len j3
    simp only [List.length_cons, List.length_nil] at zA zZ
    unfold eB0
    simp only [List.length_append]; omega
  generalize hM : eB0 j0 j1 j2 j3 r a0 a1 a2 a3 a4 a5 a6 a7 y z = M at *
  have hm := tl_cons M
  -- the start
  have A0 : At M 0 (vb (nlen (lenR FF j0)) ++ (flB j0 j1 j0.length 0 ++ (zb [r, a0, a1, a2, a3, a4, a5, a6, a7] ++ (vb (nlen (lenI j2)) ++ (zb j2 ++ (vb (nlen (lenI j3)) ++ (drB j3 ++ (vb (icv .u64 y) ++ zb [z])))))))) := by
    refine ⟨okC_iff.2 ⟨⟨by omega, by omega, by omega⟩, hby⟩, ?_⟩
    rw [← hM]
    unfold eB0
    rw [nB _ (show lenR FF j0 ≤ 100000 by unfold lenR; omega), nB _ (show lenI j2 ≤ 100000 by unfold lenI; omega), nB _ (show lenI j3 ≤ 100000 by unfold lenI; omega)]
    simp [List.append_assoc]
  have un : ∀ n : Nat, n ≤ 100000 → u64B (nlen n) = true := fun n h => u64B_iff.2 (by unfold nlen; omega)
  have l0 : lenR FF j0 = j0.length := rfl
  have l2 : lenI j2 = j2.length := rfl
  have l3 : lenI j3 = j3.length := rfl
  obtain ⟨p1, p2, p3⟩ := at_up A0 (un _ (by omega)) (x := 256) (by unfold nlen; omega)
  have kf : ∀ i, i < j0.length → lF (getR FF j0 i) = getR FF j0 i := fun i hi => ((bad_f _ _ _).1 ((bfr_iff j0 j1 _ _).1 k4 i (Nat.zero_le _) (by omega))).1
  obtain ⟨f1, f2, f3, f4⟩ := at_fl j0 j1 b0 b1 he kf j0.length 0 _ (by omega) p3
  have eN : upN M 0 0 256 = j0.length := by unfold upN; rw [p1]; unfold nlen lenR; omega
  have eQ : frQ M 0 0 = frD M j0.length (upA M 0 0 256) 0 := by unfold frQ; rw [eN, p2]
  rw [← eQ] at f1 f2 f3 f4
  generalize hm' : (76 :: 69 :: 65 :: 84 :: M) = m at *
  have hR0 : sR0 m = 0 := by unfold sR0 fqR; rw [hm]; exact f1
  have hA0 : At M (sA0 m) (zb [r, a0, a1, a2, a3, a4, a5, a6, a7] ++ (vb (nlen (lenI j2)) ++ (zb j2 ++ (vb (nlen (lenI j3)) ++ (drB j3 ++ (vb (icv .u64 y) ++ zb [z])))))) := by unfold sA0 fqA; rw [hm]; exact f4
  -- nine numbers
  have s9 := at_st _ hA hA0 9 (by simp)
  have q := fun (n : Nat) (hn : n < 9) => at_sv _ hA hA0 (i := n) (by simpa using hn)
  have hV : ∀ n, dV m n = stV M (sA0 m) 0 n := fun n => by unfold dV; rw [hm, hR0]
  -- the plan
  have s9' : At M (stA M (sA0 m) 0 9) (vb (nlen (lenI j2)) ++ (zb j2 ++ (vb (nlen (lenI j3)) ++ (drB j3 ++ (vb (icv .u64 y) ++ zb [z]))))) := by
    have := s9.2
    rwa [show ([r, a0, a1, a2, a3, a4, a5, a6, a7].drop 9) = [] from rfl, show zb [] = [] from rfl, List.nil_append] at this
  obtain ⟨g1, g2, g3⟩ := at_up s9' (un _ (by omega)) (x := 4096) (by unfold nlen; omega)
  obtain ⟨h1, h2, h4, h5⟩ := at_pl j2 _ b2 g3
  have eP : plQ M (sA0 m) 0 = plD M j2.length (upA M (stA M (sA0 m) 0 9) 0 4096) 0 := by
    unfold plQ p0N p0A p0R upN; rw [s9.1, g1, g2]; unfold nlen lenI; rw [Int.toNat_natCast]
  have eS : plE M (sA0 m) 0 = false := by
    unfold plE p0N p0A p0R upN; rw [s9.1, g1, g2]; unfold nlen lenI; rw [Int.toNat_natCast]; exact h5
  rw [← eP] at h1 h2 h4
  -- the draws
  obtain ⟨i1, i2, i3⟩ := at_up h4 (un _ (by omega)) (x := 4096) (by unfold nlen; omega)
  obtain ⟨o1, o2, o4, o5⟩ := at_dr j3 _ h3 i3
  have eD : drQ M (sA0 m) 0 = drD M j3.length (upA M (plQ M (sA0 m) 0).1 0 4096) 0 := by
    unfold drQ d0N d0A d0R upN; rw [h1, i1, i2]; unfold nlen lenI; rw [Int.toNat_natCast]
  have eT : drE M (sA0 m) 0 = false := by
    unfold drE d0N d0A d0R upN; rw [h1, i1, i2]; unfold nlen lenI; rw [Int.toNat_natCast]; exact o5
  rw [← eD] at o1 o2 o4
  -- how often, and the end
  have hy : 0 ≤ y ∧ y ≤ 1000 := by unfold wt at k10; exact of_decide_eq_true k10
  have o4' : At M (drQ M (sA0 m) 0).1 (vb (icv .u64 y) ++ (zb [z] ++ [])) := by rw [List.append_nil]; exact o4
  obtain ⟨t1, t2, t3⟩ := at_up o4' (icvB _) (x := 1000) (by rw [icv_u64 (by omega)]; omega)
  have e1 := at_st _ hZ t3 1 (by simp)
  have e2 := at_sv _ hZ t3 (i := 0) (by simp)
  have rR : rsR (tl m) (sA0 m) (sR0 m) = 0 := by unfold rsR; rw [hm, hR0, eS, eT, o1, t2]; exact e1.1
  have rA : rsA (tl m) (sA0 m) (sR0 m) = M.length := by
    unfold rsA; rw [hm, hR0, eS, eT, o1, t2]
    simp only [cond_false]
    have w := e1.2
    have w1 := (okC_iff.1 w.ok).1
    have w2 := w.at_
    rw [show ([z].drop 1) = [] from rfl, show zb [] = [] from rfl, List.append_nil, List.drop_eq_nil_iff] at w2
    omega
  have hF : fqF (tl m) 0 0 = j0 := by unfold fqF; rw [hm]; exact f2
  have hBb : fqB (tl m) 0 0 = j1 := by unfold fqB; rw [hm]; exact f3
  have hP : rsP (tl m) (sA0 m) (sR0 m) = j2 := by unfold rsP; rw [hm, hR0]; exact h2
  have hL : rsL (tl m) (sA0 m) (sR0 m) = j3 := by unfold rsL; rw [hm, hR0, eS]; exact o2
  have hT : rsT (tl m) (sA0 m) (sR0 m) = y := by unfold rsT; rw [hm, hR0, eS, eT, o1, t1, icv_u64 (by omega)]; exact icv_i64 (by omega)
  have hE : rsE (tl m) (sA0 m) (sR0 m) = z := by unfold rsE; rw [hm, hR0, eS, eT, o1, t2]; exact e2
  have hVs : dV m 0 = r ∧ dV m 1 = a0 ∧ dV m 2 = a1 ∧ dV m 3 = a2 ∧ dV m 4 = a3 ∧ dV m 5 = a4 ∧ dV m 6 = a5 ∧ dV m 7 = a6 ∧ dV m 8 = a7 := by
    refine ⟨?_, ?_, ?_, ?_, ?_, ?_, ?_, ?_, ?_⟩
    · rw [hV]; exact q 0 (by omega)
    · rw [hV]; exact q 1 (by omega)
    · rw [hV]; exact q 2 (by omega)
    · rw [hV]; exact q 3 (by omega)
    · rw [hV]; exact q 4 (by omega)
    · rw [hV]; exact q 5 (by omega)
    · rw [hV]; exact q 6 (by omega)
    · rw [hV]; exact q 7 (by omega)
    · rw [hV]; exact q 8 (by omega)
  refine ⟨?_, hF, hBb, hP, hL, hVs, hT, hE⟩
  have hmg : mg m = true := by rw [← hm']; exact mg_cons M
  have hlf : lefC (tl m) (rsA (tl m) (sA0 m) (sR0 m)) (rsR (tl m) (sA0 m) (sR0 m)) = 0 := by unfold lefC; rw [rR, rA, hm]; simp
  obtain ⟨v0, v1, v2, v3, v4, v5, v6, v7, v8⟩ := hVs
  unfold er dck
  rw [hmg, rR, rA]
  rw [rR, rA] at hlf
  rw [hlf, v0, v1, v2, v3, v4, v5, v6, v7, v8, hT, hE, hF, hBb, hP, hL, hk]
  rfl
end Go.Proofs.Ytlmnohdgfjienaa.Cf
