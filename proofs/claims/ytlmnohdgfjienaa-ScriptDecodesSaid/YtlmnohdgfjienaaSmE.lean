import Derived.Test.YtlmnohdgfjienaaAbsO
import Derived.Test.YtlmnohdgfjienaaSmD
import Derived.Test.YtlmnohdgfjienaaSmA
import Derived.Test.YtlmnohdgfjienaaSmB
import Derived.Test.YtlmnohdgfjienaaAbsWf
set_option maxRecDepth 100000
set_option linter.all false
set_option maxHeartbeats 0
set_option linter.unusedSimpArgs false
set_option linter.unusedVariables false
namespace Go.Proofs.Ytlmnohdgfjienaa.Cf
open Go.Abs Go.Proofs.Ytlmnohdgfjienaa.Code Go.Proofs.Ytlmnohdgfjienaa.Code
@[reducible] def kScY0 := [AV.sw 3 10, AV.sw 4 1, AV.v (.int .i64 0), AV.v (.int .i64 0), AV.v (.int .i64 0), AV.v (.int .i64 0), AV.v (.int .i64 0), AV.v (.int .i64 0), AV.v (.int .i64 0), AV.v (.int .i64 0), AV.v (.int .i64 0), AV.v (Value.slice none 0 0), AV.v (Value.slice none 0 0), AV.v (.int .i64 0), AV.v (.int .i64 0)]
@[reducible] def kScY1 := [AV.sw 1 10, AV.sw 2 1, AV.v (.int .i64 0), AV.v (.int .i64 0), AV.v (.int .i64 0), AV.v (.int .i64 0), AV.v (.int .i64 0), AV.v (.int .i64 0), AV.v (.int .i64 0), AV.v (.int .i64 0), AV.v (.int .i64 0), AV.sw 3 1, AV.sw 4 1, AV.v (.int .i64 0), AV.v (.int .i64 0)]
@[reducible] def kScY2 := [AV.v (Value.slice none 0 0), AV.v (Value.slice none 0 0), AV.v (.int .i64 0), AV.v (.int .i64 0), AV.v (.int .i64 0), AV.v (.int .i64 0), AV.v (.int .i64 0), AV.v (.int .i64 0), AV.v (.int .i64 0), AV.v (.int .i64 0), AV.v (.int .i64 0), AV.v (Value.slice none 0 0), AV.v (Value.slice none 0 0), AV.v (.int .i64 0), AV.v (.int .i64 0)]
@[reducible] def kScY3 := [AV.sw 2 1, AV.v (.int .i64 0), AV.v (.int .i64 0)]
@[reducible] def kScY4 := [AObj.rows false FF [], AObj.ints 0 false .i64 [], AObj.ints 0 false .i64 [], AObj.ints 0 false IntKind.u32 []]
@[reducible] def kScY5 (m : List Int) := (Nat.add 0 (subN (imin (nlen (lenI m)) 4) 0))
@[reducible] def kScY6 := (slen (bs [76, 69, 65, 84]))
@[reducible] def kScY7 (m : List Int) := (Nat.add 4 (subN (nlen (lenI m)) 4))
@[reducible] def tY (m : List Int) : List Int := subI m 4 (subN (nlen (lenI m)) 4)
@[reducible] def aY (m : List Int) : Int := fqA (tY m) 0 0
@[reducible] def rY (m : List Int) : Int := fqR (tY m) 0 0
@[reducible] def hY (m : List Int) : ByteArray := strI (subI m 0 (subN (imin (nlen (lenI m)) 4) 0))
@[reducible] def vY (m : List Int) (i : Nat) : Int := stV (tY m) (aY m) (rY m) i
@[reducible] def zY (f : List Int → Int → Int → Int) (m : List Int) : Int := f (tY m) (aY m) (rY m)
@[reducible] def lY (f : List Int → Int → Int → List Int) (m : List Int) : List Int := f (tY m) (aY m) (rY m)
@[reducible] def kY (m : List Int) : Int := ckE (vY m 0) (vY m 1) (vY m 2) (vY m 3) (vY m 4) (vY m 5) (vY m 6) (vY m 7) (vY m 8) (zY rsT m) (zY rsE m) (lenR FF (fqF (tY m) 0 0)) (lenI (fqB (tY m) 0 0)) (lenI (lY rsP m)) (lenI (lY rsL m)) (fb (fqF (tY m) 0 0) (fqB (tY m) 0 0)) (pix (lY rsP m))
def f42r0 (s : ByteArray) (t : ByteArray) : Bool := bif ile (slen t) (slen s) then seqS (ssub s 0 (slen t)) t else false
theorem f42_1 (s : ByteArray) (t : ByteArray)  (d0 : (ile (slen t) (slen s)) = true) (s0 : ((ile (slen t) (slen s)) = true) → inC 0 (slen t) (slen s)) : ACalls Try.prog 42 [AV.v (Value.string s), AV.v (Value.string t)] [] (AV.v (Value.bool (seqS (ssub s 0 (slen t)) t))) [] [] :=
  ACalls.nb (res := AV.v (Value.bool (seqS (ssub s 0 (slen t)) t))) (.of_out [Orc.br true] [] [isB (ile (slen t) (slen s)) true, inC 0 (slen t) (slen s)] Try.func42 (by kernel_rfl) (by kernel_rfl) (.cons d0 (.cons (s0 d0) .nil)))
theorem f42_2 (s : ByteArray) (t : ByteArray)  (d0 : (ile (slen t) (slen s)) = false) : ACalls Try.prog 42 [AV.v (Value.string s), AV.v (Value.string t)] [] (AV.v (Value.bool false)) [] [] :=
  ACalls.nb (res := AV.v (Value.bool false)) (.of_out [Orc.br false] [] [isB (ile (slen t) (slen s)) false] Try.func42 (by kernel_rfl) (by kernel_rfl) (.cons d0 .nil))
theorem f42 (s : ByteArray) (t : ByteArray) (s0 : ((ile (slen t) (slen s)) = true) → inC 0 (slen t) (slen s)) : ACalls Try.prog 42 [AV.v (Value.string s), AV.v (Value.string t)] [] (AV.v (Value.bool (f42r0 s t))) [] [] := by
  have h := (ACalls.cond (ile (slen t) (slen s)) (fun d0 => (f42_1 s t d0 s0)) (fun d0 => (f42_2 s t d0)))
  simp only [c_int, c_bool, c_str, c_agg, c_tup, c_fn, c_ifc, c_sl, c_pe, c_ptr, c_rows, c_siter, c_consA, c_consU, c_consO, c_cells, c_ints, c_bools, c_strs, c_same] at h
  exact h
theorem f21_1 (s : ByteArray) (t : ByteArray)  (s0 : ile (slen t) (slen s) = true → inC 0 (slen t) (slen s)) : ACalls Try.prog 21 [AV.v (Value.string s), AV.v (Value.string t)] [] (AV.v (Value.bool (f42r0 s t))) [] [] :=
  ACalls.nb (res := AV.v (Value.bool (f42r0 s t))) (.of_out [Orc.call [] (AV.v (Value.bool (f42r0 s t))) [] []] [] [ACalls Try.prog 42 [AV.v (Value.string s), AV.v (Value.string t)] [] (AV.v (Value.bool (f42r0 s t))) [] []] Try.func21 (by kernel_rfl) (by kernel_rfl) (.cons (by apply f42 <;> (first | exact (s0))) .nil))
theorem f21 (s : ByteArray) (t : ByteArray) (s0 : ile (slen t) (slen s) = true → inC 0 (slen t) (slen s)) : ACalls Try.prog 21 [AV.v (Value.string s), AV.v (Value.string t)] [] (AV.v (Value.bool (f42r0 s t))) [] [] := (f21_1 s t s0)
theorem f10_1 (m : List Int)  (d0 : (notB (f42r0 (hY m) (bs [76, 69, 65, 84]))) = true) (s0 : inC 0 (imin (nlen (lenI m)) 4) (nlen (lenI m))) (s1 : leN (kScY5 m) (lenI m)) (s2 : ile (kScY6) (slen (hY m)) = true → inC 0 (kScY6) (slen (hY m))) : ACalls Try.prog 10 [AV.sw 0 1] [AObj.ints 0 false IntKind.u8 m] (AV.tup [AV.agg (kScY1), AV.v (.int .i64 5), AV.v (.int .i64 0)]) [] (kScY4) :=
  ACalls.nb (res := AV.tup [AV.agg (kScY1), AV.v (.int .i64 5), AV.v (.int .i64 0)]) (.of_out [Orc.call [] (AV.v (Value.bool (f42r0 (hY m) (bs [76, 69, 65, 84])))) [] [], Orc.br true, Orc.fin (Gh.nilc 1 0 10 (AObj.rows false FF [])), Orc.fin (Gh.nilc 1 1 1 (AObj.ints 0 false .i64 [])), Orc.fin (Gh.nilc 1 11 1 (AObj.ints 0 false .i64 [])), Orc.fin (Gh.nilc 1 12 1 (AObj.ints 0 false IntKind.u32 []))] [0, 3, 4, 5, 6] [inC 0 (imin (nlen (lenI m)) 4) (nlen (lenI m)), leN (kScY5 m) (lenI m), ACalls Try.prog 21 [AV.v (Value.string (hY m)), AV.v (Value.string (bs [76, 69, 65, 84]))] [] (AV.v (Value.bool (f42r0 (hY m) (bs [76, 69, 65, 84])))) [] [], isB (notB (f42r0 (hY m) (bs [76, 69, 65, 84]))) true] Try.func10 (by kernel_rfl) (by kernel_rfl) (.cons (s0) (.cons (s1) (.cons (by apply f21 <;> (first | exact (s2))) (.cons d0 .nil)))))
theorem f10_2 (m : List Int)  (d0 : (notB (f42r0 (hY m) (bs [76, 69, 65, 84]))) = false) (d1 : (ine (zY rsR m) 0) = true) (s0 : inC 0 (imin (nlen (lenI m)) 4) (nlen (lenI m))) (s1 : leN (kScY5 m) (lenI m)) (s2 : ile (kScY6) (slen (hY m)) = true → inC 0 (kScY6) (slen (hY m))) (s3 : ((notB (f42r0 (hY m) (bs [76, 69, 65, 84]))) = false) → inC 4 (nlen (lenI m)) (nlen (lenI m))) (s4 : ((notB (f42r0 (hY m) (bs [76, 69, 65, 84]))) = false) → leN (kScY7 m) (lenI m)) (s5 : ((notB (f42r0 (hY m) (bs [76, 69, 65, 84]))) = false) → fitN (lenI (tY m)) 1) (s6 : ((notB (f42r0 (hY m) (bs [76, 69, 65, 84]))) = false) → okC (tY m) 0 = true) (s7 : ((notB (f42r0 (hY m) (bs [76, 69, 65, 84]))) = false) → okC (tY m) (aY m) = true) : ACalls Try.prog 10 [AV.sw 0 1] [AObj.ints 0 false IntKind.u8 m] (AV.tup [AV.agg (kScY1), AV.v (.int .i64 (zY rsR m)), AV.v (.int .i64 (iadd .i64 4 (zY rsA m)))]) [] (kScY4) :=
  ACalls.nb (res := AV.tup [AV.agg (kScY1), AV.v (.int .i64 (zY rsR m)), AV.v (.int .i64 (iadd .i64 4 (zY rsA m)))]) (.of_out [Orc.call [] (AV.v (Value.bool (f42r0 (hY m) (bs [76, 69, 65, 84])))) [] [], Orc.br false, Orc.call [3] (AV.ptr 1 0) [] [AObj.cells 0 true (kScY3), AObj.ints 0 false IntKind.u8 (tY m)], Orc.call [4, 6, 5] (AV.tup []) [(0, AObj.cells 0 true [AV.sw 2 1, AV.v (.int .i64 (aY m)), AV.v (.int .i64 (rY m))]), (1, AObj.cells 0 true (kScY0))] [AObj.rows false FF (fqF (tY m) 0 0), AObj.ints 0 false .i64 (fqB (tY m) 0 0)], Orc.call [4, 6, 5, 7, 8] (AV.tup []) [(0, AObj.cells 0 true [AV.sw 2 1, AV.v (.int .i64 (zY rsA m)), AV.v (.int .i64 (zY rsR m))]), (1, AObj.cells 0 true [AV.sw 3 10, AV.sw 4 1, AV.v (.int .i64 (vY m 0)), AV.v (.int .i64 (vY m 1)), AV.v (.int .i64 (vY m 2)), AV.v (.int .i64 (vY m 3)), AV.v (.int .i64 (vY m 4)), AV.v (.int .i64 (vY m 5)), AV.v (.int .i64 (vY m 6)), AV.v (.int .i64 (vY m 7)), AV.v (.int .i64 (vY m 8)), AV.sw 5 1, AV.sw 6 1, AV.v (.int .i64 (zY rsT m)), AV.v (.int .i64 (zY rsE m))])] [AObj.ints 0 false .i64 (lY rsP m), AObj.ints 0 false IntKind.u32 (lY rsL m)], Orc.call [4, 5] (AV.v (.int .i64 (zY rsA m))) [] [], Orc.call [4, 5] (AV.v (.int .i64 (zY rsR m))) [] [], Orc.br true, Orc.call [4, 5] (AV.v (.int .i64 (zY rsR m))) [] [], Orc.fin (Gh.nilc 1 0 10 (AObj.rows false FF [])), Orc.fin (Gh.nilc 1 1 1 (AObj.ints 0 false .i64 [])), Orc.fin (Gh.nilc 1 11 1 (AObj.ints 0 false .i64 [])), Orc.fin (Gh.nilc 1 12 1 (AObj.ints 0 false IntKind.u32 []))] [0, 11, 12, 13, 14] [inC 0 (imin (nlen (lenI m)) 4) (nlen (lenI m)), leN (kScY5 m) (lenI m), ACalls Try.prog 21 [AV.v (Value.string (hY m)), AV.v (Value.string (bs [76, 69, 65, 84]))] [] (AV.v (Value.bool (f42r0 (hY m) (bs [76, 69, 65, 84])))) [] [], isB (notB (f42r0 (hY m) (bs [76, 69, 65, 84]))) false, inC 4 (nlen (lenI m)) (nlen (lenI m)), leN (kScY7 m) (lenI m), ACalls Try.prog 22 [AV.sw 0 1] [AObj.ints 0 false IntKind.u8 (tY m)] (AV.ptr 1 0) [] [AObj.cells 0 true (kScY3), AObj.ints 0 false IntKind.u8 (tY m)], ACalls Try.prog 23 [AV.ptr 0 0, AV.ptr 1 0] [AObj.cells 0 true (kScY3), AObj.cells 0 true (kScY2), AObj.ints 0 false IntKind.u8 (tY m)] (AV.tup []) [(0, AObj.cells 0 true [AV.sw 2 1, AV.v (.int .i64 (aY m)), AV.v (.int .i64 (rY m))]), (1, AObj.cells 0 true (kScY0))] [AObj.rows false FF (fqF (tY m) 0 0), AObj.ints 0 false .i64 (fqB (tY m) 0 0)], ACalls Try.prog 24 [AV.ptr 0 0, AV.ptr 1 0] [AObj.cells 0 true [AV.sw 2 1, AV.v (.int .i64 (aY m)), AV.v (.int .i64 (rY m))], AObj.cells 0 true (kScY0), AObj.ints 0 false IntKind.u8 (tY m), AObj.rows false FF (fqF (tY m) 0 0), AObj.ints 0 false .i64 (fqB (tY m) 0 0)] (AV.tup []) [(0, AObj.cells 0 true [AV.sw 2 1, AV.v (.int .i64 (zY rsA m)), AV.v (.int .i64 (zY rsR m))]), (1, AObj.cells 0 true [AV.sw 3 10, AV.sw 4 1, AV.v (.int .i64 (vY m 0)), AV.v (.int .i64 (vY m 1)), AV.v (.int .i64 (vY m 2)), AV.v (.int .i64 (vY m 3)), AV.v (.int .i64 (vY m 4)), AV.v (.int .i64 (vY m 5)), AV.v (.int .i64 (vY m 6)), AV.v (.int .i64 (vY m 7)), AV.v (.int .i64 (vY m 8)), AV.sw 5 1, AV.sw 6 1, AV.v (.int .i64 (zY rsT m)), AV.v (.int .i64 (zY rsE m))])] [AObj.ints 0 false .i64 (lY rsP m), AObj.ints 0 false IntKind.u32 (lY rsL m)], ACalls Try.prog 25 [AV.ptr 0 0] [AObj.cells 0 true [AV.sw 1 1, AV.v (.int .i64 (zY rsA m)), AV.v (.int .i64 (zY rsR m))], AObj.ints 0 false IntKind.u8 (tY m)] (AV.v (.int .i64 (zY rsA m))) [] [], ACalls Try.prog 26 [AV.ptr 0 0] [AObj.cells 0 true [AV.sw 1 1, AV.v (.int .i64 (zY rsA m)), AV.v (.int .i64 (zY rsR m))], AObj.ints 0 false IntKind.u8 (tY m)] (AV.v (.int .i64 (zY rsR m))) [] [], isB (ine (zY rsR m) 0) true, ACalls Try.prog 26 [AV.ptr 0 0] [AObj.cells 0 true [AV.sw 1 1, AV.v (.int .i64 (zY rsA m)), AV.v (.int .i64 (zY rsR m))], AObj.ints 0 false IntKind.u8 (tY m)] (AV.v (.int .i64 (zY rsR m))) [] []] Try.func10 (by kernel_rfl) (by kernel_rfl) (.cons (s0) (.cons (s1) (.cons (by apply f21 <;> (first | exact (s2))) (.cons d0 (.cons (s3 d0) (.cons (s4 d0) (.cons (by apply Go.Proofs.Ytlmnohdgfjienaa.Code.f22 <;> (first | exact (s5 d0))) (.cons (by apply q23 <;> (first | exact (s6 d0))) (.cons (by apply q24 <;> (first | exact (s7 d0))) (.cons (by apply Go.Proofs.Ytlmnohdgfjienaa.Code.f25) (.cons (by apply Go.Proofs.Ytlmnohdgfjienaa.Code.f26) (.cons d1 (.cons (by apply Go.Proofs.Ytlmnohdgfjienaa.Code.f26) .nil))))))))))))))
theorem f10_3 (m : List Int)  (d0 : (notB (f42r0 (hY m) (bs [76, 69, 65, 84]))) = false) (d1 : (ine (zY rsR m) 0) = false) (d2 : (ilt 0 (lefC (tY m) (zY rsA m) (zY rsR m))) = true) (s0 : inC 0 (imin (nlen (lenI m)) 4) (nlen (lenI m))) (s1 : leN (kScY5 m) (lenI m)) (s2 : ile (kScY6) (slen (hY m)) = true → inC 0 (kScY6) (slen (hY m))) (s3 : ((notB (f42r0 (hY m) (bs [76, 69, 65, 84]))) = false) → inC 4 (nlen (lenI m)) (nlen (lenI m))) (s4 : ((notB (f42r0 (hY m) (bs [76, 69, 65, 84]))) = false) → leN (kScY7 m) (lenI m)) (s5 : ((notB (f42r0 (hY m) (bs [76, 69, 65, 84]))) = false) → fitN (lenI (tY m)) 1) (s6 : ((notB (f42r0 (hY m) (bs [76, 69, 65, 84]))) = false) → okC (tY m) 0 = true) (s7 : ((notB (f42r0 (hY m) (bs [76, 69, 65, 84]))) = false) → okC (tY m) (aY m) = true) (s8 : ((notB (f42r0 (hY m) (bs [76, 69, 65, 84]))) = false) → ((ine (zY rsR m) 0) = false) → okC (tY m) (zY rsA m) = true) : ACalls Try.prog 10 [AV.sw 0 1] [AObj.ints 0 false IntKind.u8 m] (AV.tup [AV.agg (kScY1), AV.v (.int .i64 4), AV.v (.int .i64 (iadd .i64 4 (zY rsA m)))]) [] (kScY4) :=
  ACalls.nb (res := AV.tup [AV.agg (kScY1), AV.v (.int .i64 4), AV.v (.int .i64 (iadd .i64 4 (zY rsA m)))]) (.of_out [Orc.call [] (AV.v (Value.bool (f42r0 (hY m) (bs [76, 69, 65, 84])))) [] [], Orc.br false, Orc.call [3] (AV.ptr 1 0) [] [AObj.cells 0 true (kScY3), AObj.ints 0 false IntKind.u8 (tY m)], Orc.call [4, 6, 5] (AV.tup []) [(0, AObj.cells 0 true [AV.sw 2 1, AV.v (.int .i64 (aY m)), AV.v (.int .i64 (rY m))]), (1, AObj.cells 0 true (kScY0))] [AObj.rows false FF (fqF (tY m) 0 0), AObj.ints 0 false .i64 (fqB (tY m) 0 0)], Orc.call [4, 6, 5, 7, 8] (AV.tup []) [(0, AObj.cells 0 true [AV.sw 2 1, AV.v (.int .i64 (zY rsA m)), AV.v (.int .i64 (zY rsR m))]), (1, AObj.cells 0 true [AV.sw 3 10, AV.sw 4 1, AV.v (.int .i64 (vY m 0)), AV.v (.int .i64 (vY m 1)), AV.v (.int .i64 (vY m 2)), AV.v (.int .i64 (vY m 3)), AV.v (.int .i64 (vY m 4)), AV.v (.int .i64 (vY m 5)), AV.v (.int .i64 (vY m 6)), AV.v (.int .i64 (vY m 7)), AV.v (.int .i64 (vY m 8)), AV.sw 5 1, AV.sw 6 1, AV.v (.int .i64 (zY rsT m)), AV.v (.int .i64 (zY rsE m))])] [AObj.ints 0 false .i64 (lY rsP m), AObj.ints 0 false IntKind.u32 (lY rsL m)], Orc.call [4, 5] (AV.v (.int .i64 (zY rsA m))) [] [], Orc.call [4, 5] (AV.v (.int .i64 (zY rsR m))) [] [], Orc.br false, Orc.call [4, 5] (AV.v (.int .i64 (lefC (tY m) (zY rsA m) (zY rsR m)))) [] [], Orc.br true, Orc.fin (Gh.nilc 1 0 10 (AObj.rows false FF [])), Orc.fin (Gh.nilc 1 1 1 (AObj.ints 0 false .i64 [])), Orc.fin (Gh.nilc 1 11 1 (AObj.ints 0 false .i64 [])), Orc.fin (Gh.nilc 1 12 1 (AObj.ints 0 false IntKind.u32 []))] [0, 11, 12, 13, 14] [inC 0 (imin (nlen (lenI m)) 4) (nlen (lenI m)), leN (kScY5 m) (lenI m), ACalls Try.prog 21 [AV.v (Value.string (hY m)), AV.v (Value.string (bs [76, 69, 65, 84]))] [] (AV.v (Value.bool (f42r0 (hY m) (bs [76, 69, 65, 84])))) [] [], isB (notB (f42r0 (hY m) (bs [76, 69, 65, 84]))) false, inC 4 (nlen (lenI m)) (nlen (lenI m)), leN (kScY7 m) (lenI m), ACalls Try.prog 22 [AV.sw 0 1] [AObj.ints 0 false IntKind.u8 (tY m)] (AV.ptr 1 0) [] [AObj.cells 0 true (kScY3), AObj.ints 0 false IntKind.u8 (tY m)], ACalls Try.prog 23 [AV.ptr 0 0, AV.ptr 1 0] [AObj.cells 0 true (kScY3), AObj.cells 0 true (kScY2), AObj.ints 0 false IntKind.u8 (tY m)] (AV.tup []) [(0, AObj.cells 0 true [AV.sw 2 1, AV.v (.int .i64 (aY m)), AV.v (.int .i64 (rY m))]), (1, AObj.cells 0 true (kScY0))] [AObj.rows false FF (fqF (tY m) 0 0), AObj.ints 0 false .i64 (fqB (tY m) 0 0)], ACalls Try.prog 24 [AV.ptr 0 0, AV.ptr 1 0] [AObj.cells 0 true [AV.sw 2 1, AV.v (.int .i64 (aY m)), AV.v (.int .i64 (rY m))], AObj.cells 0 true (kScY0), AObj.ints 0 false IntKind.u8 (tY m), AObj.rows false FF (fqF (tY m) 0 0), AObj.ints 0 false .i64 (fqB (tY m) 0 0)] (AV.tup []) [(0, AObj.cells 0 true [AV.sw 2 1, AV.v (.int .i64 (zY rsA m)), AV.v (.int .i64 (zY rsR m))]), (1, AObj.cells 0 true [AV.sw 3 10, AV.sw 4 1, AV.v (.int .i64 (vY m 0)), AV.v (.int .i64 (vY m 1)), AV.v (.int .i64 (vY m 2)), AV.v (.int .i64 (vY m 3)), AV.v (.int .i64 (vY m 4)), AV.v (.int .i64 (vY m 5)), AV.v (.int .i64 (vY m 6)), AV.v (.int .i64 (vY m 7)), AV.v (.int .i64 (vY m 8)), AV.sw 5 1, AV.sw 6 1, AV.v (.int .i64 (zY rsT m)), AV.v (.int .i64 (zY rsE m))])] [AObj.ints 0 false .i64 (lY rsP m), AObj.ints 0 false IntKind.u32 (lY rsL m)], ACalls Try.prog 25 [AV.ptr 0 0] [AObj.cells 0 true [AV.sw 1 1, AV.v (.int .i64 (zY rsA m)), AV.v (.int .i64 (zY rsR m))], AObj.ints 0 false IntKind.u8 (tY m)] (AV.v (.int .i64 (zY rsA m))) [] [], ACalls Try.prog 26 [AV.ptr 0 0] [AObj.cells 0 true [AV.sw 1 1, AV.v (.int .i64 (zY rsA m)), AV.v (.int .i64 (zY rsR m))], AObj.ints 0 false IntKind.u8 (tY m)] (AV.v (.int .i64 (zY rsR m))) [] [], isB (ine (zY rsR m) 0) false, ACalls Try.prog 27 [AV.ptr 0 0] [AObj.cells 0 true [AV.sw 1 1, AV.v (.int .i64 (zY rsA m)), AV.v (.int .i64 (zY rsR m))], AObj.ints 0 false IntKind.u8 (tY m)] (AV.v (.int .i64 (lefC (tY m) (zY rsA m) (zY rsR m)))) [] [], isB (ilt 0 (lefC (tY m) (zY rsA m) (zY rsR m))) true] Try.func10 (by kernel_rfl) (by kernel_rfl) (.cons (s0) (.cons (s1) (.cons (by apply f21 <;> (first | exact (s2))) (.cons d0 (.cons (s3 d0) (.cons (s4 d0) (.cons (by apply Go.Proofs.Ytlmnohdgfjienaa.Code.f22 <;> (first | exact (s5 d0))) (.cons (by apply q23 <;> (first | exact (s6 d0))) (.cons (by apply q24 <;> (first | exact (s7 d0))) (.cons (by apply Go.Proofs.Ytlmnohdgfjienaa.Code.f25) (.cons (by apply Go.Proofs.Ytlmnohdgfjienaa.Code.f26) (.cons d1 (.cons (by apply Go.Proofs.Ytlmnohdgfjienaa.Code.g27 <;> (first | exact (s8 d0 d1))) (.cons d2 .nil)))))))))))))))
theorem f10_4 (m : List Int)  (d0 : (notB (f42r0 (hY m) (bs [76, 69, 65, 84]))) = false) (d1 : (ine (zY rsR m) 0) = false) (d2 : (ilt 0 (lefC (tY m) (zY rsA m) (zY rsR m))) = false) (d3 : (ine (kY m) 0) = true) (s0 : inC 0 (imin (nlen (lenI m)) 4) (nlen (lenI m))) (s1 : leN (kScY5 m) (lenI m)) (s2 : ile (kScY6) (slen (hY m)) = true → inC 0 (kScY6) (slen (hY m))) (s3 : ((notB (f42r0 (hY m) (bs [76, 69, 65, 84]))) = false) → inC 4 (nlen (lenI m)) (nlen (lenI m))) (s4 : ((notB (f42r0 (hY m) (bs [76, 69, 65, 84]))) = false) → leN (kScY7 m) (lenI m)) (s5 : ((notB (f42r0 (hY m) (bs [76, 69, 65, 84]))) = false) → fitN (lenI (tY m)) 1) (s6 : ((notB (f42r0 (hY m) (bs [76, 69, 65, 84]))) = false) → okC (tY m) 0 = true) (s7 : ((notB (f42r0 (hY m) (bs [76, 69, 65, 84]))) = false) → okC (tY m) (aY m) = true) (s8 : ((notB (f42r0 (hY m) (bs [76, 69, 65, 84]))) = false) → ((ine (zY rsR m) 0) = false) → okC (tY m) (zY rsA m) = true) : ACalls Try.prog 10 [AV.sw 0 1] [AObj.ints 0 false IntKind.u8 m] (AV.tup [AV.agg (kScY1), AV.v (.int .i64 (kY m)), AV.v (.int .i64 (iadd .i64 4 (zY rsA m)))]) [] (kScY4) :=
  ACalls.nb (res := AV.tup [AV.agg (kScY1), AV.v (.int .i64 (kY m)), AV.v (.int .i64 (iadd .i64 4 (zY rsA m)))]) (.of_out [Orc.call [] (AV.v (Value.bool (f42r0 (hY m) (bs [76, 69, 65, 84])))) [] [], Orc.br false, Orc.call [3] (AV.ptr 1 0) [] [AObj.cells 0 true (kScY3), AObj.ints 0 false IntKind.u8 (tY m)], Orc.call [4, 6, 5] (AV.tup []) [(0, AObj.cells 0 true [AV.sw 2 1, AV.v (.int .i64 (aY m)), AV.v (.int .i64 (rY m))]), (1, AObj.cells 0 true (kScY0))] [AObj.rows false FF (fqF (tY m) 0 0), AObj.ints 0 false .i64 (fqB (tY m) 0 0)], Orc.call [4, 6, 5, 7, 8] (AV.tup []) [(0, AObj.cells 0 true [AV.sw 2 1, AV.v (.int .i64 (zY rsA m)), AV.v (.int .i64 (zY rsR m))]), (1, AObj.cells 0 true [AV.sw 3 10, AV.sw 4 1, AV.v (.int .i64 (vY m 0)), AV.v (.int .i64 (vY m 1)), AV.v (.int .i64 (vY m 2)), AV.v (.int .i64 (vY m 3)), AV.v (.int .i64 (vY m 4)), AV.v (.int .i64 (vY m 5)), AV.v (.int .i64 (vY m 6)), AV.v (.int .i64 (vY m 7)), AV.v (.int .i64 (vY m 8)), AV.sw 5 1, AV.sw 6 1, AV.v (.int .i64 (zY rsT m)), AV.v (.int .i64 (zY rsE m))])] [AObj.ints 0 false .i64 (lY rsP m), AObj.ints 0 false IntKind.u32 (lY rsL m)], Orc.call [4, 5] (AV.v (.int .i64 (zY rsA m))) [] [], Orc.call [4, 5] (AV.v (.int .i64 (zY rsR m))) [] [], Orc.br false, Orc.call [4, 5] (AV.v (.int .i64 (lefC (tY m) (zY rsA m) (zY rsR m)))) [] [], Orc.br false, Orc.call [7, 8, 9, 10] (AV.tup [AV.v (.int .i64 (kY m)), AV.v (.int .i64 (ckK (vY m 0) (vY m 1) (vY m 2) (vY m 3) (vY m 4) (vY m 5) (vY m 6) (vY m 7) (vY m 8) (zY rsT m) (zY rsE m) (lenR FF (fqF (tY m) 0 0)) (lenI (fqB (tY m) 0 0)) (lenI (lY rsP m)) (lenI (lY rsL m)) (fb (fqF (tY m) 0 0) (fqB (tY m) 0 0)) (pix (lY rsP m))))]) [] [], Orc.br true, Orc.fin (Gh.nilc 1 0 10 (AObj.rows false FF [])), Orc.fin (Gh.nilc 1 1 1 (AObj.ints 0 false .i64 [])), Orc.fin (Gh.nilc 1 11 1 (AObj.ints 0 false .i64 [])), Orc.fin (Gh.nilc 1 12 1 (AObj.ints 0 false IntKind.u32 []))] [0, 11, 12, 13, 14] [inC 0 (imin (nlen (lenI m)) 4) (nlen (lenI m)), leN (kScY5 m) (lenI m), ACalls Try.prog 21 [AV.v (Value.string (hY m)), AV.v (Value.string (bs [76, 69, 65, 84]))] [] (AV.v (Value.bool (f42r0 (hY m) (bs [76, 69, 65, 84])))) [] [], isB (notB (f42r0 (hY m) (bs [76, 69, 65, 84]))) false, inC 4 (nlen (lenI m)) (nlen (lenI m)), leN (kScY7 m) (lenI m), ACalls Try.prog 22 [AV.sw 0 1] [AObj.ints 0 false IntKind.u8 (tY m)] (AV.ptr 1 0) [] [AObj.cells 0 true (kScY3), AObj.ints 0 false IntKind.u8 (tY m)], ACalls Try.prog 23 [AV.ptr 0 0, AV.ptr 1 0] [AObj.cells 0 true (kScY3), AObj.cells 0 true (kScY2), AObj.ints 0 false IntKind.u8 (tY m)] (AV.tup []) [(0, AObj.cells 0 true [AV.sw 2 1, AV.v (.int .i64 (aY m)), AV.v (.int .i64 (rY m))]), (1, AObj.cells 0 true (kScY0))] [AObj.rows false FF (fqF (tY m) 0 0), AObj.ints 0 false .i64 (fqB (tY m) 0 0)], ACalls Try.prog 24 [AV.ptr 0 0, AV.ptr 1 0] [AObj.cells 0 true [AV.sw 2 1, AV.v (.int .i64 (aY m)), AV.v (.int .i64 (rY m))], AObj.cells 0 true (kScY0), AObj.ints 0 false IntKind.u8 (tY m), AObj.rows false FF (fqF (tY m) 0 0), AObj.ints 0 false .i64 (fqB (tY m) 0 0)] (AV.tup []) [(0, AObj.cells 0 true [AV.sw 2 1, AV.v (.int .i64 (zY rsA m)), AV.v (.int .i64 (zY rsR m))]), (1, AObj.cells 0 true [AV.sw 3 10, AV.sw 4 1, AV.v (.int .i64 (vY m 0)), AV.v (.int .i64 (vY m 1)), AV.v (.int .i64 (vY m 2)), AV.v (.int .i64 (vY m 3)), AV.v (.int .i64 (vY m 4)), AV.v (.int .i64 (vY m 5)), AV.v (.int .i64 (vY m 6)), AV.v (.int .i64 (vY m 7)), AV.v (.int .i64 (vY m 8)), AV.sw 5 1, AV.sw 6 1, AV.v (.int .i64 (zY rsT m)), AV.v (.int .i64 (zY rsE m))])] [AObj.ints 0 false .i64 (lY rsP m), AObj.ints 0 false IntKind.u32 (lY rsL m)], ACalls Try.prog 25 [AV.ptr 0 0] [AObj.cells 0 true [AV.sw 1 1, AV.v (.int .i64 (zY rsA m)), AV.v (.int .i64 (zY rsR m))], AObj.ints 0 false IntKind.u8 (tY m)] (AV.v (.int .i64 (zY rsA m))) [] [], ACalls Try.prog 26 [AV.ptr 0 0] [AObj.cells 0 true [AV.sw 1 1, AV.v (.int .i64 (zY rsA m)), AV.v (.int .i64 (zY rsR m))], AObj.ints 0 false IntKind.u8 (tY m)] (AV.v (.int .i64 (zY rsR m))) [] [], isB (ine (zY rsR m) 0) false, ACalls Try.prog 27 [AV.ptr 0 0] [AObj.cells 0 true [AV.sw 1 1, AV.v (.int .i64 (zY rsA m)), AV.v (.int .i64 (zY rsR m))], AObj.ints 0 false IntKind.u8 (tY m)] (AV.v (.int .i64 (lefC (tY m) (zY rsA m) (zY rsR m)))) [] [], isB (ilt 0 (lefC (tY m) (zY rsA m) (zY rsR m))) false, ACalls Try.prog 14 [AV.agg [AV.sw 0 10, AV.sw 1 1, AV.v (.int .i64 (vY m 0)), AV.v (.int .i64 (vY m 1)), AV.v (.int .i64 (vY m 2)), AV.v (.int .i64 (vY m 3)), AV.v (.int .i64 (vY m 4)), AV.v (.int .i64 (vY m 5)), AV.v (.int .i64 (vY m 6)), AV.v (.int .i64 (vY m 7)), AV.v (.int .i64 (vY m 8)), AV.sw 2 1, AV.sw 3 1, AV.v (.int .i64 (zY rsT m)), AV.v (.int .i64 (zY rsE m))]] [AObj.rows false FF (fqF (tY m) 0 0), AObj.ints 0 false .i64 (fqB (tY m) 0 0), AObj.ints 0 false .i64 (lY rsP m), AObj.ints 0 false IntKind.u32 (lY rsL m)] (AV.tup [AV.v (.int .i64 (kY m)), AV.v (.int .i64 (ckK (vY m 0) (vY m 1) (vY m 2) (vY m 3) (vY m 4) (vY m 5) (vY m 6) (vY m 7) (vY m 8) (zY rsT m) (zY rsE m) (lenR FF (fqF (tY m) 0 0)) (lenI (fqB (tY m) 0 0)) (lenI (lY rsP m)) (lenI (lY rsL m)) (fb (fqF (tY m) 0 0) (fqB (tY m) 0 0)) (pix (lY rsP m))))]) [] [], isB (ine (kY m) 0) true] Try.func10 (by kernel_rfl) (by kernel_rfl) (.cons (s0) (.cons (s1) (.cons (by apply f21 <;> (first | exact (s2))) (.cons d0 (.cons (s3 d0) (.cons (s4 d0) (.cons (by apply Go.Proofs.Ytlmnohdgfjienaa.Code.f22 <;> (first | exact (s5 d0))) (.cons (by apply q23 <;> (first | exact (s6 d0))) (.cons (by apply q24 <;> (first | exact (s7 d0))) (.cons (by apply Go.Proofs.Ytlmnohdgfjienaa.Code.f25) (.cons (by apply Go.Proofs.Ytlmnohdgfjienaa.Code.f26) (.cons d1 (.cons (by apply Go.Proofs.Ytlmnohdgfjienaa.Code.g27 <;> (first | exact (s8 d0 d1))) (.cons d2 (.cons (by apply g14) (.cons d3 .nil)))))))))))))))))
theorem f10_5 (m : List Int)  (d0 : (notB (f42r0 (hY m) (bs [76, 69, 65, 84]))) = false) (d1 : (ine (zY rsR m) 0) = false) (d2 : (ilt 0 (lefC (tY m) (zY rsA m) (zY rsR m))) = false) (d3 : (ine (kY m) 0) = false) (s0 : inC 0 (imin (nlen (lenI m)) 4) (nlen (lenI m))) (s1 : leN (kScY5 m) (lenI m)) (s2 : ile (kScY6) (slen (hY m)) = true → inC 0 (kScY6) (slen (hY m))) (s3 : ((notB (f42r0 (hY m) (bs [76, 69, 65, 84]))) = false) → inC 4 (nlen (lenI m)) (nlen (lenI m))) (s4 : ((notB (f42r0 (hY m) (bs [76, 69, 65, 84]))) = false) → leN (kScY7 m) (lenI m)) (s5 : ((notB (f42r0 (hY m) (bs [76, 69, 65, 84]))) = false) → fitN (lenI (tY m)) 1) (s6 : ((notB (f42r0 (hY m) (bs [76, 69, 65, 84]))) = false) → okC (tY m) 0 = true) (s7 : ((notB (f42r0 (hY m) (bs [76, 69, 65, 84]))) = false) → okC (tY m) (aY m) = true) (s8 : ((notB (f42r0 (hY m) (bs [76, 69, 65, 84]))) = false) → ((ine (zY rsR m) 0) = false) → okC (tY m) (zY rsA m) = true) : ACalls Try.prog 10 [AV.sw 0 1] [AObj.ints 0 false IntKind.u8 m] (AV.tup [AV.agg [AV.sw 1 10, AV.sw 2 1, AV.v (.int .i64 (vY m 0)), AV.v (.int .i64 (vY m 1)), AV.v (.int .i64 (vY m 2)), AV.v (.int .i64 (vY m 3)), AV.v (.int .i64 (vY m 4)), AV.v (.int .i64 (vY m 5)), AV.v (.int .i64 (vY m 6)), AV.v (.int .i64 (vY m 7)), AV.v (.int .i64 (vY m 8)), AV.sw 3 1, AV.sw 4 1, AV.v (.int .i64 (zY rsT m)), AV.v (.int .i64 (zY rsE m))], AV.v (.int .i64 0), AV.v (.int .i64 0)]) [] [AObj.rows false FF (fqF (tY m) 0 0), AObj.ints 0 false .i64 (fqB (tY m) 0 0), AObj.ints 0 false .i64 (lY rsP m), AObj.ints 0 false IntKind.u32 (lY rsL m)] :=
  ACalls.nb (res := AV.tup [AV.agg [AV.sw 1 10, AV.sw 2 1, AV.v (.int .i64 (vY m 0)), AV.v (.int .i64 (vY m 1)), AV.v (.int .i64 (vY m 2)), AV.v (.int .i64 (vY m 3)), AV.v (.int .i64 (vY m 4)), AV.v (.int .i64 (vY m 5)), AV.v (.int .i64 (vY m 6)), AV.v (.int .i64 (vY m 7)), AV.v (.int .i64 (vY m 8)), AV.sw 3 1, AV.sw 4 1, AV.v (.int .i64 (zY rsT m)), AV.v (.int .i64 (zY rsE m))], AV.v (.int .i64 0), AV.v (.int .i64 0)]) (.of_out [Orc.call [] (AV.v (Value.bool (f42r0 (hY m) (bs [76, 69, 65, 84])))) [] [], Orc.br false, Orc.call [3] (AV.ptr 1 0) [] [AObj.cells 0 true (kScY3), AObj.ints 0 false IntKind.u8 (tY m)], Orc.call [4, 6, 5] (AV.tup []) [(0, AObj.cells 0 true [AV.sw 2 1, AV.v (.int .i64 (aY m)), AV.v (.int .i64 (rY m))]), (1, AObj.cells 0 true (kScY0))] [AObj.rows false FF (fqF (tY m) 0 0), AObj.ints 0 false .i64 (fqB (tY m) 0 0)], Orc.call [4, 6, 5, 7, 8] (AV.tup []) [(0, AObj.cells 0 true [AV.sw 2 1, AV.v (.int .i64 (zY rsA m)), AV.v (.int .i64 (zY rsR m))]), (1, AObj.cells 0 true [AV.sw 3 10, AV.sw 4 1, AV.v (.int .i64 (vY m 0)), AV.v (.int .i64 (vY m 1)), AV.v (.int .i64 (vY m 2)), AV.v (.int .i64 (vY m 3)), AV.v (.int .i64 (vY m 4)), AV.v (.int .i64 (vY m 5)), AV.v (.int .i64 (vY m 6)), AV.v (.int .i64 (vY m 7)), AV.v (.int .i64 (vY m 8)), AV.sw 5 1, AV.sw 6 1, AV.v (.int .i64 (zY rsT m)), AV.v (.int .i64 (zY rsE m))])] [AObj.ints 0 false .i64 (lY rsP m), AObj.ints 0 false IntKind.u32 (lY rsL m)], Orc.call [4, 5] (AV.v (.int .i64 (zY rsA m))) [] [], Orc.call [4, 5] (AV.v (.int .i64 (zY rsR m))) [] [], Orc.br false, Orc.call [4, 5] (AV.v (.int .i64 (lefC (tY m) (zY rsA m) (zY rsR m)))) [] [], Orc.br false, Orc.call [7, 8, 9, 10] (AV.tup [AV.v (.int .i64 (kY m)), AV.v (.int .i64 (ckK (vY m 0) (vY m 1) (vY m 2) (vY m 3) (vY m 4) (vY m 5) (vY m 6) (vY m 7) (vY m 8) (zY rsT m) (zY rsE m) (lenR FF (fqF (tY m) 0 0)) (lenI (fqB (tY m) 0 0)) (lenI (lY rsP m)) (lenI (lY rsL m)) (fb (fqF (tY m) 0 0) (fqB (tY m) 0 0)) (pix (lY rsP m))))]) [] [], Orc.br false] [0, 7, 8, 9, 10] [inC 0 (imin (nlen (lenI m)) 4) (nlen (lenI m)), leN (kScY5 m) (lenI m), ACalls Try.prog 21 [AV.v (Value.string (hY m)), AV.v (Value.string (bs [76, 69, 65, 84]))] [] (AV.v (Value.bool (f42r0 (hY m) (bs [76, 69, 65, 84])))) [] [], isB (notB (f42r0 (hY m) (bs [76, 69, 65, 84]))) false, inC 4 (nlen (lenI m)) (nlen (lenI m)), leN (kScY7 m) (lenI m), ACalls Try.prog 22 [AV.sw 0 1] [AObj.ints 0 false IntKind.u8 (tY m)] (AV.ptr 1 0) [] [AObj.cells 0 true (kScY3), AObj.ints 0 false IntKind.u8 (tY m)], ACalls Try.prog 23 [AV.ptr 0 0, AV.ptr 1 0] [AObj.cells 0 true (kScY3), AObj.cells 0 true (kScY2), AObj.ints 0 false IntKind.u8 (tY m)] (AV.tup []) [(0, AObj.cells 0 true [AV.sw 2 1, AV.v (.int .i64 (aY m)), AV.v (.int .i64 (rY m))]), (1, AObj.cells 0 true (kScY0))] [AObj.rows false FF (fqF (tY m) 0 0), AObj.ints 0 false .i64 (fqB (tY m) 0 0)], ACalls Try.prog 24 [AV.ptr 0 0, AV.ptr 1 0] [AObj.cells 0 true [AV.sw 2 1, AV.v (.int .i64 (aY m)), AV.v (.int .i64 (rY m))], AObj.cells 0 true (kScY0), AObj.ints 0 false IntKind.u8 (tY m), AObj.rows false FF (fqF (tY m) 0 0), AObj.ints 0 false .i64 (fqB (tY m) 0 0)] (AV.tup []) [(0, AObj.cells 0 true [AV.sw 2 1, AV.v (.int .i64 (zY rsA m)), AV.v (.int .i64 (zY rsR m))]), (1, AObj.cells 0 true [AV.sw 3 10, AV.sw 4 1, AV.v (.int .i64 (vY m 0)), AV.v (.int .i64 (vY m 1)), AV.v (.int .i64 (vY m 2)), AV.v (.int .i64 (vY m 3)), AV.v (.int .i64 (vY m 4)), AV.v (.int .i64 (vY m 5)), AV.v (.int .i64 (vY m 6)), AV.v (.int .i64 (vY m 7)), AV.v (.int .i64 (vY m 8)), AV.sw 5 1, AV.sw 6 1, AV.v (.int .i64 (zY rsT m)), AV.v (.int .i64 (zY rsE m))])] [AObj.ints 0 false .i64 (lY rsP m), AObj.ints 0 false IntKind.u32 (lY rsL m)], ACalls Try.prog 25 [AV.ptr 0 0] [AObj.cells 0 true [AV.sw 1 1, AV.v (.int .i64 (zY rsA m)), AV.v (.int .i64 (zY rsR m))], AObj.ints 0 false IntKind.u8 (tY m)] (AV.v (.int .i64 (zY rsA m))) [] [], ACalls Try.prog 26 [AV.ptr 0 0] [AObj.cells 0 true [AV.sw 1 1, AV.v (.int .i64 (zY rsA m)), AV.v (.int .i64 (zY rsR m))], AObj.ints 0 false IntKind.u8 (tY m)] (AV.v (.int .i64 (zY rsR m))) [] [], isB (ine (zY rsR m) 0) false, ACalls Try.prog 27 [AV.ptr 0 0] [AObj.cells 0 true [AV.sw 1 1, AV.v (.int .i64 (zY rsA m)), AV.v (.int .i64 (zY rsR m))], AObj.ints 0 false IntKind.u8 (tY m)] (AV.v (.int .i64 (lefC (tY m) (zY rsA m) (zY rsR m)))) [] [], isB (ilt 0 (lefC (tY m) (zY rsA m) (zY rsR m))) false, ACalls Try.prog 14 [AV.agg [AV.sw 0 10, AV.sw 1 1, AV.v (.int .i64 (vY m 0)), AV.v (.int .i64 (vY m 1)), AV.v (.int .i64 (vY m 2)), AV.v (.int .i64 (vY m 3)), AV.v (.int .i64 (vY m 4)), AV.v (.int .i64 (vY m 5)), AV.v (.int .i64 (vY m 6)), AV.v (.int .i64 (vY m 7)), AV.v (.int .i64 (vY m 8)), AV.sw 2 1, AV.sw 3 1, AV.v (.int .i64 (zY rsT m)), AV.v (.int .i64 (zY rsE m))]] [AObj.rows false FF (fqF (tY m) 0 0), AObj.ints 0 false .i64 (fqB (tY m) 0 0), AObj.ints 0 false .i64 (lY rsP m), AObj.ints 0 false IntKind.u32 (lY rsL m)] (AV.tup [AV.v (.int .i64 (kY m)), AV.v (.int .i64 (ckK (vY m 0) (vY m 1) (vY m 2) (vY m 3) (vY m 4) (vY m 5) (vY m 6) (vY m 7) (vY m 8) (zY rsT m) (zY rsE m) (lenR FF (fqF (tY m) 0 0)) (lenI (fqB (tY m) 0 0)) (lenI (lY rsP m)) (lenI (lY rsL m)) (fb (fqF (tY m) 0 0) (fqB (tY m) 0 0)) (pix (lY rsP m))))]) [] [], isB (ine (kY m) 0) false] Try.func10 (by kernel_rfl) (by kernel_rfl) (.cons (s0) (.cons (s1) (.cons (by apply f21 <;> (first | exact (s2))) (.cons d0 (.cons (s3 d0) (.cons (s4 d0) (.cons (by apply Go.Proofs.Ytlmnohdgfjienaa.Code.f22 <;> (first | exact (s5 d0))) (.cons (by apply q23 <;> (first | exact (s6 d0))) (.cons (by apply q24 <;> (first | exact (s7 d0))) (.cons (by apply Go.Proofs.Ytlmnohdgfjienaa.Code.f25) (.cons (by apply Go.Proofs.Ytlmnohdgfjienaa.Code.f26) (.cons d1 (.cons (by apply Go.Proofs.Ytlmnohdgfjienaa.Code.g27 <;> (first | exact (s8 d0 d1))) (.cons d2 (.cons (by apply g14) (.cons d3 .nil)))))))))))))))))
end Go.Proofs.Ytlmnohdgfjienaa.Cf

set_option maxRecDepth 100000
set_option linter.all false
set_option maxHeartbeats 0
namespace Go.Proofs.Ytlmnohdgfjienaa.Cf
open Go.Abs Go.Proofs.Ytlmnohdgfjienaa.Code Go.Proofs.Ytlmnohdgfjienaa.Code
/-- what stands behind the word -/
def tl (m : List Int) : List Int := subI m 4 (subN (nlen (lenI m)) 4)
def mg (m : List Int) : Bool := f42r0 (strI (subI m 0 (subN (imin (nlen (lenI m)) 4) 0))) (bs [76, 69, 65, 84])
def sA0 (m : List Int) : Int := fqA (tl m) 0 0
def sR0 (m : List Int) : Int := fqR (tl m) 0 0
def dV (m : List Int) (i : Nat) : Int := stV (tl m) (sA0 m) (sR0 m) i
/-- what Check says of what was read -/
def dck (m : List Int) : Int := ckE (dV m 0) (dV m 1) (dV m 2) (dV m 3) (dV m 4) (dV m 5) (dV m 6) (dV m 7) (dV m 8) (rsT (tl m) (sA0 m) (sR0 m)) (rsE (tl m) (sA0 m) (sR0 m)) (lenR FF (fqF (tl m) 0 0)) (lenI (fqB (tl m) 0 0)) (lenI (rsP (tl m) (sA0 m) (sR0 m))) (lenI (rsL (tl m) (sA0 m) (sR0 m))) (fb (fqF (tl m) 0 0) (fqB (tl m) 0 0)) (pix (rsP (tl m) (sA0 m) (sR0 m)))
/-- the error -/
def er (m : List Int) : Int := bif notB (mg m) then 5 else bif ine (rsR (tl m) (sA0 m) (sR0 m)) 0 then rsR (tl m) (sA0 m) (sR0 m) else bif ilt 0 (lefC (tl m) (rsA (tl m) (sA0 m) (sR0 m)) (rsR (tl m) (sA0 m) (sR0 m))) then 4 else dck m
/-- and where it is -/
def plc (m : List Int) : Int := bif notB (mg m) then 0 else bif ine (rsR (tl m) (sA0 m) (sR0 m)) 0 then iadd .i64 4 (rsA (tl m) (sA0 m) (sR0 m)) else bif ilt 0 (lefC (tl m) (rsA (tl m) (sA0 m) (sR0 m)) (rsR (tl m) (sA0 m) (sR0 m))) then iadd .i64 4 (rsA (tl m) (sA0 m) (sR0 m)) else bif ine (dck m) 0 then iadd .i64 4 (rsA (tl m) (sA0 m) (sR0 m)) else 0
def zI (m : List Int) (x : Int) : Int := bif ieq (er m) 0 then x else 0
def zL (m l : List Int) : List Int := bif ieq (er m) 0 then l else []
def zF (m : List Int) (l : List (El FF)) : List (El FF) := bif ieq (er m) 0 then l else []
theorem ok_rs {m : List Int} {a : Int} (r : Int) (ho : okC m a = true) : okC m (rsA m a r) = true := by
  have o9 := ok_st m a r ho 9
  have op : okC m (plQ m a r).1 = true := ok_pl m _ _ _ (upA_ok _ _ o9)
  have od : okC m (drQ m a r).1 = true := ok_dr m _ _ _ (upA_ok _ _ op)
  unfold rsA
  cases plE m a r
  · cases drE m a r
    · exact ok_st m _ _ (upA_ok _ _ od) 1
    · exact od
  · exact op
theorem mg_len {m : List Int} (h : mg m = true) : 4 ≤ m.length := by
  unfold mg f42r0 at h
  cases hl : ile (slen (bs [76, 69, 65, 84])) (slen (strI (subI m 0 (subN (imin (nlen (lenI m)) 4) 0)))) with
  | false => rw [hl] at h; simp at h
  | true =>
    unfold ile at hl
    have h2 := of_decide_eq_true hl
    have e : (strI (subI m 0 (subN (imin (nlen (lenI m)) 4) 0))).size = (subI m 0 (subN (imin (nlen (lenI m)) 4) 0)).length := by
      unfold strI strOfNums; show (Array.size _) = _; simp
    have e2 : slen (bs [76, 69, 65, 84]) = 4 := by decide
    rw [e2] at h2
    unfold slen at h2
    rw [e] at h2
    unfold subI subN at h2
    rw [List.length_take, List.length_drop] at h2
    omega
theorem tl_drop (m : List Int) (h : 4 ≤ m.length) : tl m = m.drop 4 := by
  unfold tl subI subN nlen lenI; rw [List.take_of_length_le (by rw [List.length_drop]; omega)]
theorem er_0 {m : List Int} (h : er m = 0) : mg m = true ∧ rsR (tl m) (sA0 m) (sR0 m) = 0 ∧ ilt 0 (lefC (tl m) (rsA (tl m) (sA0 m) (sR0 m)) (rsR (tl m) (sA0 m) (sR0 m))) = false ∧ dck m = 0 := by
  unfold er at h
  cases h1 : mg m with
  | false => rw [h1] at h; simp [notB] at h
  | true =>
    rw [h1] at h
    simp only [notB, Bool.not_true, cond_false] at h
    by_cases h2 : rsR (tl m) (sA0 m) (sR0 m) = 0
    · rw [show ine (rsR (tl m) (sA0 m) (sR0 m)) 0 = false from by unfold ine; simpa using h2, cond_false] at h
      cases h3 : ilt 0 (lefC (tl m) (rsA (tl m) (sA0 m) (sR0 m)) (rsR (tl m) (sA0 m) (sR0 m))) with
      | true => rw [h3] at h; simp at h
      | false => rw [h3, cond_false] at h; exact ⟨rfl, h2, rfl, h⟩
    · rw [show ine (rsR (tl m) (sA0 m) (sR0 m)) 0 = true from by unfold ine; simpa using h2, cond_true] at h
      exact absurd h h2
theorem ne_ieq {x : Int} (h : x ≠ 0) : ieq x 0 = false := by unfold ieq; simpa using h
theorem g10 (m : List Int) (hm : m.length ≤ 50000) (hb : byB m = true) : ACalls Try.prog 10 [AV.sw 0 1] [AObj.ints 0 false .u8 m] (AV.tup [AV.agg [AV.sw 1 10, AV.sw 2 1, iI (zI m (dV m 0)), iI (zI m (dV m 1)), iI (zI m (dV m 2)), iI (zI m (dV m 3)), iI (zI m (dV m 4)), iI (zI m (dV m 5)), iI (zI m (dV m 6)), iI (zI m (dV m 7)), iI (zI m (dV m 8)), AV.sw 3 1, AV.sw 4 1, iI (zI m (rsT (tl m) (sA0 m) (sR0 m))), iI (zI m (rsE (tl m) (sA0 m) (sR0 m)))], iI (er m), iI (plc m)]) [] [AObj.rows false FF (zF m (fqF (tl m) 0 0)), AObj.ints 0 false .i64 (zL m (fqB (tl m) 0 0)), AObj.ints 0 false .i64 (zL m (rsP (tl m) (sA0 m) (sR0 m))), AObj.ints 0 false .u32 (zL m (rsL (tl m) (sA0 m) (sR0 m)))] := by
  have p0 : inC 0 (imin (nlen (lenI m)) 4) (nlen (lenI m)) := by unfold inC imin nlen lenI; omega
  have p1 : leN (Nat.add 0 (subN (imin (nlen (lenI m)) 4) 0)) (lenI m) := by unfold leN subN imin nlen lenI; show 0 + _ ≤ _; omega
  have p2 : ile (slen (bs [76, 69, 65, 84])) (slen (strI (subI m 0 (subN (imin (nlen (lenI m)) 4) 0)))) = true → inC 0 (slen (bs [76, 69, 65, 84])) (slen (strI (subI m 0 (subN (imin (nlen (lenI m)) 4) 0)))) := fun h => by
    unfold ile at h; have := of_decide_eq_true h; unfold inC slen at *; omega
  cases h1 : mg m with
  | false =>
    have d : notB (mg m) = true := by rw [h1]; rfl
    have e : er m = 5 := by unfold er; rw [d]; rfl
    have h := f10_1 m (d0 := d) (s0 := p0) (s1 := p1) (s2 := p2)
    unfold zI zF zL plc; rw [e, d]
    exact h
  | true =>
    have d : notB (mg m) = false := by rw [h1]; rfl
    have h4 := mg_len h1
    have hd := tl_drop m h4
    have p3 : inC 4 (nlen (lenI m)) (nlen (lenI m)) := by unfold inC nlen lenI; omega
    have p4 : leN (Nat.add 4 (subN (nlen (lenI m)) 4)) (lenI m) := by unfold leN subN nlen lenI; show 4 + _ ≤ _; omega
    have p5 : fitN (lenI (tl m)) 1 := by rw [hd]; unfold fitN lenI; rw [List.length_drop]; omega
    have o0 : okC (tl m) 0 = true := by
      rw [hd, okC_iff, List.length_drop]
      exact ⟨by omega, byB_iff.2 fun c hc => byB_iff.1 hb c (List.mem_of_mem_drop hc)⟩
    have o1 : okC (tl m) (sA0 m) = true := ok_fq _ o0
    have o2 := ok_rs (sR0 m) o1
    by_cases h2 : rsR (tl m) (sA0 m) (sR0 m) = 0
    · have d1 : ine (rsR (tl m) (sA0 m) (sR0 m)) 0 = false := by unfold ine; simpa using h2
      cases d2 : ilt 0 (lefC (tl m) (rsA (tl m) (sA0 m) (sR0 m)) (rsR (tl m) (sA0 m) (sR0 m))) with
      | true =>
        have e : er m = 4 := by unfold er; rw [d, d1, d2]; rfl
        have h := f10_3 m (d0 := d) (d1 := d1) (d2 := d2) (s0 := p0) (s1 := p1) (s2 := p2) (s3 := fun _ => p3) (s4 := fun _ => p4) (s5 := fun _ => p5) (s6 := fun _ => o0) (s7 := fun _ => o1) (s8 := fun _ _ => o2)
        unfold zI zF zL plc; rw [e, d, d1, d2]
        exact h
      | false =>
        by_cases h3 : dck m = 0
        · have d3 : ine (dck m) 0 = false := by unfold ine; simpa using h3
          have e : er m = 0 := by unfold er; rw [d, d1, d2]; exact h3
          have h := f10_5 m (d0 := d) (d1 := d1) (d2 := d2) (d3 := d3) (s0 := p0) (s1 := p1) (s2 := p2) (s3 := fun _ => p3) (s4 := fun _ => p4) (s5 := fun _ => p5) (s6 := fun _ => o0) (s7 := fun _ => o1) (s8 := fun _ _ => o2)
          unfold zI zF zL plc; rw [e, d, d1, d2, d3]
          exact h
        · have d3 : ine (dck m) 0 = true := by unfold ine; simpa using h3
          have e : er m = dck m := by unfold er; rw [d, d1, d2]; rfl
          have h := f10_4 m (d0 := d) (d1 := d1) (d2 := d2) (d3 := d3) (s0 := p0) (s1 := p1) (s2 := p2) (s3 := fun _ => p3) (s4 := fun _ => p4) (s5 := fun _ => p5) (s6 := fun _ => o0) (s7 := fun _ => o1) (s8 := fun _ _ => o2)
          unfold zI zF zL plc; rw [e, d, d1, d2, d3, ne_ieq h3]
          exact h
    · have d1 : ine (rsR (tl m) (sA0 m) (sR0 m)) 0 = true := by unfold ine; simpa using h2
      have e : er m = rsR (tl m) (sA0 m) (sR0 m) := by unfold er; rw [d, d1]; rfl
      have h := f10_2 m (d0 := d) (d1 := d1) (s0 := p0) (s1 := p1) (s2 := p2) (s3 := fun _ => p3) (s4 := fun _ => p4) (s5 := fun _ => p5) (s6 := fun _ => o0) (s7 := fun _ => o1)
      unfold zI zF zL plc; rw [e, d, d1, ne_ieq h2]
      exact h
end Go.Proofs.Ytlmnohdgfjienaa.Cf

set_option maxRecDepth 100000
set_option linter.all false
set_option maxHeartbeats 0
namespace Go.Proofs.Ytlmnohdgfjienaa.Cf
open Go.Abs Go.Proofs.Ytlmnohdgfjienaa.Code Go.Proofs.Ytlmnohdgfjienaa.Code
theorem l11a (m : List Int) (n : Nat) (hn : n ≤ 5000) : ∀ (k i : Nat) (a r : Int) (F : List (El FF)) (B : List Int), i + k = n → F.length = i → B.length = i → okC m a = true →
    L11aL m (k + 1) (n : Int) a r (i : Int) F B = some ((n : Int), (frD m k a r).1, (frD m k a r).2.1, F ++ (frD m k a r).2.2.1, B ++ (frD m k a r).2.2.2)
  | 0, i, a, r, F, B, e, e1, e2, ho => by
    rw [L11aL, show ilt (i : Int) (n : Int) = false from lt_f (by omega)]; simp [frD]
  | k + 1, i, a, r, F, B, e, e1, e2, ho => by
    rw [L11aL, show ilt (i : Int) (n : Int) = true from lt_t (by omega), inc (show n ≤ 1000000 by omega) (by omega)]
    by_cases hr : r = 0
    rotate_left
    · rw [show ieq r 0 = false from by unfold ieq; simpa using hr, frD, if_pos hr]; simp
    · have g1 : ∀ x, decide (fitN (addN (lenR FF F) (lenR FF [x])) 80) = true := fun x => decide_eq_true (by unfold fitN addN lenR; simp; omega)
      have g2 : ∀ x, decide (fitN (addN (lenI B) (lenI [x])) 8) = true := fun x => decide_eq_true (by unfold fitN addN lenI; simp; omega)
      rw [show ieq r 0 = true from by unfold ieq; simpa using hr, decide_eq_true ho, decide_eq_true (ok_f r ho).1, g1, g2]
      simp only [cond_true, cond_false]
      have a1 := l11a m n hn k (i + 1) (fA m a r) (fR m a r) (F ++ [fE m a r]) (B ++ [fX m a r]) (by omega) (by simp [e1]) (by simp [e2]) (ok_f r ho).2
      rw [frD, if_neg (fun h => h hr)]
      rw [List.append_assoc, List.append_assoc] at a1
      exact a1
/-- draws, read to the end -/
def dnA (m : List Int) : Nat → Int → Int → Int
  | 0, a, r => a
  | k + 1, a, r => dnA m k (upA m a r 4294967295) (upR m a r 4294967295)
def dnR (m : List Int) : Nat → Int → Int → Int
  | 0, a, r => r
  | k + 1, a, r => dnR m k (upA m a r 4294967295) (upR m a r 4294967295)
def dnL (m : List Int) : Nat → Int → Int → List Int
  | 0, a, r => []
  | k + 1, a, r => icv .u32 (upV m a r 4294967295) :: dnL m k (upA m a r 4294967295) (upR m a r 4294967295)
theorem l11b (m : List Int) (n : Nat) (hn : n ≤ 5000) (q0 q1 q2 q3 q4 q5 q6 q7 q8 : Int) (F : List (El FF)) (B P : List Int) : ∀ (k i : Nat) (a r : Int) (D : List Int), i + k = n → D.length = i → okC m a = true →
    L11bL m (k + 1) (n : Int) a r q0 q1 q2 q3 q4 q5 q6 q7 q8 F B P (i : Int) D = some (dnA m k a r, dnR m k a r, q0, q1, q2, q3, q4, q5, q6, q7, q8, F, B, P, D ++ dnL m k a r)
  | 0, i, a, r, D, e, e1, ho => by
    rw [L11bL, show ilt (i : Int) (n : Int) = false from lt_f (by omega)]; simp [dnA, dnR, dnL]
  | k + 1, i, a, r, D, e, e1, ho => by
    have g2 : ∀ x, decide (fitN (addN (lenI D) (lenI [x])) 4) = true := fun x => decide_eq_true (by unfold fitN addN lenI; simp; omega)
    rw [L11bL, show ilt (i : Int) (n : Int) = true from lt_t (by omega), inc (show n ≤ 1000000 by omega) (by omega), decide_eq_true ho, g2]
    simp only [cond_true]
    have a1 := l11b m n hn q0 q1 q2 q3 q4 q5 q6 q7 q8 F B P k (i + 1) (upA m a r 4294967295) (upR m a r 4294967295) (D ++ [icv .u32 (upV m a r 4294967295)]) (by omega) (by simp [e1]) (upA_ok _ _ ho)
    rw [List.append_assoc] at a1
    exact a1
-- a reader with an error stays
theorem stuck {m : List Int} {a r x : Int} (h : r ≠ 0) : upV m a r x = 0 ∧ upA m a r x = a ∧ upR m a r x = r := by
  have e : upOk m a r x = false := by unfold upOk; exact decide_eq_false (fun q => h q.1)
  refine ⟨by unfold upV; rw [e]; rfl, by unfold upA; rw [e]; rfl, by unfold upR; rw [if_pos h]⟩
theorem stuck_st {m : List Int} {a r : Int} (h : r ≠ 0) : ∀ n, stA m a r n = a ∧ stR m a r n = r
  | 0 => ⟨rfl, rfl⟩
  | n + 1 => by
    obtain ⟨h1, h2⟩ := stuck_st (m := m) (a := a) h n
    have e1 : stR m a r (n + 1) = upR m (stA m a r n) (stR m a r n) 18446744073709551615 := rfl
    have e2 : stA m a r (n + 1) = upA m (stA m a r n) (stR m a r n) 18446744073709551615 := rfl
    rw [e1, e2, h1, h2]
    exact ⟨(stuck h).2.1, (stuck h).2.2⟩
theorem stuck_dn {m : List Int} {a r : Int} (h : r ≠ 0) : ∀ n, dnA m n a r = a ∧ dnR m n a r = r
  | 0 => ⟨rfl, rfl⟩
  | n + 1 => by
    have := stuck_dn (m := m) (a := a) h n
    rw [dnA, dnR, (stuck h).2.1, (stuck h).2.2]; exact this
theorem st_shift (m : List Int) (a r : Int) : ∀ n, stA m a r (n + 1) = stA m (stA m a r 1) (stR m a r 1) n ∧ stR m a r (n + 1) = stR m (stA m a r 1) (stR m a r 1) n
  | 0 => ⟨rfl, rfl⟩
  | n + 1 => by
    obtain ⟨h1, h2⟩ := st_shift m a r n
    refine ⟨?_, ?_⟩
    · show upA m (stA m a r (n + 1)) (stR m a r (n + 1)) 18446744073709551615 = upA m (stA m (stA m a r 1) (stR m a r 1) n) (stR m (stA m a r 1) (stR m a r 1) n) 18446744073709551615
      rw [h1, h2]
    · show upR m (stA m a r (n + 1)) (stR m a r (n + 1)) 18446744073709551615 = upR m (stA m (stA m a r 1) (stR m a r 1) n) (stR m (stA m a r 1) (stR m a r 1) n) 18446744073709551615
      rw [h1, h2]
theorem sv_shift (m : List Int) (a r : Int) (n : Nat) : stV m a r (n + 1) = stV m (stA m a r 1) (stR m a r 1) n := by
  unfold stV; rw [(st_shift m a r n).1, (st_shift m a r n).2]
theorem sg_cons (m : List Int) (a r : Int) (k : Nat) : sgL m a r (k + 1) = stV m a r 0 :: sgL m (stA m a r 1) (stR m a r 1) k := by
  unfold sgL
  rw [List.range'_succ, List.map_cons]
  congr 1
  apply List.ext_getElem
  · simp
  · intro i h1 h2
    simp only [List.getElem_map, List.getElem_range']
    rw [show 0 + 1 + 1 * i = (0 + 1 * i) + 1 by omega]
    exact sv_shift m a r _
/-- the plan with an early end, and without -/
theorem pl_sg (m : List Int) : ∀ (k : Nat) (a r : Int), (plD m k a r).1 = stA m a r k ∧ (plD m k a r).2.1 = stR m a r k ∧ (stR m a r k = 0 → (plD m k a r).2.2 = sgL m a r k ∧ plS m k a r = false) ∧ (plS m k a r = true → stR m a r k ≠ 0)
  | 0, a, r => ⟨rfl, rfl, fun _ => ⟨rfl, rfl⟩, fun h => by simp [plS] at h⟩
  | k + 1, a, r => by
    by_cases hr : r = 0
    rotate_left
    · rw [plD, if_pos hr, plS, if_pos hr, (stuck_st hr _).1, (stuck_st hr _).2]
      exact ⟨rfl, rfl, fun h => absurd h hr, fun _ => hr⟩
    · obtain ⟨h1, h2, h3, h4⟩ := pl_sg m k (stA m a r 1) (stR m a r 1)
      rw [plD, if_neg (fun h => h hr), plS, if_neg (fun h => h hr), (st_shift m a r k).1, (st_shift m a r k).2]
      exact ⟨h1, h2, fun h => ⟨by rw [(h3 h).1, sg_cons], (h3 h).2⟩, h4⟩
theorem dr_dn (m : List Int) : ∀ (k : Nat) (a r : Int), (drD m k a r).1 = dnA m k a r ∧ (drD m k a r).2.1 = dnR m k a r ∧ (dnR m k a r = 0 → (drD m k a r).2.2 = dnL m k a r ∧ drS m k a r = false) ∧ (drS m k a r = true → dnR m k a r ≠ 0)
  | 0, a, r => ⟨rfl, rfl, fun _ => ⟨rfl, rfl⟩, fun h => by simp [drS] at h⟩
  | k + 1, a, r => by
    by_cases hr : r = 0
    rotate_left
    · rw [drD, if_pos hr, drS, if_pos hr, (stuck_dn hr _).1, (stuck_dn hr _).2]
      exact ⟨rfl, rfl, fun h => absurd h hr, fun _ => hr⟩
    · obtain ⟨h1, h2, h3, h4⟩ := dr_dn m k (upA m a r 4294967295) (upR m a r 4294967295)
      rw [drD, if_neg (fun h => h hr), drS, if_neg (fun h => h hr), dnA, dnR]
      exact ⟨h1, h2, fun h => ⟨by rw [dnL, (h3 h).1], (h3 h).2⟩, h4⟩
-- reading at a + 4 is reading at a of what stands behind four
theorem num0_4 {m : List Int} {a : Int} (h : 0 ≤ a) : num0 m (a + 4) = num0 (m.drop 4) a := by
  unfold num0; rw [List.drop_drop, show (a + 4).toNat = 4 + a.toNat by omega]
theorem up_4 {m : List Int} {a : Int} (r x : Int) (h : 0 ≤ a) : upV m (a + 4) r x = upV (m.drop 4) a r x ∧ upA m (a + 4) r x = upA (m.drop 4) a r x + 4 ∧ upR m (a + 4) r x = upR (m.drop 4) a r x := by
  refine ⟨?_, ?_, ?_⟩
  · unfold upV upOk; rw [num0_4 h]
  · unfold upA upOk; rw [num0_4 h]
    cases decide (r = 0 ∧ (num0 (m.drop 4) a).2.2 = 0 ∧ (num0 (m.drop 4) a).1 ≤ x)
    · rfl
    · simp only [cond_true]; omega
  · unfold upR; rw [num0_4 h]
theorem ok_pos {m : List Int} {a : Int} (h : okC m a = true) : 0 ≤ a := (okC_iff.1 h).1.1
theorem st_4 {m : List Int} {a : Int} (r : Int) (h : okC (m.drop 4) a = true) : ∀ n, stA m (a + 4) r n = stA (m.drop 4) a r n + 4 ∧ stR m (a + 4) r n = stR (m.drop 4) a r n
  | 0 => ⟨rfl, rfl⟩
  | n + 1 => by
    obtain ⟨h1, h2⟩ := st_4 r h n
    have hp := ok_pos (ok_st _ a r h n)
    have e1 : ∀ m b q k, stR m b q (k + 1) = upR m (stA m b q k) (stR m b q k) 18446744073709551615 := fun _ _ _ _ => rfl
    have e2 : ∀ m b q k, stA m b q (k + 1) = upA m (stA m b q k) (stR m b q k) 18446744073709551615 := fun _ _ _ _ => rfl
    rw [e1, e2, h1, h2, (up_4 _ _ hp).2.1, (up_4 _ _ hp).2.2]; exact ⟨rfl, rfl⟩
theorem sv_4 {m : List Int} {a : Int} (r : Int) (h : okC (m.drop 4) a = true) (n : Nat) : stV m (a + 4) r n = stV (m.drop 4) a r n := by
  obtain ⟨h1, h2⟩ := st_4 r h n
  unfold stV; rw [h1, h2, (up_4 _ _ (ok_pos (ok_st _ a r h n))).1]
theorem sg_4 {m : List Int} {a : Int} (r : Int) (h : okC (m.drop 4) a = true) (n : Nat) : sgL m (a + 4) r n = sgL (m.drop 4) a r n := by
  unfold sgL; exact List.map_congr_left fun i _ => sv_4 r h i
theorem fr_4 {m : List Int} : ∀ (k : Nat) (a r : Int), okC (m.drop 4) a = true → frD m k (a + 4) r = ((frD (m.drop 4) k a r).1 + 4, (frD (m.drop 4) k a r).2)
  | 0, a, r, h => rfl
  | k + 1, a, r, h => by
    have hp := ok_pos h
    obtain ⟨u1, u2, u3⟩ := up_4 (m := m) r 2 hp
    have ho := upA_ok r 2 h
    have eA : fA m (a + 4) r = fA (m.drop 4) a r + 4 := by unfold fA; rw [u2, u3, (st_4 _ ho 10).1]
    have eR : fR m (a + 4) r = fR (m.drop 4) a r := by unfold fR; rw [u2, u3, (st_4 _ ho 10).2]
    have eX : fX m (a + 4) r = fX (m.drop 4) a r := by unfold fX; rw [u2, u3, sv_4 _ ho]
    have eE : fE m (a + 4) r = fE (m.drop 4) a r := by unfold fE; rw [u1, u2, u3, sv_4 _ ho, sv_4 _ ho, sv_4 _ ho, sv_4 _ ho, sv_4 _ ho, sv_4 _ ho, sv_4 _ ho, sv_4 _ ho, sv_4 _ ho]
    rw [frD, frD, eA, eR, eX, eE]
    by_cases hr : r = 0
    rotate_left
    · rw [if_pos hr, if_pos hr]
    · rw [if_neg (fun h => h hr), if_neg (fun h => h hr), fr_4 k _ _ (ok_f r h).2]
theorem dn_4 {m : List Int} : ∀ (k : Nat) (a r : Int), okC (m.drop 4) a = true → dnA m k (a + 4) r = dnA (m.drop 4) k a r + 4 ∧ dnR m k (a + 4) r = dnR (m.drop 4) k a r ∧ dnL m k (a + 4) r = dnL (m.drop 4) k a r
  | 0, a, r, h => ⟨rfl, rfl, rfl⟩
  | k + 1, a, r, h => by
    obtain ⟨u1, u2, u3⟩ := up_4 (m := m) r 4294967295 (ok_pos h)
    obtain ⟨h1, h2, h3⟩ := dn_4 (m := m) k (upA (m.drop 4) a r 4294967295) (upR (m.drop 4) a r 4294967295) (upA_ok _ _ h)
    rw [dnA, dnR, dnL, dnA, dnR, dnL, u1, u2, u3, h1, h2, h3]; exact ⟨rfl, rfl, rfl⟩
end Go.Proofs.Ytlmnohdgfjienaa.Cf

set_option maxRecDepth 100000
set_option linter.all false
set_option maxHeartbeats 0
set_option linter.unusedSimpArgs false
set_option linter.unusedVariables false
namespace Go.Proofs.Ytlmnohdgfjienaa.Cf
open Go.Abs Go.Proofs.Ytlmnohdgfjienaa.Code Go.Proofs.Ytlmnohdgfjienaa.Code

/-- numbers that may be put behind these bytes -/
def okZ (m l : List Int) : Bool := l.all i64B && decide (m.length + 10 * l.length ≤ 50000)
theorem zb_cons (x : Int) (l : List Int) : zb (x :: l) = vb (zz x) ++ zb l := rfl
theorem zzB {x : Int} (h : i64B x = true) : u64B (zz x) = true := by
  unfold i64B at h; unfold u64B zz; simp at *; split <;> omega
theorem zb_len {l : List Int} (h : l.all i64B = true) : (zb l).length ≤ 10 * l.length := by
  induction l with
  | nil => simp [zb]
  | cons x l ih =>
    simp only [List.all_cons, Bool.and_eq_true] at h
    have := vb_len (zzB h.1)
    have := ih h.2
    rw [zb_cons, List.length_append, List.length_cons]; omega
theorem l16z (v : Bool) (l : List Int) (ha : l.all i64B = true) (hs : l.length ≤ 1000000) : ∀ (k i : Nat) (y : List Int), i + k = l.length → y.length + 10 * k ≤ 50000 →
    L16L v l (k + 1) (nlen (lenI l)) (i : Int) y = some (y ++ zb (l.drop i))
  | 0, i, y, e, hy => by
    rw [L16L, lt_f (show lenI l ≤ i by unfold lenI; omega), List.drop_eq_nil_of_le (by omega)]; simp [zb]
  | k + 1, i, y, e, hy => by
    have hi : i < l.length := by omega
    have hx : i64B l[i] = true := List.all_eq_true.1 ha _ (List.getElem_mem hi)
    have hv := vb_len (zzB hx)
    rw [L16L, lt_t (show i < lenI l from hi), in_t (show i < lenI l from hi), ix0, l_t (show i < lenI l from hi), inc hs hi]
    rw [show getI l i = l[i] from by unfold getI; rw [List.getD_eq_getElem?_getD, List.getElem?_eq_getElem hi]; rfl, decide_eq_true hx, decide_eq_true (show y.length ≤ 50000 by omega)]
    simp only [cond_true]
    rw [show y.append (vb (zz l[i])) = y ++ vb (zz l[i]) from rfl, l16z v l ha hs k (i + 1) _ (by omega) (by rw [List.length_append]; omega), List.drop_eq_getElem_cons hi, zb_cons, List.append_assoc]
theorem l19z (v : Bool) (l : List Int) (ha : l.all i64B = true) (hs : l.length ≤ 1000000) : ∀ (k i : Nat) (y : List Int), i + k = l.length → y.length + 10 * k ≤ 50000 →
    L19L v l (k + 1) (i : Int) y = some (y ++ zb (l.drop i))
  | 0, i, y, e, hy => by
    rw [L19L, lt_f (show lenI l ≤ i by unfold lenI; omega), List.drop_eq_nil_of_le (by omega)]; simp [zb]
  | k + 1, i, y, e, hy => by
    have hi : i < l.length := by omega
    have hx : i64B l[i] = true := List.all_eq_true.1 ha _ (List.getElem_mem hi)
    have hv := vb_len (zzB hx)
    rw [L19L, lt_t (show i < lenI l from hi), in_t (show i < lenI l from hi), ix0, l_t (show i < lenI l from hi), inc hs hi]
    rw [show getI l i = l[i] from by unfold getI; rw [List.getD_eq_getElem?_getD, List.getElem?_eq_getElem hi]; rfl, decide_eq_true hx, decide_eq_true (show y.length ≤ 50000 by omega), decide_eq_true (zzB hx)]
    simp only [cond_true]
    rw [show y.append (vb (zz l[i])) = y ++ vb (zz l[i]) from rfl, l19z v l ha hs k (i + 1) _ (by omega) (by rw [List.length_append]; omega), List.drop_eq_getElem_cons hi, zb_cons, List.append_assoc]
theorem g16 (v : Bool) (m l : List Int) (h : okZ m l = true) : ACalls Try.prog 16 [AV.sw 0 1, AV.sw 1 1] [AObj.ints 0 true .u8 m, AObj.ints 0 v .i64 l] (AV.sw 2 1) [(0, AObj.dead)] [AObj.ints 0 true .u8 (m ++ zb l)] := by
  unfold okZ at h; simp only [Bool.and_eq_true, decide_eq_true_eq] at h
  have a := l16z v l h.1 (by omega) l.length 0 m (by omega) h.2
  exact f16 v m l _ _ a
theorem g19 (v : Bool) (m l : List Int) (h : okZ m l = true) : ACalls Try.prog 19 [AV.sw 0 1, AV.sw 1 1] [AObj.ints 0 true .u8 m, AObj.ints 0 v .i64 l] (AV.sw 2 1) [(0, AObj.dead)] [AObj.ints 0 true .u8 (m ++ zb l)] := by
  unfold okZ at h; simp only [Bool.and_eq_true, decide_eq_true_eq] at h
  have a := l19z v l h.1 (by omega) l.length 0 m (by omega) h.2
  exact f19 v m l _ _ a
theorem f20_1 (k m f t l o g d a b x : Int)  : ACalls Try.prog 20 [AV.agg [AV.v (.int .i64 k), AV.v (.int .i64 m), AV.v (.int .i64 f), AV.v (.int .i64 t), AV.v (.int .i64 l), AV.v (.int .i64 o), AV.v (.int .i64 g), AV.v (.int .i64 d), AV.v (.int .i64 a), AV.v (.int .i64 b)], AV.v (.int .i64 x)] [] (AV.sw 0 1) [] [AObj.ints 0 true .i64 [m, f, t, l, o, g, d, a, b, x]] :=
  ACalls.nb (res := AV.sw 0 1) (.of_out [] [1] [] Try.func20 (by kernel_rfl) (by kernel_rfl) .nil)
theorem f20 (k m f t l o g d a b x : Int) : ACalls Try.prog 20 [AV.agg [AV.v (.int .i64 k), AV.v (.int .i64 m), AV.v (.int .i64 f), AV.v (.int .i64 t), AV.v (.int .i64 l), AV.v (.int .i64 o), AV.v (.int .i64 g), AV.v (.int .i64 d), AV.v (.int .i64 a), AV.v (.int .i64 b)], AV.v (.int .i64 x)] [] (AV.sw 0 1) [] [AObj.ints 0 true .i64 [m, f, t, l, o, g, d, a, b, x]] := (f20_1 k m f t l o g d a b x)
end Go.Proofs.Ytlmnohdgfjienaa.Cf

set_option maxRecDepth 100000
set_option linter.all false
set_option maxHeartbeats 0
set_option linter.unusedSimpArgs false
set_option linter.unusedVariables false
namespace Go.Proofs.Ytlmnohdgfjienaa.Cf
open Go.Abs Go.Proofs.Ytlmnohdgfjienaa.Code Go.Proofs.Ytlmnohdgfjienaa.Code
@[reducible] def kScO0 (y5 : List Int) (j0 : List (El FF)) (x31 : Int) (j1 : List Int) := ((y5.append (vb (icv .u64 (getR FF j0 (idxN 0 x31)).1))).append (zb [(getR FF j0 (idxN 0 x31)).snd.1, (getR FF j0 (idxN 0 x31)).snd.snd.1, (getR FF j0 (idxN 0 x31)).snd.snd.snd.1, (getR FF j0 (idxN 0 x31)).snd.snd.snd.snd.1, (getR FF j0 (idxN 0 x31)).snd.snd.snd.snd.snd.1, (getR FF j0 (idxN 0 x31)).snd.snd.snd.snd.snd.snd.1, (getR FF j0 (idxN 0 x31)).snd.snd.snd.snd.snd.snd.snd.1, (getR FF j0 (idxN 0 x31)).snd.snd.snd.snd.snd.snd.snd.snd.1, (getR FF j0 (idxN 0 x31)).snd.snd.snd.snd.snd.snd.snd.snd.2, getI j1 (idxN 0 x31)]))
@[reducible] def kScO1 (r : Int) (a0 : Int) (a1 : Int) (a2 : Int) (a3 : Int) (a4 : Int) (a5 : Int) (a6 : Int) (a7 : Int) (y : Int) (z : Int) (j0 : List (El FF)) (j1 : List Int) (j2 : List Int) (j3 : List Int) := (ckE r a0 a1 a2 a3 a4 a5 a6 a7 y z (lenR FF j0) (lenI j1) (lenI j2) (lenI j3) (fb j0 j1) (pix j2))
@[reducible] def kScO2 (v0o0 : List Int) (r : Int) (a0 : Int) (a1 : Int) (a2 : Int) (a3 : Int) (a4 : Int) (a5 : Int) (a6 : Int) (a7 : Int) (j2 : List Int) := ((v0o0.append (zb [r, a0, a1, a2, a3, a4, a5, a6, a7])).append (vb (icv .u64 (nlen (lenI j2)))))
@[reducible] def kScO3 (r : Int) (a0 : Int) (a1 : Int) (a2 : Int) (a3 : Int) (a4 : Int) (a5 : Int) (a6 : Int) (a7 : Int) (y : Int) (z : Int) (j0 : List (El FF)) (j1 : List Int) (j2 : List Int) (j3 : List Int) := (AV.tup [AV.v (.int .i64 (kScO1 r a0 a1 a2 a3 a4 a5 a6 a7 y z j0 j1 j2 j3)), AV.v (.int .i64 (ckK r a0 a1 a2 a3 a4 a5 a6 a7 y z (lenR FF j0) (lenI j1) (lenI j2) (lenI j3) (fb j0 j1) (pix j2)))])
@[reducible] def kScO4 (j0 : List (El FF)) (x31 : Int) := (getR FF j0 (idxN 0 x31))
def L8aS (j0 : List (El FF)) (j1 j2 j3 : List Int) (r a0 a1 a2 a3 a4 a5 a6 a7 y z x30 : Int) (y5 : List Int) (x31 : Int) : Tm := (tg [(1, AV.ptr 4 0), (0, AV.v (Value.slice none 0 0)), (0, AV.v (.int .i64 0)), (2, AV.sw 5 1), (22, AV.sw 0 10), (0, AV.v (.int .i64 x30)), (0, AV.v (.int .i64 x31))] 100)
def L8aH (j0 : List (El FF)) (j1 j2 j3 : List Int) (r a0 a1 a2 a3 a4 a5 a6 a7 y z x30 : Int) (y5 : List Int) (x31 : Int) : List AObj := [AObj.rows false FF j0, AObj.ints 0 false .i64 j1, AObj.ints 0 false .i64 j2, AObj.ints 0 false IntKind.u32 j3, AObj.cells 0 true [AV.sw 0 10, AV.sw 1 1, AV.v (.int .i64 r), AV.v (.int .i64 a0), AV.v (.int .i64 a1), AV.v (.int .i64 a2), AV.v (.int .i64 a3), AV.v (.int .i64 a4), AV.v (.int .i64 a5), AV.v (.int .i64 a6), AV.v (.int .i64 a7), AV.sw 2 1, AV.sw 3 1, AV.v (.int .i64 y), AV.v (.int .i64 z)], AObj.ints 0 true IntKind.u8 y5]
def L8aT (j0 : List (El FF)) (j1 j2 j3 : List Int) (r a0 a1 a2 a3 a4 a5 a6 a7 y z : Int) (o0 : List Int) : Tm := (tg [(1, AV.ptr 4 0), (0, AV.v (Value.slice none 0 0)), (0, AV.v (.int .i64 0)), (2, AV.sw 5 1)] 125)
def L8aU (j0 : List (El FF)) (j1 j2 j3 : List Int) (r a0 a1 a2 a3 a4 a5 a6 a7 y z : Int) (o0 : List Int) : List AObj := [AObj.rows false FF j0, AObj.ints 0 false .i64 j1, AObj.ints 0 false .i64 j2, AObj.ints 0 false IntKind.u32 j3, AObj.cells 0 true [AV.sw 0 10, AV.sw 1 1, AV.v (.int .i64 r), AV.v (.int .i64 a0), AV.v (.int .i64 a1), AV.v (.int .i64 a2), AV.v (.int .i64 a3), AV.v (.int .i64 a4), AV.v (.int .i64 a5), AV.v (.int .i64 a6), AV.v (.int .i64 a7), AV.sw 2 1, AV.sw 3 1, AV.v (.int .i64 y), AV.v (.int .i64 z)], AObj.ints 0 true IntKind.u8 o0]
theorem L8a_1 (j0 : List (El FF)) (j1 j2 j3 : List Int) (r a0 a1 a2 a3 a4 a5 a6 a7 y z x30 : Int) (y5 : List Int) (x31 : Int)  (d0 : (ilt x31 x30) = true) (s0 : inB x31 (lenR FF j0)) (s1 : ltN (idxN 0 x31) (lenR FF j0)) (s2 : u64B (icv .u64 (kScO4 j0 x31).1) = true) (s3 : y5.length ≤ 50000) (s4 : inB x31 (lenI j1)) (s5 : ltN (idxN 0 x31) (lenI j1)) (s6 : okZ (y5.append (vb (icv .u64 (kScO4 j0 x31).1))) [(kScO4 j0 x31).snd.1, (kScO4 j0 x31).snd.snd.1, (kScO4 j0 x31).snd.snd.snd.1, (kScO4 j0 x31).snd.snd.snd.snd.1, (kScO4 j0 x31).snd.snd.snd.snd.snd.1, (kScO4 j0 x31).snd.snd.snd.snd.snd.snd.1, (kScO4 j0 x31).snd.snd.snd.snd.snd.snd.snd.1, (kScO4 j0 x31).snd.snd.snd.snd.snd.snd.snd.snd.1, (kScO4 j0 x31).snd.snd.snd.snd.snd.snd.snd.snd.2, getI j1 (idxN 0 x31)] = true) {e : AExit} {tm2 : Tm} {h2 : List AObj} (b : ARun Try.prog 4 (.loop (lp Try.f8 0)) (L8aS j0 j1 j2 j3 r a0 a1 a2 a3 a4 a5 a6 a7 y z  (x30) (kScO0 y5 j0 x31 j1) (iadd .i64 x31 1)) (L8aH j0 j1 j2 j3 r a0 a1 a2 a3 a4 a5 a6 a7 y z  (x30) (kScO0 y5 j0 x31 j1) (iadd .i64 x31 1)) e tm2 h2) : ARun Try.prog 4 (.loop (lp Try.f8 0)) (L8aS j0 j1 j2 j3 r a0 a1 a2 a3 a4 a5 a6 a7 y z  x30 y5 x31) (L8aH j0 j1 j2 j3 r a0 a1 a2 a3 a4 a5 a6 a7 y z  x30 y5 x31) e tm2 h2 :=
  .round [Orc.br true, Orc.call [5, 7] (AV.sw 2 1) [] [AObj.ints 0 true IntKind.u8 (y5.append (vb (icv .u64 (kScO4 j0 x31).1)))], Orc.call [8, 9] (AV.sw 2 1) [(0, AObj.dead)] [AObj.ints 0 true IntKind.u8 (kScO0 y5 j0 x31 j1)]] [1, 2, 3, 6, 29, 30, 31] [0, 1, 2, 3, 4, 10] [isB (ilt x31 x30) true, inB x31 (lenR FF j0), ltN (idxN 0 x31) (lenR FF j0), ACalls Try.prog 15 [AV.sw 0 1, AV.sw 1 1] [AObj.ints 0 true IntKind.u8 y5, AObj.ints 0 true .u64 [icv .u64 (kScO4 j0 x31).1]] (AV.sw 2 1) [] [AObj.ints 0 true IntKind.u8 (y5.append (vb (icv .u64 (kScO4 j0 x31).1)))], Mixed Try.prog, inB x31 (lenI j1), ltN (idxN 0 x31) (lenI j1), ACalls Try.prog 16 [AV.sw 0 1, AV.sw 1 1] [AObj.ints 0 true IntKind.u8 (y5.append (vb (icv .u64 (kScO4 j0 x31).1))), AObj.ints 0 true .i64 [(kScO4 j0 x31).snd.1, (kScO4 j0 x31).snd.snd.1, (kScO4 j0 x31).snd.snd.snd.1, (kScO4 j0 x31).snd.snd.snd.snd.1, (kScO4 j0 x31).snd.snd.snd.snd.snd.1, (kScO4 j0 x31).snd.snd.snd.snd.snd.snd.1, (kScO4 j0 x31).snd.snd.snd.snd.snd.snd.snd.1, (kScO4 j0 x31).snd.snd.snd.snd.snd.snd.snd.snd.1, (kScO4 j0 x31).snd.snd.snd.snd.snd.snd.snd.snd.2, getI j1 (idxN 0 x31)]] (AV.sw 2 1) [(0, AObj.dead)] [AObj.ints 0 true IntKind.u8 (kScO0 y5 j0 x31 j1)]] (by kernel_rfl) (.cons d0 (.cons (s0) (.cons (s1) (.cons (by apply Go.Proofs.Ytlmnohdgfjienaa.Code.g15a <;> (first | exact (s2) | exact (s3))) (.cons (by show _ = _; kernel_rfl) (.cons (s4) (.cons (s5) (.cons (by apply g16 <;> (first | exact (s6))) .nil)))))))) b
theorem L8a_2 (j0 : List (El FF)) (j1 j2 j3 : List Int) (r a0 a1 a2 a3 a4 a5 a6 a7 y z x30 : Int) (y5 : List Int) (x31 : Int)  (d0 : (ilt x31 x30) = false) : ARun Try.prog 4 (.loop (lp Try.f8 0)) (L8aS j0 j1 j2 j3 r a0 a1 a2 a3 a4 a5 a6 a7 y z  x30 y5 x31) (L8aH j0 j1 j2 j3 r a0 a1 a2 a3 a4 a5 a6 a7 y z  x30 y5 x31) (AExit.exit 0) (L8aT j0 j1 j2 j3 r a0 a1 a2 a3 a4 a5 a6 a7 y z  (y5)) (L8aU j0 j1 j2 j3 r a0 a1 a2 a3 a4 a5 a6 a7 y z  (y5)) :=
  .last [Orc.br false] [1, 2, 3, 6, 9, 11, 110, 111, 112, 113] [0, 1, 2, 3, 4, 5] [isB (ilt x31 x30) false] (by kernel_rfl) (.cons d0 .nil)
def L8aL (j0 : List (El FF)) (j1 j2 j3 : List Int) (r a0 a1 a2 a3 a4 a5 a6 a7 y z : Int) : Nat → Int → List Int → Int → Option (List Int)
  | 0, _, _, _ => none
  | fuel + 1, x30, y5, x31 => (bif ilt x31 x30 then bif decide (inB x31 (lenR FF j0)) then bif decide (ltN (idxN 0 x31) (lenR FF j0)) then bif decide (u64B (icv .u64 (getR FF j0 (idxN 0 x31)).1) = true) then bif decide (y5.length ≤ 50000) then bif decide (inB x31 (lenI j1)) then bif decide (ltN (idxN 0 x31) (lenI j1)) then bif decide (okZ (y5.append (vb (icv .u64 (getR FF j0 (idxN 0 x31)).1))) [(getR FF j0 (idxN 0 x31)).snd.1, (getR FF j0 (idxN 0 x31)).snd.snd.1, (getR FF j0 (idxN 0 x31)).snd.snd.snd.1, (getR FF j0 (idxN 0 x31)).snd.snd.snd.snd.1, (getR FF j0 (idxN 0 x31)).snd.snd.snd.snd.snd.1, (getR FF j0 (idxN 0 x31)).snd.snd.snd.snd.snd.snd.1, (getR FF j0 (idxN 0 x31)).snd.snd.snd.snd.snd.snd.snd.1, (getR FF j0 (idxN 0 x31)).snd.snd.snd.snd.snd.snd.snd.snd.1, (getR FF j0 (idxN 0 x31)).snd.snd.snd.snd.snd.snd.snd.snd.2, getI j1 (idxN 0 x31)] = true) then L8aL j0 j1 j2 j3 r a0 a1 a2 a3 a4 a5 a6 a7 y z  fuel (x30) ((y5.append (vb (icv .u64 (getR FF j0 (idxN 0 x31)).1))).append (zb [(getR FF j0 (idxN 0 x31)).snd.1, (getR FF j0 (idxN 0 x31)).snd.snd.1, (getR FF j0 (idxN 0 x31)).snd.snd.snd.1, (getR FF j0 (idxN 0 x31)).snd.snd.snd.snd.1, (getR FF j0 (idxN 0 x31)).snd.snd.snd.snd.snd.1, (getR FF j0 (idxN 0 x31)).snd.snd.snd.snd.snd.snd.1, (getR FF j0 (idxN 0 x31)).snd.snd.snd.snd.snd.snd.snd.1, (getR FF j0 (idxN 0 x31)).snd.snd.snd.snd.snd.snd.snd.snd.1, (getR FF j0 (idxN 0 x31)).snd.snd.snd.snd.snd.snd.snd.snd.2, getI j1 (idxN 0 x31)])) (iadd .i64 x31 1) else none else none else none else none else none else none else none else some (y5))
theorem L8a (j0 : List (El FF)) (j1 j2 j3 : List Int) (r a0 a1 a2 a3 a4 a5 a6 a7 y z : Int) : ∀ (fuel : Nat) (x30 : Int) (y5 : List Int) (x31 : Int) (o0 : List Int) (_ : L8aL j0 j1 j2 j3 r a0 a1 a2 a3 a4 a5 a6 a7 y z  fuel  x30 y5 x31 = some (o0)), ARun Try.prog 4 (.loop (lp Try.f8 0)) (L8aS j0 j1 j2 j3 r a0 a1 a2 a3 a4 a5 a6 a7 y z  x30 y5 x31) (L8aH j0 j1 j2 j3 r a0 a1 a2 a3 a4 a5 a6 a7 y z  x30 y5 x31) (AExit.exit 0) (L8aT j0 j1 j2 j3 r a0 a1 a2 a3 a4 a5 a6 a7 y z  o0) (L8aU j0 j1 j2 j3 r a0 a1 a2 a3 a4 a5 a6 a7 y z  o0)
  | 0, _, _, _, _, h => by simp [L8aL] at h
  | fuel + 1, x30, y5, x31, o0, h => by
    simp only [L8aL] at h
    exact (splitB h (fun d0 h => (chk h (fun s0 h => chk h (fun s1 h => chk h (fun s2 h => chk h (fun s3 h => chk h (fun s4 h => chk h (fun s5 h => chk h (fun s6 h => L8a_1 j0 j1 j2 j3 r a0 a1 a2 a3 a4 a5 a6 a7 y z  x30 y5 x31 d0 s0 s1 s2 s3 s4 s5 s6 (L8a j0 j1 j2 j3 r a0 a1 a2 a3 a4 a5 a6 a7 y z  fuel (x30) ((y5.append (vb (icv .u64 (getR FF j0 (idxN 0 x31)).1))).append (zb [(getR FF j0 (idxN 0 x31)).snd.1, (getR FF j0 (idxN 0 x31)).snd.snd.1, (getR FF j0 (idxN 0 x31)).snd.snd.snd.1, (getR FF j0 (idxN 0 x31)).snd.snd.snd.snd.1, (getR FF j0 (idxN 0 x31)).snd.snd.snd.snd.snd.1, (getR FF j0 (idxN 0 x31)).snd.snd.snd.snd.snd.snd.1, (getR FF j0 (idxN 0 x31)).snd.snd.snd.snd.snd.snd.snd.1, (getR FF j0 (idxN 0 x31)).snd.snd.snd.snd.snd.snd.snd.snd.1, (getR FF j0 (idxN 0 x31)).snd.snd.snd.snd.snd.snd.snd.snd.2, getI j1 (idxN 0 x31)])) (iadd .i64 x31 1) o0 h)))))))))) (fun d0 h => ((by cases h; exact L8a_2 j0 j1 j2 j3 r a0 a1 a2 a3 a4 a5 a6 a7 y z  x30 y5 x31 d0))))
def L8bS (j0 : List (El FF)) (j1 j2 j3 : List Int) (r a0 a1 a2 a3 a4 a5 a6 a7 y z x111 : Int) (y5 : List Int) (x112 : Int) : Tm := (tg [(1, AV.ptr 4 0), (0, AV.v (Value.slice none 0 0)), (0, AV.v (.int .i64 0)), (2, AV.sw 5 1), (103, AV.sw 3 1), (0, AV.v (.int .i64 x111)), (0, AV.v (.int .i64 x112))] 19)
def L8bH (j0 : List (El FF)) (j1 j2 j3 : List Int) (r a0 a1 a2 a3 a4 a5 a6 a7 y z x111 : Int) (y5 : List Int) (x112 : Int) : List AObj := [AObj.rows false FF j0, AObj.ints 0 false .i64 j1, AObj.ints 0 false .i64 j2, AObj.ints 0 false IntKind.u32 j3, AObj.cells 0 true [AV.sw 0 10, AV.sw 1 1, AV.v (.int .i64 r), AV.v (.int .i64 a0), AV.v (.int .i64 a1), AV.v (.int .i64 a2), AV.v (.int .i64 a3), AV.v (.int .i64 a4), AV.v (.int .i64 a5), AV.v (.int .i64 a6), AV.v (.int .i64 a7), AV.sw 2 1, AV.sw 3 1, AV.v (.int .i64 y), AV.v (.int .i64 z)], AObj.ints 0 true IntKind.u8 y5]
def L8bT (j0 : List (El FF)) (j1 j2 j3 : List Int) (r a0 a1 a2 a3 a4 a5 a6 a7 y z : Int) (o0 : List Int) : Tm := (tg [(1, AV.ptr 4 0), (0, AV.v (Value.slice none 0 0)), (0, AV.v (.int .i64 0)), (2, AV.sw 5 1)] 125)
def L8bU (j0 : List (El FF)) (j1 j2 j3 : List Int) (r a0 a1 a2 a3 a4 a5 a6 a7 y z : Int) (o0 : List Int) : List AObj := [AObj.rows false FF j0, AObj.ints 0 false .i64 j1, AObj.ints 0 false .i64 j2, AObj.ints 0 false IntKind.u32 j3, AObj.cells 0 true [AV.sw 0 10, AV.sw 1 1, AV.v (.int .i64 r), AV.v (.int .i64 a0), AV.v (.int .i64 a1), AV.v (.int .i64 a2), AV.v (.int .i64 a3), AV.v (.int .i64 a4), AV.v (.int .i64 a5), AV.v (.int .i64 a6), AV.v (.int .i64 a7), AV.sw 2 1, AV.sw 3 1, AV.v (.int .i64 y), AV.v (.int .i64 z)], AObj.ints 0 true IntKind.u8 o0]
theorem L8b_1 (j0 : List (El FF)) (j1 j2 j3 : List Int) (r a0 a1 a2 a3 a4 a5 a6 a7 y z x111 : Int) (y5 : List Int) (x112 : Int)  (d0 : (ilt x112 x111) = true) (s0 : inB x112 (lenI j3)) (s1 : ltN (idxN 0 x112) (lenI j3)) (s2 : u64B (icv .u64 (getI j3 (idxN 0 x112))) = true) (s3 : y5.length ≤ 50000) {e : AExit} {tm2 : Tm} {h2 : List AObj} (b : ARun Try.prog 4 (.loop (lp Try.f8 1)) (L8bS j0 j1 j2 j3 r a0 a1 a2 a3 a4 a5 a6 a7 y z  (x111) (y5.append (vb (icv .u64 (getI j3 (idxN 0 x112))))) (iadd .i64 x112 1)) (L8bH j0 j1 j2 j3 r a0 a1 a2 a3 a4 a5 a6 a7 y z  (x111) (y5.append (vb (icv .u64 (getI j3 (idxN 0 x112))))) (iadd .i64 x112 1)) e tm2 h2) : ARun Try.prog 4 (.loop (lp Try.f8 1)) (L8bS j0 j1 j2 j3 r a0 a1 a2 a3 a4 a5 a6 a7 y z  x111 y5 x112) (L8bH j0 j1 j2 j3 r a0 a1 a2 a3 a4 a5 a6 a7 y z  x111 y5 x112) e tm2 h2 :=
  .round [Orc.br true, Orc.call [5, 6] (AV.sw 2 1) [] [AObj.ints 0 true IntKind.u8 (y5.append (vb (icv .u64 (getI j3 (idxN 0 x112)))))]] [1, 2, 3, 6, 110, 111, 112] [0, 1, 2, 3, 4, 7] [isB (ilt x112 x111) true, inB x112 (lenI j3), ltN (idxN 0 x112) (lenI j3), ACalls Try.prog 15 [AV.sw 0 1, AV.sw 1 1] [AObj.ints 0 true IntKind.u8 y5, AObj.ints 0 true .u64 [icv .u64 (getI j3 (idxN 0 x112))]] (AV.sw 2 1) [] [AObj.ints 0 true IntKind.u8 (y5.append (vb (icv .u64 (getI j3 (idxN 0 x112)))))]] (by kernel_rfl) (.cons d0 (.cons (s0) (.cons (s1) (.cons (by apply Go.Proofs.Ytlmnohdgfjienaa.Code.g15a <;> (first | exact (s2) | exact (s3))) .nil)))) b
theorem L8b_2 (j0 : List (El FF)) (j1 j2 j3 : List Int) (r a0 a1 a2 a3 a4 a5 a6 a7 y z x111 : Int) (y5 : List Int) (x112 : Int)  (d0 : (ilt x112 x111) = false) : ARun Try.prog 4 (.loop (lp Try.f8 1)) (L8bS j0 j1 j2 j3 r a0 a1 a2 a3 a4 a5 a6 a7 y z  x111 y5 x112) (L8bH j0 j1 j2 j3 r a0 a1 a2 a3 a4 a5 a6 a7 y z  x111 y5 x112) (AExit.exit 2) (L8bT j0 j1 j2 j3 r a0 a1 a2 a3 a4 a5 a6 a7 y z  (y5)) (L8bU j0 j1 j2 j3 r a0 a1 a2 a3 a4 a5 a6 a7 y z  (y5)) :=
  .last [Orc.br false] [1, 2, 3, 6] [0, 1, 2, 3, 4, 5] [isB (ilt x112 x111) false] (by kernel_rfl) (.cons d0 .nil)
def L8bL (j0 : List (El FF)) (j1 j2 j3 : List Int) (r a0 a1 a2 a3 a4 a5 a6 a7 y z : Int) : Nat → Int → List Int → Int → Option (List Int)
  | 0, _, _, _ => none
  | fuel + 1, x111, y5, x112 => (bif ilt x112 x111 then bif decide (inB x112 (lenI j3)) then bif decide (ltN (idxN 0 x112) (lenI j3)) then bif decide (u64B (icv .u64 (getI j3 (idxN 0 x112))) = true) then bif decide (y5.length ≤ 50000) then L8bL j0 j1 j2 j3 r a0 a1 a2 a3 a4 a5 a6 a7 y z  fuel (x111) (y5.append (vb (icv .u64 (getI j3 (idxN 0 x112))))) (iadd .i64 x112 1) else none else none else none else none else some (y5))
theorem L8b (j0 : List (El FF)) (j1 j2 j3 : List Int) (r a0 a1 a2 a3 a4 a5 a6 a7 y z : Int) : ∀ (fuel : Nat) (x111 : Int) (y5 : List Int) (x112 : Int) (o0 : List Int) (_ : L8bL j0 j1 j2 j3 r a0 a1 a2 a3 a4 a5 a6 a7 y z  fuel  x111 y5 x112 = some (o0)), ARun Try.prog 4 (.loop (lp Try.f8 1)) (L8bS j0 j1 j2 j3 r a0 a1 a2 a3 a4 a5 a6 a7 y z  x111 y5 x112) (L8bH j0 j1 j2 j3 r a0 a1 a2 a3 a4 a5 a6 a7 y z  x111 y5 x112) (AExit.exit 2) (L8bT j0 j1 j2 j3 r a0 a1 a2 a3 a4 a5 a6 a7 y z  o0) (L8bU j0 j1 j2 j3 r a0 a1 a2 a3 a4 a5 a6 a7 y z  o0)
  | 0, _, _, _, _, h => by simp [L8bL] at h
  | fuel + 1, x111, y5, x112, o0, h => by
    simp only [L8bL] at h
    exact (splitB h (fun d0 h => (chk h (fun s0 h => chk h (fun s1 h => chk h (fun s2 h => chk h (fun s3 h => L8b_1 j0 j1 j2 j3 r a0 a1 a2 a3 a4 a5 a6 a7 y z  x111 y5 x112 d0 s0 s1 s2 s3 (L8b j0 j1 j2 j3 r a0 a1 a2 a3 a4 a5 a6 a7 y z  fuel (x111) (y5.append (vb (icv .u64 (getI j3 (idxN 0 x112))))) (iadd .i64 x112 1) o0 h))))))) (fun d0 h => ((by cases h; exact L8b_2 j0 j1 j2 j3 r a0 a1 a2 a3 a4 a5 a6 a7 y z  x111 y5 x112 d0))))
def f8r0 (j0 : List (El FF)) (j1 j2 j3 : List Int) (r a0 a1 a2 a3 a4 a5 a6 a7 y z : Int) (v0f : Nat) (v0o0 : List Int) (v1f : Nat) (v1o0 : List Int) : Int := bif ine (ckE r a0 a1 a2 a3 a4 a5 a6 a7 y z (lenR FF j0) (lenI j1) (lenI j2) (lenI j3) (fb j0 j1) (pix j2)) 0 then ckE r a0 a1 a2 a3 a4 a5 a6 a7 y z (lenR FF j0) (lenI j1) (lenI j2) (lenI j3) (fb j0 j1) (pix j2) else 0
def f8r1 (j0 : List (El FF)) (j1 j2 j3 : List Int) (r a0 a1 a2 a3 a4 a5 a6 a7 y z : Int) (v0f : Nat) (v0o0 : List Int) (v1f : Nat) (v1o0 : List Int) : List Int := bif ine (ckE r a0 a1 a2 a3 a4 a5 a6 a7 y z (lenR FF j0) (lenI j1) (lenI j2) (lenI j3) (fb j0 j1) (pix j2)) 0 then [] else (v1o0.append (vb (icv .u64 y))).append (zb [z])
theorem f8_1 (j0 : List (El FF)) (j1 j2 j3 : List Int) (r a0 a1 a2 a3 a4 a5 a6 a7 y z : Int)  (d0 : (ine (kScO1 r a0 a1 a2 a3 a4 a5 a6 a7 y z j0 j1 j2 j3) 0) = true) : ACalls Try.prog 8 [(cC r a0 a1 a2 a3 a4 a5 a6 a7 y z)] (hH j0 j1 j2 j3) (AV.tup [AV.sw 4 1, AV.v (.int .i64 (kScO1 r a0 a1 a2 a3 a4 a5 a6 a7 y z j0 j1 j2 j3))]) [] [AObj.ints 0 true IntKind.u8 []] :=
  ACalls.nb (res := AV.tup [AV.sw 4 1, AV.v (.int .i64 (kScO1 r a0 a1 a2 a3 a4 a5 a6 a7 y z j0 j1 j2 j3))]) (.of_out [Orc.call [0, 1, 2, 3] (kScO3 r a0 a1 a2 a3 a4 a5 a6 a7 y z j0 j1 j2 j3) [] [], Orc.br true, Orc.fin (Gh.nil 2 1 (AObj.ints 0 true IntKind.u8 []))] [0, 1, 2, 3, 5] [ACalls Try.prog 14 [(cC r a0 a1 a2 a3 a4 a5 a6 a7 y z)] (hH j0 j1 j2 j3) (kScO3 r a0 a1 a2 a3 a4 a5 a6 a7 y z j0 j1 j2 j3) [] [], isB (ine (kScO1 r a0 a1 a2 a3 a4 a5 a6 a7 y z j0 j1 j2 j3) 0) true] Try.func8 (by kernel_rfl) (by kernel_rfl) (.cons (by apply g14) (.cons d0 .nil)))
theorem f8_2 (j0 : List (El FF)) (j1 j2 j3 : List Int) (r a0 a1 a2 a3 a4 a5 a6 a7 y z : Int) (v0f : Nat) (v0o0 : List Int) (v1f : Nat) (v1o0 : List Int)  (d0 : (ine (kScO1 r a0 a1 a2 a3 a4 a5 a6 a7 y z j0 j1 j2 j3) 0) = false) (v0h0 : ((ine (kScO1 r a0 a1 a2 a3 a4 a5 a6 a7 y z j0 j1 j2 j3) 0) = false) → L8aL j0 j1 j2 j3 r a0 a1 a2 a3 a4 a5 a6 a7 y z v0f (nlen (lenR FF j0)) (76 :: 69 :: 65 :: 84 :: vb (icv .u64 (nlen (lenR FF j0)))) 0 = some v0o0) (v1h0 : ((ine (kScO1 r a0 a1 a2 a3 a4 a5 a6 a7 y z j0 j1 j2 j3) 0) = false) → L8bL j0 j1 j2 j3 r a0 a1 a2 a3 a4 a5 a6 a7 y z v1f (nlen (lenI j3)) (((kScO2 v0o0 r a0 a1 a2 a3 a4 a5 a6 a7 j2).append (zb j2)).append (vb (icv .u64 (nlen (lenI j3))))) 0 = some v1o0) (s0 : ((ine (kScO1 r a0 a1 a2 a3 a4 a5 a6 a7 y z j0 j1 j2 j3) 0) = false) → u64B (icv .u64 (nlen (lenR FF j0))) = true) (s1 : ((ine (kScO1 r a0 a1 a2 a3 a4 a5 a6 a7 y z j0 j1 j2 j3) 0) = false) → okZ v0o0 [r, a0, a1, a2, a3, a4, a5, a6, a7] = true) (s2 : ((ine (kScO1 r a0 a1 a2 a3 a4 a5 a6 a7 y z j0 j1 j2 j3) 0) = false) → u64B (icv .u64 (nlen (lenI j2))) = true) (s3 : ((ine (kScO1 r a0 a1 a2 a3 a4 a5 a6 a7 y z j0 j1 j2 j3) 0) = false) → (v0o0.append (zb [r, a0, a1, a2, a3, a4, a5, a6, a7])).length ≤ 50000) (s4 : ((ine (kScO1 r a0 a1 a2 a3 a4 a5 a6 a7 y z j0 j1 j2 j3) 0) = false) → okZ (kScO2 v0o0 r a0 a1 a2 a3 a4 a5 a6 a7 j2) j2 = true) (s5 : ((ine (kScO1 r a0 a1 a2 a3 a4 a5 a6 a7 y z j0 j1 j2 j3) 0) = false) → u64B (icv .u64 (nlen (lenI j3))) = true) (s6 : ((ine (kScO1 r a0 a1 a2 a3 a4 a5 a6 a7 y z j0 j1 j2 j3) 0) = false) → ((kScO2 v0o0 r a0 a1 a2 a3 a4 a5 a6 a7 j2).append (zb j2)).length ≤ 50000) (s7 : ((ine (kScO1 r a0 a1 a2 a3 a4 a5 a6 a7 y z j0 j1 j2 j3) 0) = false) → u64B (icv .u64 y) = true) (s8 : ((ine (kScO1 r a0 a1 a2 a3 a4 a5 a6 a7 y z j0 j1 j2 j3) 0) = false) → v1o0.length ≤ 50000) (s9 : ((ine (kScO1 r a0 a1 a2 a3 a4 a5 a6 a7 y z j0 j1 j2 j3) 0) = false) → okZ (v1o0.append (vb (icv .u64 y))) [z] = true) : ACalls Try.prog 8 [(cC r a0 a1 a2 a3 a4 a5 a6 a7 y z)] (hH j0 j1 j2 j3) (AV.tup [AV.sw 4 1, AV.v (.int .i64 0)]) [] [AObj.ints 0 true IntKind.u8 ((v1o0.append (vb (icv .u64 y))).append (zb [z]))] :=
  ACalls.nb (res := AV.tup [AV.sw 4 1, AV.v (.int .i64 0)]) (.of_out [Orc.call [0, 1, 2, 3] (kScO3 r a0 a1 a2 a3 a4 a5 a6 a7 y z j0 j1 j2 j3) [] [], Orc.br false, Orc.call [5, 6] (AV.sw 2 1) [] [AObj.ints 0 true IntKind.u8 (76 :: 69 :: 65 :: 84 :: vb (icv .u64 (nlen (lenR FF j0))))], Orc.loop [1, 2, 3, 6, 29, 30, 31] [0, 1, 2, 3, 4, 7] (AExit.exit 0) (tg [(1, AV.ptr 4 0), (0, AV.v (Value.slice none 0 0)), (0, AV.v (.int .i64 0)), (2, AV.sw 5 1)] 125) [AObj.rows false FF j0, AObj.ints 0 false .i64 j1, AObj.ints 0 false .i64 j2, AObj.ints 0 false IntKind.u32 j3, AObj.cells 0 true [AV.sw 0 10, AV.sw 1 1, AV.v (.int .i64 r), AV.v (.int .i64 a0), AV.v (.int .i64 a1), AV.v (.int .i64 a2), AV.v (.int .i64 a3), AV.v (.int .i64 a4), AV.v (.int .i64 a5), AV.v (.int .i64 a6), AV.v (.int .i64 a7), AV.sw 2 1, AV.sw 3 1, AV.v (.int .i64 y), AV.v (.int .i64 z)], AObj.ints 0 true IntKind.u8 v0o0], Orc.call [5, 7] (AV.sw 2 1) [(0, AObj.dead)] [AObj.ints 0 true IntKind.u8 (v0o0.append (zb [r, a0, a1, a2, a3, a4, a5, a6, a7]))], Orc.call [8, 9] (AV.sw 2 1) [] [AObj.ints 0 true IntKind.u8 (kScO2 v0o0 r a0 a1 a2 a3 a4 a5 a6 a7 j2)], Orc.call [10, 2] (AV.sw 2 1) [(0, AObj.dead)] [AObj.ints 0 true IntKind.u8 ((kScO2 v0o0 r a0 a1 a2 a3 a4 a5 a6 a7 j2).append (zb j2))], Orc.call [11, 12] (AV.sw 2 1) [] [AObj.ints 0 true IntKind.u8 (((kScO2 v0o0 r a0 a1 a2 a3 a4 a5 a6 a7 j2).append (zb j2)).append (vb (icv .u64 (nlen (lenI j3)))))], Orc.loop [1, 2, 3, 6, 110, 111, 112] [0, 1, 2, 3, 4, 13] (AExit.exit 2) (tg [(1, AV.ptr 4 0), (0, AV.v (Value.slice none 0 0)), (0, AV.v (.int .i64 0)), (2, AV.sw 5 1)] 125) [AObj.rows false FF j0, AObj.ints 0 false .i64 j1, AObj.ints 0 false .i64 j2, AObj.ints 0 false IntKind.u32 j3, AObj.cells 0 true [AV.sw 0 10, AV.sw 1 1, AV.v (.int .i64 r), AV.v (.int .i64 a0), AV.v (.int .i64 a1), AV.v (.int .i64 a2), AV.v (.int .i64 a3), AV.v (.int .i64 a4), AV.v (.int .i64 a5), AV.v (.int .i64 a6), AV.v (.int .i64 a7), AV.sw 2 1, AV.sw 3 1, AV.v (.int .i64 y), AV.v (.int .i64 z)], AObj.ints 0 true IntKind.u8 v1o0], Orc.call [5, 6] (AV.sw 2 1) [] [AObj.ints 0 true IntKind.u8 (v1o0.append (vb (icv .u64 y)))], Orc.call [7, 8] (AV.sw 2 1) [(0, AObj.dead)] [AObj.ints 0 true IntKind.u8 ((v1o0.append (vb (icv .u64 y))).append (zb [z]))]] [0, 1, 2, 3, 9] [ACalls Try.prog 14 [(cC r a0 a1 a2 a3 a4 a5 a6 a7 y z)] (hH j0 j1 j2 j3) (kScO3 r a0 a1 a2 a3 a4 a5 a6 a7 y z j0 j1 j2 j3) [] [], isB (ine (kScO1 r a0 a1 a2 a3 a4 a5 a6 a7 y z j0 j1 j2 j3) 0) false, ACalls Try.prog 15 [AV.sw 0 1, AV.sw 1 1] [AObj.ints 0 false IntKind.u8 [76, 69, 65, 84], AObj.ints 0 true .u64 [icv .u64 (nlen (lenR FF j0))]] (AV.sw 2 1) [] [AObj.ints 0 true IntKind.u8 (76 :: 69 :: 65 :: 84 :: vb (icv .u64 (nlen (lenR FF j0))))], _, ACalls Try.prog 16 [AV.sw 0 1, AV.sw 1 1] [AObj.ints 0 true IntKind.u8 v0o0, AObj.ints 0 true .i64 [r, a0, a1, a2, a3, a4, a5, a6, a7]] (AV.sw 2 1) [(0, AObj.dead)] [AObj.ints 0 true IntKind.u8 (v0o0.append (zb [r, a0, a1, a2, a3, a4, a5, a6, a7]))], Mixed Try.prog, ACalls Try.prog 15 [AV.sw 0 1, AV.sw 1 1] [AObj.ints 0 true IntKind.u8 (v0o0.append (zb [r, a0, a1, a2, a3, a4, a5, a6, a7])), AObj.ints 0 true .u64 [icv .u64 (nlen (lenI j2))]] (AV.sw 2 1) [] [AObj.ints 0 true IntKind.u8 (kScO2 v0o0 r a0 a1 a2 a3 a4 a5 a6 a7 j2)], ACalls Try.prog 16 [AV.sw 0 1, AV.sw 1 1] [AObj.ints 0 true IntKind.u8 (kScO2 v0o0 r a0 a1 a2 a3 a4 a5 a6 a7 j2), AObj.ints 0 false .i64 j2] (AV.sw 2 1) [(0, AObj.dead)] [AObj.ints 0 true IntKind.u8 ((kScO2 v0o0 r a0 a1 a2 a3 a4 a5 a6 a7 j2).append (zb j2))], ACalls Try.prog 15 [AV.sw 0 1, AV.sw 1 1] [AObj.ints 0 true IntKind.u8 ((kScO2 v0o0 r a0 a1 a2 a3 a4 a5 a6 a7 j2).append (zb j2)), AObj.ints 0 true .u64 [icv .u64 (nlen (lenI j3))]] (AV.sw 2 1) [] [AObj.ints 0 true IntKind.u8 (((kScO2 v0o0 r a0 a1 a2 a3 a4 a5 a6 a7 j2).append (zb j2)).append (vb (icv .u64 (nlen (lenI j3)))))], _, Mixed Try.prog, ACalls Try.prog 15 [AV.sw 0 1, AV.sw 1 1] [AObj.ints 0 true IntKind.u8 v1o0, AObj.ints 0 true .u64 [icv .u64 y]] (AV.sw 2 1) [] [AObj.ints 0 true IntKind.u8 (v1o0.append (vb (icv .u64 y)))], ACalls Try.prog 16 [AV.sw 0 1, AV.sw 1 1] [AObj.ints 0 true IntKind.u8 (v1o0.append (vb (icv .u64 y))), AObj.ints 0 true .i64 [z]] (AV.sw 2 1) [(0, AObj.dead)] [AObj.ints 0 true IntKind.u8 ((v1o0.append (vb (icv .u64 y))).append (zb [z]))]] Try.func8 (by kernel_rfl) (by kernel_rfl) (.cons (by apply g14) (.cons d0 (.cons (by apply Go.Proofs.Ytlmnohdgfjienaa.Code.g15a <;> (first | exact (s0 d0) | (simp [nz, nn, inB, ltN]; done) | decide)) (.cons (L8a _ _ _ _ _ _ _ _ _ _ _ _ _ _ _ _ _ _ _ _ (v0h0 d0)) (.cons (by apply g16 <;> (first | exact (s1 d0))) (.cons (by show _ = _; kernel_rfl) (.cons (by apply Go.Proofs.Ytlmnohdgfjienaa.Code.g15a <;> (first | exact (s2 d0) | exact (s3 d0))) (.cons (by apply g16 <;> (first | exact (s4 d0))) (.cons (by apply Go.Proofs.Ytlmnohdgfjienaa.Code.g15a <;> (first | exact (s5 d0) | exact (s6 d0))) (.cons (L8b _ _ _ _ _ _ _ _ _ _ _ _ _ _ _ _ _ _ _ _ (v1h0 d0)) (.cons (by show _ = _; kernel_rfl) (.cons (by apply Go.Proofs.Ytlmnohdgfjienaa.Code.g15a <;> (first | exact (s7 d0) | exact (s8 d0))) (.cons (by apply g16 <;> (first | exact (s9 d0))) .nil))))))))))))))
theorem f8 (j0 : List (El FF)) (j1 j2 j3 : List Int) (r a0 a1 a2 a3 a4 a5 a6 a7 y z : Int) (v0f : Nat) (v0o0 : List Int) (v1f : Nat) (v1o0 : List Int) (v0h0 : ((ine (ckE r a0 a1 a2 a3 a4 a5 a6 a7 y z (lenR FF j0) (lenI j1) (lenI j2) (lenI j3) (fb j0 j1) (pix j2)) 0) = false) → L8aL j0 j1 j2 j3 r a0 a1 a2 a3 a4 a5 a6 a7 y z v0f (nlen (lenR FF j0)) (76 :: 69 :: 65 :: 84 :: vb (icv .u64 (nlen (lenR FF j0)))) 0 = some v0o0) (v1h0 : ((ine (ckE r a0 a1 a2 a3 a4 a5 a6 a7 y z (lenR FF j0) (lenI j1) (lenI j2) (lenI j3) (fb j0 j1) (pix j2)) 0) = false) → L8bL j0 j1 j2 j3 r a0 a1 a2 a3 a4 a5 a6 a7 y z v1f (nlen (lenI j3)) ((((v0o0.append (zb [r, a0, a1, a2, a3, a4, a5, a6, a7])).append (vb (icv .u64 (nlen (lenI j2))))).append (zb j2)).append (vb (icv .u64 (nlen (lenI j3))))) 0 = some v1o0) (s0 : ((ine (ckE r a0 a1 a2 a3 a4 a5 a6 a7 y z (lenR FF j0) (lenI j1) (lenI j2) (lenI j3) (fb j0 j1) (pix j2)) 0) = false) → u64B (icv .u64 (nlen (lenR FF j0))) = true) (s1 : ((ine (ckE r a0 a1 a2 a3 a4 a5 a6 a7 y z (lenR FF j0) (lenI j1) (lenI j2) (lenI j3) (fb j0 j1) (pix j2)) 0) = false) → okZ v0o0 [r, a0, a1, a2, a3, a4, a5, a6, a7] = true) (s2 : ((ine (ckE r a0 a1 a2 a3 a4 a5 a6 a7 y z (lenR FF j0) (lenI j1) (lenI j2) (lenI j3) (fb j0 j1) (pix j2)) 0) = false) → u64B (icv .u64 (nlen (lenI j2))) = true) (s3 : ((ine (ckE r a0 a1 a2 a3 a4 a5 a6 a7 y z (lenR FF j0) (lenI j1) (lenI j2) (lenI j3) (fb j0 j1) (pix j2)) 0) = false) → (v0o0.append (zb [r, a0, a1, a2, a3, a4, a5, a6, a7])).length ≤ 50000) (s4 : ((ine (ckE r a0 a1 a2 a3 a4 a5 a6 a7 y z (lenR FF j0) (lenI j1) (lenI j2) (lenI j3) (fb j0 j1) (pix j2)) 0) = false) → okZ ((v0o0.append (zb [r, a0, a1, a2, a3, a4, a5, a6, a7])).append (vb (icv .u64 (nlen (lenI j2))))) j2 = true) (s5 : ((ine (ckE r a0 a1 a2 a3 a4 a5 a6 a7 y z (lenR FF j0) (lenI j1) (lenI j2) (lenI j3) (fb j0 j1) (pix j2)) 0) = false) → u64B (icv .u64 (nlen (lenI j3))) = true) (s6 : ((ine (ckE r a0 a1 a2 a3 a4 a5 a6 a7 y z (lenR FF j0) (lenI j1) (lenI j2) (lenI j3) (fb j0 j1) (pix j2)) 0) = false) → (((v0o0.append (zb [r, a0, a1, a2, a3, a4, a5, a6, a7])).append (vb (icv .u64 (nlen (lenI j2))))).append (zb j2)).length ≤ 50000) (s7 : ((ine (ckE r a0 a1 a2 a3 a4 a5 a6 a7 y z (lenR FF j0) (lenI j1) (lenI j2) (lenI j3) (fb j0 j1) (pix j2)) 0) = false) → u64B (icv .u64 y) = true) (s8 : ((ine (ckE r a0 a1 a2 a3 a4 a5 a6 a7 y z (lenR FF j0) (lenI j1) (lenI j2) (lenI j3) (fb j0 j1) (pix j2)) 0) = false) → v1o0.length ≤ 50000) (s9 : ((ine (ckE r a0 a1 a2 a3 a4 a5 a6 a7 y z (lenR FF j0) (lenI j1) (lenI j2) (lenI j3) (fb j0 j1) (pix j2)) 0) = false) → okZ (v1o0.append (vb (icv .u64 y))) [z] = true) : ACalls Try.prog 8 [(cC r a0 a1 a2 a3 a4 a5 a6 a7 y z)] (hH j0 j1 j2 j3) (AV.tup [AV.sw 4 1, AV.v (.int .i64 (f8r0 j0 j1 j2 j3 r a0 a1 a2 a3 a4 a5 a6 a7 y z v0f v0o0 v1f v1o0))]) [] [AObj.ints 0 true IntKind.u8 (f8r1 j0 j1 j2 j3 r a0 a1 a2 a3 a4 a5 a6 a7 y z v0f v0o0 v1f v1o0)] := by
  have h := (ACalls.cond (ine (ckE r a0 a1 a2 a3 a4 a5 a6 a7 y z (lenR FF j0) (lenI j1) (lenI j2) (lenI j3) (fb j0 j1) (pix j2)) 0) (fun d0 => (f8_1 j0 j1 j2 j3 r a0 a1 a2 a3 a4 a5 a6 a7 y z d0)) (fun d0 => (f8_2 j0 j1 j2 j3 r a0 a1 a2 a3 a4 a5 a6 a7 y z v0f v0o0 v1f v1o0 d0 v0h0 v1h0 s0 s1 s2 s3 s4 s5 s6 s7 s8 s9)))
  simp only [c_int, c_bool, c_str, c_agg, c_tup, c_fn, c_ifc, c_sl, c_pe, c_ptr, c_rows, c_siter, c_consA, c_consU, c_consO, c_cells, c_ints, c_bools, c_strs, c_same] at h
  exact h
end Go.Proofs.Ytlmnohdgfjienaa.Cf

set_option maxRecDepth 100000
set_option linter.all false
set_option maxHeartbeats 0
set_option linter.unusedSimpArgs false
set_option linter.unusedVariables false
namespace Go.Proofs.Ytlmnohdgfjienaa.Cf
open Go.Abs Go.Proofs.Ytlmnohdgfjienaa.Code Go.Proofs.Ytlmnohdgfjienaa.Code
@[reducible] def kScP0 (y5 : List Int) (j0 : List (El FF)) (x7 : Int) (j1 : List Int) := ((y5.append (vb (icv .u64 (getR FF j0 (idxN 0 x7)).1))).append (zb [(getR FF j0 (idxN 0 x7)).snd.1, (getR FF j0 (idxN 0 x7)).snd.snd.1, (getR FF j0 (idxN 0 x7)).snd.snd.snd.1, (getR FF j0 (idxN 0 x7)).snd.snd.snd.snd.1, (getR FF j0 (idxN 0 x7)).snd.snd.snd.snd.snd.1, (getR FF j0 (idxN 0 x7)).snd.snd.snd.snd.snd.snd.1, (getR FF j0 (idxN 0 x7)).snd.snd.snd.snd.snd.snd.snd.1, (getR FF j0 (idxN 0 x7)).snd.snd.snd.snd.snd.snd.snd.snd.1, (getR FF j0 (idxN 0 x7)).snd.snd.snd.snd.snd.snd.snd.snd.2, getI j1 (idxN 0 x7)]))
@[reducible] def kScP1 (r : Int) (a0 : Int) (a1 : Int) (a2 : Int) (a3 : Int) (a4 : Int) (a5 : Int) (a6 : Int) (a7 : Int) (y : Int) (z : Int) (j0 : List (El FF)) (j1 : List Int) (j2 : List Int) (j3 : List Int) := (ckE r a0 a1 a2 a3 a4 a5 a6 a7 y z (lenR FF j0) (lenI j1) (lenI j2) (lenI j3) (fb j0 j1) (pix j2))
@[reducible] def kScP2 (j0 : List (El FF)) (x7 : Int) := (getR FF j0 (idxN 0 x7))
@[reducible] def kScP3 (v0o0 : List Int) (r : Int) (a0 : Int) (a1 : Int) (a2 : Int) (a3 : Int) (a4 : Int) (a5 : Int) (a6 : Int) (a7 : Int) (j2 : List Int) := ((v0o0.append (zb [r, a0, a1, a2, a3, a4, a5, a6, a7])).append (vb (icv .u64 (nlen (lenI j2)))))
@[reducible] def kScP4 (j0 : List (El FF)) (x7 : Int) (j1 : List Int) := [AObj.ints 0 true .i64 [(kScP2 j0 x7).snd.1, (kScP2 j0 x7).snd.snd.1, (kScP2 j0 x7).snd.snd.snd.1, (kScP2 j0 x7).snd.snd.snd.snd.1, (kScP2 j0 x7).snd.snd.snd.snd.snd.1, (kScP2 j0 x7).snd.snd.snd.snd.snd.snd.1, (kScP2 j0 x7).snd.snd.snd.snd.snd.snd.snd.1, (kScP2 j0 x7).snd.snd.snd.snd.snd.snd.snd.snd.1, (kScP2 j0 x7).snd.snd.snd.snd.snd.snd.snd.snd.2, getI j1 (idxN 0 x7)]]
@[reducible] def kScP5 (r : Int) (a0 : Int) (a1 : Int) (a2 : Int) (a3 : Int) (a4 : Int) (a5 : Int) (a6 : Int) (a7 : Int) (y : Int) (z : Int) (j0 : List (El FF)) (j1 : List Int) (j2 : List Int) (j3 : List Int) := (AV.tup [AV.v (.int .i64 (kScP1 r a0 a1 a2 a3 a4 a5 a6 a7 y z j0 j1 j2 j3)), AV.v (.int .i64 (ckK r a0 a1 a2 a3 a4 a5 a6 a7 y z (lenR FF j0) (lenI j1) (lenI j2) (lenI j3) (fb j0 j1) (pix j2)))])
def L9aS (j0 : List (El FF)) (j1 j2 j3 : List Int) (r a0 a1 a2 a3 a4 a5 a6 a7 y z : Int) (y5 : List Int) (x7 : Int) : Tm := (tg [(1, AV.ptr 4 0), (0, AV.v (Value.slice none 0 0)), (0, AV.v (.int .i64 0)), (2, AV.sw 5 1), (0, AV.v (.int .i64 x7))] 108)
def L9aH (j0 : List (El FF)) (j1 j2 j3 : List Int) (r a0 a1 a2 a3 a4 a5 a6 a7 y z : Int) (y5 : List Int) (x7 : Int) : List AObj := [AObj.rows false FF j0, AObj.ints 0 false .i64 j1, AObj.ints 0 false .i64 j2, AObj.ints 0 false IntKind.u32 j3, AObj.cells 0 true [AV.sw 0 10, AV.sw 1 1, AV.v (.int .i64 r), AV.v (.int .i64 a0), AV.v (.int .i64 a1), AV.v (.int .i64 a2), AV.v (.int .i64 a3), AV.v (.int .i64 a4), AV.v (.int .i64 a5), AV.v (.int .i64 a6), AV.v (.int .i64 a7), AV.sw 2 1, AV.sw 3 1, AV.v (.int .i64 y), AV.v (.int .i64 z)], AObj.ints 0 true IntKind.u8 y5]
def L9aT (j0 : List (El FF)) (j1 j2 j3 : List Int) (r a0 a1 a2 a3 a4 a5 a6 a7 y z : Int) (o0 : List Int) : Tm := (tg [(1, AV.ptr 4 0), (0, AV.v (Value.slice none 0 0)), (0, AV.v (.int .i64 0)), (2, AV.sw 5 1)] 109)
def L9aU (j0 : List (El FF)) (j1 j2 j3 : List Int) (r a0 a1 a2 a3 a4 a5 a6 a7 y z : Int) (o0 : List Int) : List AObj := [AObj.rows false FF j0, AObj.ints 0 false .i64 j1, AObj.ints 0 false .i64 j2, AObj.ints 0 false IntKind.u32 j3, AObj.cells 0 true [AV.sw 0 10, AV.sw 1 1, AV.v (.int .i64 r), AV.v (.int .i64 a0), AV.v (.int .i64 a1), AV.v (.int .i64 a2), AV.v (.int .i64 a3), AV.v (.int .i64 a4), AV.v (.int .i64 a5), AV.v (.int .i64 a6), AV.v (.int .i64 a7), AV.sw 2 1, AV.sw 3 1, AV.v (.int .i64 y), AV.v (.int .i64 z)], AObj.ints 0 true IntKind.u8 o0]
theorem L9a_1 (j0 : List (El FF)) (j1 j2 j3 : List Int) (r a0 a1 a2 a3 a4 a5 a6 a7 y z : Int) (y5 : List Int) (x7 : Int)  (d0 : (ilt x7 (nlen (lenR FF j0))) = true) (s0 : inB x7 (lenR FF j0)) (s1 : ltN (idxN 0 x7) (lenR FF j0)) (s2 : u64B (icv .u64 (kScP2 j0 x7).1) = true) (s3 : y5.length ≤ 50000) (s4 : inB x7 (lenI j1)) (s5 : ltN (idxN 0 x7) (lenI j1)) (s6 : okZ (y5.append (vb (icv .u64 (kScP2 j0 x7).1))) [(kScP2 j0 x7).snd.1, (kScP2 j0 x7).snd.snd.1, (kScP2 j0 x7).snd.snd.snd.1, (kScP2 j0 x7).snd.snd.snd.snd.1, (kScP2 j0 x7).snd.snd.snd.snd.snd.1, (kScP2 j0 x7).snd.snd.snd.snd.snd.snd.1, (kScP2 j0 x7).snd.snd.snd.snd.snd.snd.snd.1, (kScP2 j0 x7).snd.snd.snd.snd.snd.snd.snd.snd.1, (kScP2 j0 x7).snd.snd.snd.snd.snd.snd.snd.snd.2, getI j1 (idxN 0 x7)] = true) {e : AExit} {tm2 : Tm} {h2 : List AObj} (b : ARun Try.prog 4 (.loop (lp Try.f9 0)) (L9aS j0 j1 j2 j3 r a0 a1 a2 a3 a4 a5 a6 a7 y z  (kScP0 y5 j0 x7 j1) (iadd .i64 x7 1)) (L9aH j0 j1 j2 j3 r a0 a1 a2 a3 a4 a5 a6 a7 y z  (kScP0 y5 j0 x7 j1) (iadd .i64 x7 1)) e tm2 h2) : ARun Try.prog 4 (.loop (lp Try.f9 0)) (L9aS j0 j1 j2 j3 r a0 a1 a2 a3 a4 a5 a6 a7 y z  y5 x7) (L9aH j0 j1 j2 j3 r a0 a1 a2 a3 a4 a5 a6 a7 y z  y5 x7) e tm2 h2 :=
  .round [Orc.br true, Orc.call [5] (AV.sw 1 1) [] [AObj.ints 0 true IntKind.u8 (y5.append (vb (icv .u64 (kScP2 j0 x7).1)))], Orc.call [] (AV.sw 0 1) [] (kScP4 j0 x7 j1), Orc.call [6, 7] (AV.sw 2 1) [(0, AObj.dead)] [AObj.ints 0 true IntKind.u8 (kScP0 y5 j0 x7 j1)]] [1, 2, 3, 6, 7] [0, 1, 2, 3, 4, 8] [isB (ilt x7 (nlen (lenR FF j0))) true, inB x7 (lenR FF j0), ltN (idxN 0 x7) (lenR FF j0), ACalls Try.prog 18 [AV.sw 0 1, AV.v (.int .u64 (icv .u64 (kScP2 j0 x7).1))] [AObj.ints 0 true IntKind.u8 y5] (AV.sw 1 1) [] [AObj.ints 0 true IntKind.u8 (y5.append (vb (icv .u64 (kScP2 j0 x7).1)))], Mixed Try.prog, inB x7 (lenR FF j0), ltN (idxN 0 x7) (lenR FF j0), inB x7 (lenI j1), ltN (idxN 0 x7) (lenI j1), ACalls Try.prog 20 [AV.agg [AV.v (.int .i64 (kScP2 j0 x7).1), AV.v (.int .i64 (kScP2 j0 x7).snd.1), AV.v (.int .i64 (kScP2 j0 x7).snd.snd.1), AV.v (.int .i64 (kScP2 j0 x7).snd.snd.snd.1), AV.v (.int .i64 (kScP2 j0 x7).snd.snd.snd.snd.1), AV.v (.int .i64 (kScP2 j0 x7).snd.snd.snd.snd.snd.1), AV.v (.int .i64 (kScP2 j0 x7).snd.snd.snd.snd.snd.snd.1), AV.v (.int .i64 (kScP2 j0 x7).snd.snd.snd.snd.snd.snd.snd.1), AV.v (.int .i64 (kScP2 j0 x7).snd.snd.snd.snd.snd.snd.snd.snd.1), AV.v (.int .i64 (kScP2 j0 x7).snd.snd.snd.snd.snd.snd.snd.snd.2)], AV.v (.int .i64 (getI j1 (idxN 0 x7)))] [] (AV.sw 0 1) [] (kScP4 j0 x7 j1), ACalls Try.prog 19 [AV.sw 0 1, AV.sw 1 1] [AObj.ints 0 true IntKind.u8 (y5.append (vb (icv .u64 (kScP2 j0 x7).1))), AObj.ints 0 true .i64 [(kScP2 j0 x7).snd.1, (kScP2 j0 x7).snd.snd.1, (kScP2 j0 x7).snd.snd.snd.1, (kScP2 j0 x7).snd.snd.snd.snd.1, (kScP2 j0 x7).snd.snd.snd.snd.snd.1, (kScP2 j0 x7).snd.snd.snd.snd.snd.snd.1, (kScP2 j0 x7).snd.snd.snd.snd.snd.snd.snd.1, (kScP2 j0 x7).snd.snd.snd.snd.snd.snd.snd.snd.1, (kScP2 j0 x7).snd.snd.snd.snd.snd.snd.snd.snd.2, getI j1 (idxN 0 x7)]] (AV.sw 2 1) [(0, AObj.dead)] [AObj.ints 0 true IntKind.u8 (kScP0 y5 j0 x7 j1)]] (by kernel_rfl) (.cons d0 (.cons (s0) (.cons (s1) (.cons (by apply Go.Proofs.Ytlmnohdgfjienaa.Code.g18 <;> (first | exact (s2) | exact (s3))) (.cons (by show _ = _; kernel_rfl) (.cons (s0) (.cons (s1) (.cons (s4) (.cons (s5) (.cons (by apply f20) (.cons (by apply g19 <;> (first | exact (s6))) .nil))))))))))) b
theorem L9a_2 (j0 : List (El FF)) (j1 j2 j3 : List Int) (r a0 a1 a2 a3 a4 a5 a6 a7 y z : Int) (y5 : List Int) (x7 : Int)  (d0 : (ilt x7 (nlen (lenR FF j0))) = false) : ARun Try.prog 4 (.loop (lp Try.f9 0)) (L9aS j0 j1 j2 j3 r a0 a1 a2 a3 a4 a5 a6 a7 y z  y5 x7) (L9aH j0 j1 j2 j3 r a0 a1 a2 a3 a4 a5 a6 a7 y z  y5 x7) (AExit.exit 0) (L9aT j0 j1 j2 j3 r a0 a1 a2 a3 a4 a5 a6 a7 y z  (y5)) (L9aU j0 j1 j2 j3 r a0 a1 a2 a3 a4 a5 a6 a7 y z  (y5)) :=
  .last [Orc.br false] [1, 2, 3, 6, 8, 9, 95] [0, 1, 2, 3, 4, 5] [isB (ilt x7 (nlen (lenR FF j0))) false] (by kernel_rfl) (.cons d0 .nil)
def L9aL (j0 : List (El FF)) (j1 j2 j3 : List Int) (r a0 a1 a2 a3 a4 a5 a6 a7 y z : Int) : Nat → List Int → Int → Option (List Int)
  | 0, _, _ => none
  | fuel + 1, y5, x7 => (bif ilt x7 (nlen (lenR FF j0)) then bif decide (inB x7 (lenR FF j0)) then bif decide (ltN (idxN 0 x7) (lenR FF j0)) then bif decide (u64B (icv .u64 (getR FF j0 (idxN 0 x7)).1) = true) then bif decide (y5.length ≤ 50000) then bif decide (inB x7 (lenI j1)) then bif decide (ltN (idxN 0 x7) (lenI j1)) then bif decide (okZ (y5.append (vb (icv .u64 (getR FF j0 (idxN 0 x7)).1))) [(getR FF j0 (idxN 0 x7)).snd.1, (getR FF j0 (idxN 0 x7)).snd.snd.1, (getR FF j0 (idxN 0 x7)).snd.snd.snd.1, (getR FF j0 (idxN 0 x7)).snd.snd.snd.snd.1, (getR FF j0 (idxN 0 x7)).snd.snd.snd.snd.snd.1, (getR FF j0 (idxN 0 x7)).snd.snd.snd.snd.snd.snd.1, (getR FF j0 (idxN 0 x7)).snd.snd.snd.snd.snd.snd.snd.1, (getR FF j0 (idxN 0 x7)).snd.snd.snd.snd.snd.snd.snd.snd.1, (getR FF j0 (idxN 0 x7)).snd.snd.snd.snd.snd.snd.snd.snd.2, getI j1 (idxN 0 x7)] = true) then L9aL j0 j1 j2 j3 r a0 a1 a2 a3 a4 a5 a6 a7 y z  fuel ((y5.append (vb (icv .u64 (getR FF j0 (idxN 0 x7)).1))).append (zb [(getR FF j0 (idxN 0 x7)).snd.1, (getR FF j0 (idxN 0 x7)).snd.snd.1, (getR FF j0 (idxN 0 x7)).snd.snd.snd.1, (getR FF j0 (idxN 0 x7)).snd.snd.snd.snd.1, (getR FF j0 (idxN 0 x7)).snd.snd.snd.snd.snd.1, (getR FF j0 (idxN 0 x7)).snd.snd.snd.snd.snd.snd.1, (getR FF j0 (idxN 0 x7)).snd.snd.snd.snd.snd.snd.snd.1, (getR FF j0 (idxN 0 x7)).snd.snd.snd.snd.snd.snd.snd.snd.1, (getR FF j0 (idxN 0 x7)).snd.snd.snd.snd.snd.snd.snd.snd.2, getI j1 (idxN 0 x7)])) (iadd .i64 x7 1) else none else none else none else none else none else none else none else some (y5))
theorem L9a (j0 : List (El FF)) (j1 j2 j3 : List Int) (r a0 a1 a2 a3 a4 a5 a6 a7 y z : Int) : ∀ (fuel : Nat) (y5 : List Int) (x7 : Int) (o0 : List Int) (_ : L9aL j0 j1 j2 j3 r a0 a1 a2 a3 a4 a5 a6 a7 y z  fuel  y5 x7 = some (o0)), ARun Try.prog 4 (.loop (lp Try.f9 0)) (L9aS j0 j1 j2 j3 r a0 a1 a2 a3 a4 a5 a6 a7 y z  y5 x7) (L9aH j0 j1 j2 j3 r a0 a1 a2 a3 a4 a5 a6 a7 y z  y5 x7) (AExit.exit 0) (L9aT j0 j1 j2 j3 r a0 a1 a2 a3 a4 a5 a6 a7 y z  o0) (L9aU j0 j1 j2 j3 r a0 a1 a2 a3 a4 a5 a6 a7 y z  o0)
  | 0, _, _, _, h => by simp [L9aL] at h
  | fuel + 1, y5, x7, o0, h => by
    simp only [L9aL] at h
    exact (splitB h (fun d0 h => (chk h (fun s0 h => chk h (fun s1 h => chk h (fun s2 h => chk h (fun s3 h => chk h (fun s4 h => chk h (fun s5 h => chk h (fun s6 h => L9a_1 j0 j1 j2 j3 r a0 a1 a2 a3 a4 a5 a6 a7 y z  y5 x7 d0 s0 s1 s2 s3 s4 s5 s6 (L9a j0 j1 j2 j3 r a0 a1 a2 a3 a4 a5 a6 a7 y z  fuel ((y5.append (vb (icv .u64 (getR FF j0 (idxN 0 x7)).1))).append (zb [(getR FF j0 (idxN 0 x7)).snd.1, (getR FF j0 (idxN 0 x7)).snd.snd.1, (getR FF j0 (idxN 0 x7)).snd.snd.snd.1, (getR FF j0 (idxN 0 x7)).snd.snd.snd.snd.1, (getR FF j0 (idxN 0 x7)).snd.snd.snd.snd.snd.1, (getR FF j0 (idxN 0 x7)).snd.snd.snd.snd.snd.snd.1, (getR FF j0 (idxN 0 x7)).snd.snd.snd.snd.snd.snd.snd.1, (getR FF j0 (idxN 0 x7)).snd.snd.snd.snd.snd.snd.snd.snd.1, (getR FF j0 (idxN 0 x7)).snd.snd.snd.snd.snd.snd.snd.snd.2, getI j1 (idxN 0 x7)])) (iadd .i64 x7 1) o0 h)))))))))) (fun d0 h => ((by cases h; exact L9a_2 j0 j1 j2 j3 r a0 a1 a2 a3 a4 a5 a6 a7 y z  y5 x7 d0))))
def L9bS (j0 : List (El FF)) (j1 j2 j3 : List Int) (r a0 a1 a2 a3 a4 a5 a6 a7 y z : Int) (y5 : List Int) (x9 : Int) : Tm := (tg [(1, AV.ptr 4 0), (0, AV.v (Value.slice none 0 0)), (0, AV.v (.int .i64 0)), (2, AV.sw 5 1), (2, AV.v (.int .i64 x9))] 106)
def L9bH (j0 : List (El FF)) (j1 j2 j3 : List Int) (r a0 a1 a2 a3 a4 a5 a6 a7 y z : Int) (y5 : List Int) (x9 : Int) : List AObj := [AObj.rows false FF j0, AObj.ints 0 false .i64 j1, AObj.ints 0 false .i64 j2, AObj.ints 0 false IntKind.u32 j3, AObj.cells 0 true [AV.sw 0 10, AV.sw 1 1, AV.v (.int .i64 r), AV.v (.int .i64 a0), AV.v (.int .i64 a1), AV.v (.int .i64 a2), AV.v (.int .i64 a3), AV.v (.int .i64 a4), AV.v (.int .i64 a5), AV.v (.int .i64 a6), AV.v (.int .i64 a7), AV.sw 2 1, AV.sw 3 1, AV.v (.int .i64 y), AV.v (.int .i64 z)], AObj.ints 0 true IntKind.u8 y5]
def L9bT (j0 : List (El FF)) (j1 j2 j3 : List Int) (r a0 a1 a2 a3 a4 a5 a6 a7 y z : Int) (o0 : List Int) : Tm := (tg [(1, AV.ptr 4 0), (0, AV.v (Value.slice none 0 0)), (0, AV.v (.int .i64 0)), (2, AV.sw 5 1)] 109)
def L9bU (j0 : List (El FF)) (j1 j2 j3 : List Int) (r a0 a1 a2 a3 a4 a5 a6 a7 y z : Int) (o0 : List Int) : List AObj := [AObj.rows false FF j0, AObj.ints 0 false .i64 j1, AObj.ints 0 false .i64 j2, AObj.ints 0 false IntKind.u32 j3, AObj.cells 0 true [AV.sw 0 10, AV.sw 1 1, AV.v (.int .i64 r), AV.v (.int .i64 a0), AV.v (.int .i64 a1), AV.v (.int .i64 a2), AV.v (.int .i64 a3), AV.v (.int .i64 a4), AV.v (.int .i64 a5), AV.v (.int .i64 a6), AV.v (.int .i64 a7), AV.sw 2 1, AV.sw 3 1, AV.v (.int .i64 y), AV.v (.int .i64 z)], AObj.ints 0 true IntKind.u8 o0]
theorem L9b_1 (j0 : List (El FF)) (j1 j2 j3 : List Int) (r a0 a1 a2 a3 a4 a5 a6 a7 y z : Int) (y5 : List Int) (x9 : Int)  (d0 : (ilt x9 (nlen (lenI j3))) = true) (s0 : inB x9 (lenI j3)) (s1 : ltN (idxN 0 x9) (lenI j3)) (s2 : u64B (icv .u64 (getI j3 (idxN 0 x9))) = true) (s3 : y5.length ≤ 50000) {e : AExit} {tm2 : Tm} {h2 : List AObj} (b : ARun Try.prog 4 (.loop (lp Try.f9 1)) (L9bS j0 j1 j2 j3 r a0 a1 a2 a3 a4 a5 a6 a7 y z  (y5.append (vb (icv .u64 (getI j3 (idxN 0 x9))))) (iadd .i64 x9 1)) (L9bH j0 j1 j2 j3 r a0 a1 a2 a3 a4 a5 a6 a7 y z  (y5.append (vb (icv .u64 (getI j3 (idxN 0 x9))))) (iadd .i64 x9 1)) e tm2 h2) : ARun Try.prog 4 (.loop (lp Try.f9 1)) (L9bS j0 j1 j2 j3 r a0 a1 a2 a3 a4 a5 a6 a7 y z  y5 x9) (L9bH j0 j1 j2 j3 r a0 a1 a2 a3 a4 a5 a6 a7 y z  y5 x9) e tm2 h2 :=
  .round [Orc.br true, Orc.call [5] (AV.sw 1 1) [] [AObj.ints 0 true IntKind.u8 (y5.append (vb (icv .u64 (getI j3 (idxN 0 x9)))))]] [1, 2, 3, 6, 9] [0, 1, 2, 3, 4, 6] [isB (ilt x9 (nlen (lenI j3))) true, inB x9 (lenI j3), ltN (idxN 0 x9) (lenI j3), ACalls Try.prog 18 [AV.sw 0 1, AV.v (.int .u64 (icv .u64 (getI j3 (idxN 0 x9))))] [AObj.ints 0 true IntKind.u8 y5] (AV.sw 1 1) [] [AObj.ints 0 true IntKind.u8 (y5.append (vb (icv .u64 (getI j3 (idxN 0 x9)))))]] (by kernel_rfl) (.cons d0 (.cons (s0) (.cons (s1) (.cons (by apply Go.Proofs.Ytlmnohdgfjienaa.Code.g18 <;> (first | exact (s2) | exact (s3))) .nil)))) b
theorem L9b_2 (j0 : List (El FF)) (j1 j2 j3 : List Int) (r a0 a1 a2 a3 a4 a5 a6 a7 y z : Int) (y5 : List Int) (x9 : Int)  (d0 : (ilt x9 (nlen (lenI j3))) = false) : ARun Try.prog 4 (.loop (lp Try.f9 1)) (L9bS j0 j1 j2 j3 r a0 a1 a2 a3 a4 a5 a6 a7 y z  y5 x9) (L9bH j0 j1 j2 j3 r a0 a1 a2 a3 a4 a5 a6 a7 y z  y5 x9) (AExit.exit 2) (L9bT j0 j1 j2 j3 r a0 a1 a2 a3 a4 a5 a6 a7 y z  (y5)) (L9bU j0 j1 j2 j3 r a0 a1 a2 a3 a4 a5 a6 a7 y z  (y5)) :=
  .last [Orc.br false] [1, 2, 3, 6] [0, 1, 2, 3, 4, 5] [isB (ilt x9 (nlen (lenI j3))) false] (by kernel_rfl) (.cons d0 .nil)
def L9bL (j0 : List (El FF)) (j1 j2 j3 : List Int) (r a0 a1 a2 a3 a4 a5 a6 a7 y z : Int) : Nat → List Int → Int → Option (List Int)
  | 0, _, _ => none
  | fuel + 1, y5, x9 => (bif ilt x9 (nlen (lenI j3)) then bif decide (inB x9 (lenI j3)) then bif decide (ltN (idxN 0 x9) (lenI j3)) then bif decide (u64B (icv .u64 (getI j3 (idxN 0 x9))) = true) then bif decide (y5.length ≤ 50000) then L9bL j0 j1 j2 j3 r a0 a1 a2 a3 a4 a5 a6 a7 y z  fuel (y5.append (vb (icv .u64 (getI j3 (idxN 0 x9))))) (iadd .i64 x9 1) else none else none else none else none else some (y5))
theorem L9b (j0 : List (El FF)) (j1 j2 j3 : List Int) (r a0 a1 a2 a3 a4 a5 a6 a7 y z : Int) : ∀ (fuel : Nat) (y5 : List Int) (x9 : Int) (o0 : List Int) (_ : L9bL j0 j1 j2 j3 r a0 a1 a2 a3 a4 a5 a6 a7 y z  fuel  y5 x9 = some (o0)), ARun Try.prog 4 (.loop (lp Try.f9 1)) (L9bS j0 j1 j2 j3 r a0 a1 a2 a3 a4 a5 a6 a7 y z  y5 x9) (L9bH j0 j1 j2 j3 r a0 a1 a2 a3 a4 a5 a6 a7 y z  y5 x9) (AExit.exit 2) (L9bT j0 j1 j2 j3 r a0 a1 a2 a3 a4 a5 a6 a7 y z  o0) (L9bU j0 j1 j2 j3 r a0 a1 a2 a3 a4 a5 a6 a7 y z  o0)
  | 0, _, _, _, h => by simp [L9bL] at h
  | fuel + 1, y5, x9, o0, h => by
    simp only [L9bL] at h
    exact (splitB h (fun d0 h => (chk h (fun s0 h => chk h (fun s1 h => chk h (fun s2 h => chk h (fun s3 h => L9b_1 j0 j1 j2 j3 r a0 a1 a2 a3 a4 a5 a6 a7 y z  y5 x9 d0 s0 s1 s2 s3 (L9b j0 j1 j2 j3 r a0 a1 a2 a3 a4 a5 a6 a7 y z  fuel (y5.append (vb (icv .u64 (getI j3 (idxN 0 x9))))) (iadd .i64 x9 1) o0 h))))))) (fun d0 h => ((by cases h; exact L9b_2 j0 j1 j2 j3 r a0 a1 a2 a3 a4 a5 a6 a7 y z  y5 x9 d0))))
def f9r0 (j0 : List (El FF)) (j1 j2 j3 : List Int) (r a0 a1 a2 a3 a4 a5 a6 a7 y z : Int) (v0f : Nat) (v0o0 : List Int) (v1f : Nat) (v1o0 : List Int) : Int := bif ine (ckE r a0 a1 a2 a3 a4 a5 a6 a7 y z (lenR FF j0) (lenI j1) (lenI j2) (lenI j3) (fb j0 j1) (pix j2)) 0 then ckE r a0 a1 a2 a3 a4 a5 a6 a7 y z (lenR FF j0) (lenI j1) (lenI j2) (lenI j3) (fb j0 j1) (pix j2) else 0
def f9r1 (j0 : List (El FF)) (j1 j2 j3 : List Int) (r a0 a1 a2 a3 a4 a5 a6 a7 y z : Int) (v0f : Nat) (v0o0 : List Int) (v1f : Nat) (v1o0 : List Int) : List Int := bif ine (ckE r a0 a1 a2 a3 a4 a5 a6 a7 y z (lenR FF j0) (lenI j1) (lenI j2) (lenI j3) (fb j0 j1) (pix j2)) 0 then [] else (v1o0.append (vb (icv .u64 y))).append (zb [z])
theorem f9_1 (j0 : List (El FF)) (j1 j2 j3 : List Int) (r a0 a1 a2 a3 a4 a5 a6 a7 y z : Int)  (d0 : (ine (kScP1 r a0 a1 a2 a3 a4 a5 a6 a7 y z j0 j1 j2 j3) 0) = true) : ACalls Try.prog 9 [(cC r a0 a1 a2 a3 a4 a5 a6 a7 y z)] (hH j0 j1 j2 j3) (AV.tup [AV.sw 4 1, AV.v (.int .i64 (kScP1 r a0 a1 a2 a3 a4 a5 a6 a7 y z j0 j1 j2 j3))]) [] [AObj.ints 0 true IntKind.u8 []] :=
  ACalls.nb (res := AV.tup [AV.sw 4 1, AV.v (.int .i64 (kScP1 r a0 a1 a2 a3 a4 a5 a6 a7 y z j0 j1 j2 j3))]) (.of_out [Orc.call [0, 1, 2, 3] (kScP5 r a0 a1 a2 a3 a4 a5 a6 a7 y z j0 j1 j2 j3) [] [], Orc.br true, Orc.fin (Gh.nil 2 1 (AObj.ints 0 true IntKind.u8 []))] [0, 1, 2, 3, 5] [ACalls Try.prog 17 [(cC r a0 a1 a2 a3 a4 a5 a6 a7 y z)] (hH j0 j1 j2 j3) (kScP5 r a0 a1 a2 a3 a4 a5 a6 a7 y z j0 j1 j2 j3) [] [], isB (ine (kScP1 r a0 a1 a2 a3 a4 a5 a6 a7 y z j0 j1 j2 j3) 0) true] Try.func9 (by kernel_rfl) (by kernel_rfl) (.cons (by apply g17) (.cons d0 .nil)))
theorem f9_2 (j0 : List (El FF)) (j1 j2 j3 : List Int) (r a0 a1 a2 a3 a4 a5 a6 a7 y z : Int) (v0f : Nat) (v0o0 : List Int) (v1f : Nat) (v1o0 : List Int)  (d0 : (ine (kScP1 r a0 a1 a2 a3 a4 a5 a6 a7 y z j0 j1 j2 j3) 0) = false) (v0h0 : ((ine (kScP1 r a0 a1 a2 a3 a4 a5 a6 a7 y z j0 j1 j2 j3) 0) = false) → L9aL j0 j1 j2 j3 r a0 a1 a2 a3 a4 a5 a6 a7 y z v0f (76 :: 69 :: 65 :: 84 :: vb (icv .u64 (nlen (lenR FF j0)))) 0 = some v0o0) (v1h0 : ((ine (kScP1 r a0 a1 a2 a3 a4 a5 a6 a7 y z j0 j1 j2 j3) 0) = false) → L9bL j0 j1 j2 j3 r a0 a1 a2 a3 a4 a5 a6 a7 y z v1f (((kScP3 v0o0 r a0 a1 a2 a3 a4 a5 a6 a7 j2).append (zb j2)).append (vb (icv .u64 (nlen (lenI j3))))) 0 = some v1o0) (s0 : ((ine (kScP1 r a0 a1 a2 a3 a4 a5 a6 a7 y z j0 j1 j2 j3) 0) = false) → u64B (icv .u64 (nlen (lenR FF j0))) = true) (s1 : ((ine (kScP1 r a0 a1 a2 a3 a4 a5 a6 a7 y z j0 j1 j2 j3) 0) = false) → okZ v0o0 [r, a0, a1, a2, a3, a4, a5, a6, a7] = true) (s2 : ((ine (kScP1 r a0 a1 a2 a3 a4 a5 a6 a7 y z j0 j1 j2 j3) 0) = false) → u64B (icv .u64 (nlen (lenI j2))) = true) (s3 : ((ine (kScP1 r a0 a1 a2 a3 a4 a5 a6 a7 y z j0 j1 j2 j3) 0) = false) → (v0o0.append (zb [r, a0, a1, a2, a3, a4, a5, a6, a7])).length ≤ 50000) (s4 : ((ine (kScP1 r a0 a1 a2 a3 a4 a5 a6 a7 y z j0 j1 j2 j3) 0) = false) → okZ (kScP3 v0o0 r a0 a1 a2 a3 a4 a5 a6 a7 j2) j2 = true) (s5 : ((ine (kScP1 r a0 a1 a2 a3 a4 a5 a6 a7 y z j0 j1 j2 j3) 0) = false) → u64B (icv .u64 (nlen (lenI j3))) = true) (s6 : ((ine (kScP1 r a0 a1 a2 a3 a4 a5 a6 a7 y z j0 j1 j2 j3) 0) = false) → ((kScP3 v0o0 r a0 a1 a2 a3 a4 a5 a6 a7 j2).append (zb j2)).length ≤ 50000) (s7 : ((ine (kScP1 r a0 a1 a2 a3 a4 a5 a6 a7 y z j0 j1 j2 j3) 0) = false) → u64B (icv .u64 y) = true) (s8 : ((ine (kScP1 r a0 a1 a2 a3 a4 a5 a6 a7 y z j0 j1 j2 j3) 0) = false) → v1o0.length ≤ 50000) (s9 : ((ine (kScP1 r a0 a1 a2 a3 a4 a5 a6 a7 y z j0 j1 j2 j3) 0) = false) → okZ (v1o0.append (vb (icv .u64 y))) [z] = true) : ACalls Try.prog 9 [(cC r a0 a1 a2 a3 a4 a5 a6 a7 y z)] (hH j0 j1 j2 j3) (AV.tup [AV.sw 4 1, AV.v (.int .i64 0)]) [] [AObj.ints 0 true IntKind.u8 ((v1o0.append (vb (icv .u64 y))).append (zb [z]))] :=
  ACalls.nb (res := AV.tup [AV.sw 4 1, AV.v (.int .i64 0)]) (.of_out [Orc.call [0, 1, 2, 3] (kScP5 r a0 a1 a2 a3 a4 a5 a6 a7 y z j0 j1 j2 j3) [] [], Orc.br false, Orc.call [5] (AV.sw 1 1) [] [AObj.ints 0 true IntKind.u8 (76 :: 69 :: 65 :: 84 :: vb (icv .u64 (nlen (lenR FF j0))))], Orc.loop [1, 2, 3, 6, 7] [0, 1, 2, 3, 4, 6] (AExit.exit 0) (tg [(1, AV.ptr 4 0), (0, AV.v (Value.slice none 0 0)), (0, AV.v (.int .i64 0)), (2, AV.sw 5 1)] 109) [AObj.rows false FF j0, AObj.ints 0 false .i64 j1, AObj.ints 0 false .i64 j2, AObj.ints 0 false IntKind.u32 j3, AObj.cells 0 true [AV.sw 0 10, AV.sw 1 1, AV.v (.int .i64 r), AV.v (.int .i64 a0), AV.v (.int .i64 a1), AV.v (.int .i64 a2), AV.v (.int .i64 a3), AV.v (.int .i64 a4), AV.v (.int .i64 a5), AV.v (.int .i64 a6), AV.v (.int .i64 a7), AV.sw 2 1, AV.sw 3 1, AV.v (.int .i64 y), AV.v (.int .i64 z)], AObj.ints 0 true IntKind.u8 v0o0], Orc.call [5, 7] (AV.sw 2 1) [(0, AObj.dead)] [AObj.ints 0 true IntKind.u8 (v0o0.append (zb [r, a0, a1, a2, a3, a4, a5, a6, a7]))], Orc.call [8] (AV.sw 1 1) [] [AObj.ints 0 true IntKind.u8 (kScP3 v0o0 r a0 a1 a2 a3 a4 a5 a6 a7 j2)], Orc.call [9, 2] (AV.sw 2 1) [(0, AObj.dead)] [AObj.ints 0 true IntKind.u8 ((kScP3 v0o0 r a0 a1 a2 a3 a4 a5 a6 a7 j2).append (zb j2))], Orc.call [10] (AV.sw 1 1) [] [AObj.ints 0 true IntKind.u8 (((kScP3 v0o0 r a0 a1 a2 a3 a4 a5 a6 a7 j2).append (zb j2)).append (vb (icv .u64 (nlen (lenI j3)))))], Orc.loop [1, 2, 3, 6, 9] [0, 1, 2, 3, 4, 11] (AExit.exit 2) (tg [(1, AV.ptr 4 0), (0, AV.v (Value.slice none 0 0)), (0, AV.v (.int .i64 0)), (2, AV.sw 5 1)] 109) [AObj.rows false FF j0, AObj.ints 0 false .i64 j1, AObj.ints 0 false .i64 j2, AObj.ints 0 false IntKind.u32 j3, AObj.cells 0 true [AV.sw 0 10, AV.sw 1 1, AV.v (.int .i64 r), AV.v (.int .i64 a0), AV.v (.int .i64 a1), AV.v (.int .i64 a2), AV.v (.int .i64 a3), AV.v (.int .i64 a4), AV.v (.int .i64 a5), AV.v (.int .i64 a6), AV.v (.int .i64 a7), AV.sw 2 1, AV.sw 3 1, AV.v (.int .i64 y), AV.v (.int .i64 z)], AObj.ints 0 true IntKind.u8 v1o0], Orc.call [5] (AV.sw 1 1) [] [AObj.ints 0 true IntKind.u8 (v1o0.append (vb (icv .u64 y)))], Orc.call [6, 7] (AV.sw 2 1) [(0, AObj.dead)] [AObj.ints 0 true IntKind.u8 ((v1o0.append (vb (icv .u64 y))).append (zb [z]))]] [0, 1, 2, 3, 8] [ACalls Try.prog 17 [(cC r a0 a1 a2 a3 a4 a5 a6 a7 y z)] (hH j0 j1 j2 j3) (kScP5 r a0 a1 a2 a3 a4 a5 a6 a7 y z j0 j1 j2 j3) [] [], isB (ine (kScP1 r a0 a1 a2 a3 a4 a5 a6 a7 y z j0 j1 j2 j3) 0) false, ACalls Try.prog 18 [AV.sw 0 1, AV.v (.int .u64 (icv .u64 (nlen (lenR FF j0))))] [AObj.ints 0 true IntKind.u8 [76, 69, 65, 84]] (AV.sw 1 1) [] [AObj.ints 0 true IntKind.u8 (76 :: 69 :: 65 :: 84 :: vb (icv .u64 (nlen (lenR FF j0))))], _, ACalls Try.prog 19 [AV.sw 0 1, AV.sw 1 1] [AObj.ints 0 true IntKind.u8 v0o0, AObj.ints 0 true .i64 [r, a0, a1, a2, a3, a4, a5, a6, a7]] (AV.sw 2 1) [(0, AObj.dead)] [AObj.ints 0 true IntKind.u8 (v0o0.append (zb [r, a0, a1, a2, a3, a4, a5, a6, a7]))], Mixed Try.prog, ACalls Try.prog 18 [AV.sw 0 1, AV.v (.int .u64 (icv .u64 (nlen (lenI j2))))] [AObj.ints 0 true IntKind.u8 (v0o0.append (zb [r, a0, a1, a2, a3, a4, a5, a6, a7]))] (AV.sw 1 1) [] [AObj.ints 0 true IntKind.u8 (kScP3 v0o0 r a0 a1 a2 a3 a4 a5 a6 a7 j2)], ACalls Try.prog 19 [AV.sw 0 1, AV.sw 1 1] [AObj.ints 0 true IntKind.u8 (kScP3 v0o0 r a0 a1 a2 a3 a4 a5 a6 a7 j2), AObj.ints 0 false .i64 j2] (AV.sw 2 1) [(0, AObj.dead)] [AObj.ints 0 true IntKind.u8 ((kScP3 v0o0 r a0 a1 a2 a3 a4 a5 a6 a7 j2).append (zb j2))], ACalls Try.prog 18 [AV.sw 0 1, AV.v (.int .u64 (icv .u64 (nlen (lenI j3))))] [AObj.ints 0 true IntKind.u8 ((kScP3 v0o0 r a0 a1 a2 a3 a4 a5 a6 a7 j2).append (zb j2))] (AV.sw 1 1) [] [AObj.ints 0 true IntKind.u8 (((kScP3 v0o0 r a0 a1 a2 a3 a4 a5 a6 a7 j2).append (zb j2)).append (vb (icv .u64 (nlen (lenI j3)))))], _, ACalls Try.prog 18 [AV.sw 0 1, AV.v (.int .u64 (icv .u64 y))] [AObj.ints 0 true IntKind.u8 v1o0] (AV.sw 1 1) [] [AObj.ints 0 true IntKind.u8 (v1o0.append (vb (icv .u64 y)))], ACalls Try.prog 19 [AV.sw 0 1, AV.sw 1 1] [AObj.ints 0 true IntKind.u8 (v1o0.append (vb (icv .u64 y))), AObj.ints 0 true .i64 [z]] (AV.sw 2 1) [(0, AObj.dead)] [AObj.ints 0 true IntKind.u8 ((v1o0.append (vb (icv .u64 y))).append (zb [z]))]] Try.func9 (by kernel_rfl) (by kernel_rfl) (.cons (by apply g17) (.cons d0 (.cons (by apply Go.Proofs.Ytlmnohdgfjienaa.Code.g18 <;> (first | exact (s0 d0) | (simp [nz, nn, inB, ltN]; done) | decide)) (.cons (L9a _ _ _ _ _ _ _ _ _ _ _ _ _ _ _ _ _ _ _ (v0h0 d0)) (.cons (by apply g19 <;> (first | exact (s1 d0))) (.cons (by show _ = _; kernel_rfl) (.cons (by apply Go.Proofs.Ytlmnohdgfjienaa.Code.g18 <;> (first | exact (s2 d0) | exact (s3 d0))) (.cons (by apply g19 <;> (first | exact (s4 d0))) (.cons (by apply Go.Proofs.Ytlmnohdgfjienaa.Code.g18 <;> (first | exact (s5 d0) | exact (s6 d0))) (.cons (L9b _ _ _ _ _ _ _ _ _ _ _ _ _ _ _ _ _ _ _ (v1h0 d0)) (.cons (by apply Go.Proofs.Ytlmnohdgfjienaa.Code.g18 <;> (first | exact (s7 d0) | exact (s8 d0))) (.cons (by apply g19 <;> (first | exact (s9 d0))) .nil)))))))))))))
theorem f9 (j0 : List (El FF)) (j1 j2 j3 : List Int) (r a0 a1 a2 a3 a4 a5 a6 a7 y z : Int) (v0f : Nat) (v0o0 : List Int) (v1f : Nat) (v1o0 : List Int) (v0h0 : ((ine (ckE r a0 a1 a2 a3 a4 a5 a6 a7 y z (lenR FF j0) (lenI j1) (lenI j2) (lenI j3) (fb j0 j1) (pix j2)) 0) = false) → L9aL j0 j1 j2 j3 r a0 a1 a2 a3 a4 a5 a6 a7 y z v0f (76 :: 69 :: 65 :: 84 :: vb (icv .u64 (nlen (lenR FF j0)))) 0 = some v0o0) (v1h0 : ((ine (ckE r a0 a1 a2 a3 a4 a5 a6 a7 y z (lenR FF j0) (lenI j1) (lenI j2) (lenI j3) (fb j0 j1) (pix j2)) 0) = false) → L9bL j0 j1 j2 j3 r a0 a1 a2 a3 a4 a5 a6 a7 y z v1f ((((v0o0.append (zb [r, a0, a1, a2, a3, a4, a5, a6, a7])).append (vb (icv .u64 (nlen (lenI j2))))).append (zb j2)).append (vb (icv .u64 (nlen (lenI j3))))) 0 = some v1o0) (s0 : ((ine (ckE r a0 a1 a2 a3 a4 a5 a6 a7 y z (lenR FF j0) (lenI j1) (lenI j2) (lenI j3) (fb j0 j1) (pix j2)) 0) = false) → u64B (icv .u64 (nlen (lenR FF j0))) = true) (s1 : ((ine (ckE r a0 a1 a2 a3 a4 a5 a6 a7 y z (lenR FF j0) (lenI j1) (lenI j2) (lenI j3) (fb j0 j1) (pix j2)) 0) = false) → okZ v0o0 [r, a0, a1, a2, a3, a4, a5, a6, a7] = true) (s2 : ((ine (ckE r a0 a1 a2 a3 a4 a5 a6 a7 y z (lenR FF j0) (lenI j1) (lenI j2) (lenI j3) (fb j0 j1) (pix j2)) 0) = false) → u64B (icv .u64 (nlen (lenI j2))) = true) (s3 : ((ine (ckE r a0 a1 a2 a3 a4 a5 a6 a7 y z (lenR FF j0) (lenI j1) (lenI j2) (lenI j3) (fb j0 j1) (pix j2)) 0) = false) → (v0o0.append (zb [r, a0, a1, a2, a3, a4, a5, a6, a7])).length ≤ 50000) (s4 : ((ine (ckE r a0 a1 a2 a3 a4 a5 a6 a7 y z (lenR FF j0) (lenI j1) (lenI j2) (lenI j3) (fb j0 j1) (pix j2)) 0) = false) → okZ ((v0o0.append (zb [r, a0, a1, a2, a3, a4, a5, a6, a7])).append (vb (icv .u64 (nlen (lenI j2))))) j2 = true) (s5 : ((ine (ckE r a0 a1 a2 a3 a4 a5 a6 a7 y z (lenR FF j0) (lenI j1) (lenI j2) (lenI j3) (fb j0 j1) (pix j2)) 0) = false) → u64B (icv .u64 (nlen (lenI j3))) = true) (s6 : ((ine (ckE r a0 a1 a2 a3 a4 a5 a6 a7 y z (lenR FF j0) (lenI j1) (lenI j2) (lenI j3) (fb j0 j1) (pix j2)) 0) = false) → (((v0o0.append (zb [r, a0, a1, a2, a3, a4, a5, a6, a7])).append (vb (icv .u64 (nlen (lenI j2))))).append (zb j2)).length ≤ 50000) (s7 : ((ine (ckE r a0 a1 a2 a3 a4 a5 a6 a7 y z (lenR FF j0) (lenI j1) (lenI j2) (lenI j3) (fb j0 j1) (pix j2)) 0) = false) → u64B (icv .u64 y) = true) (s8 : ((ine (ckE r a0 a1 a2 a3 a4 a5 a6 a7 y z (lenR FF j0) (lenI j1) (lenI j2) (lenI j3) (fb j0 j1) (pix j2)) 0) = false) → v1o0.length ≤ 50000) (s9 : ((ine (ckE r a0 a1 a2 a3 a4 a5 a6 a7 y z (lenR FF j0) (lenI j1) (lenI j2) (lenI j3) (fb j0 j1) (pix j2)) 0) = false) → okZ (v1o0.append (vb (icv .u64 y))) [z] = true) : ACalls Try.prog 9 [(cC r a0 a1 a2 a3 a4 a5 a6 a7 y z)] (hH j0 j1 j2 j3) (AV.tup [AV.sw 4 1, AV.v (.int .i64 (f9r0 j0 j1 j2 j3 r a0 a1 a2 a3 a4 a5 a6 a7 y z v0f v0o0 v1f v1o0))]) [] [AObj.ints 0 true IntKind.u8 (f9r1 j0 j1 j2 j3 r a0 a1 a2 a3 a4 a5 a6 a7 y z v0f v0o0 v1f v1o0)] := by
  have h := (ACalls.cond (ine (ckE r a0 a1 a2 a3 a4 a5 a6 a7 y z (lenR FF j0) (lenI j1) (lenI j2) (lenI j3) (fb j0 j1) (pix j2)) 0) (fun d0 => (f9_1 j0 j1 j2 j3 r a0 a1 a2 a3 a4 a5 a6 a7 y z d0)) (fun d0 => (f9_2 j0 j1 j2 j3 r a0 a1 a2 a3 a4 a5 a6 a7 y z v0f v0o0 v1f v1o0 d0 v0h0 v1h0 s0 s1 s2 s3 s4 s5 s6 s7 s8 s9)))
  simp only [c_int, c_bool, c_str, c_agg, c_tup, c_fn, c_ifc, c_sl, c_pe, c_ptr, c_rows, c_siter, c_consA, c_consU, c_consO, c_cells, c_ints, c_bools, c_strs, c_same] at h
  exact h
end Go.Proofs.Ytlmnohdgfjienaa.Cf

set_option maxRecDepth 100000
set_option linter.all false
set_option maxHeartbeats 0
namespace Go.Proofs.Ytlmnohdgfjienaa.Cf
open Go.Abs Go.Proofs.Ytlmnohdgfjienaa.Code Go.Proofs.Ytlmnohdgfjienaa.Code
theorem icvB (x : Int) : u64B (icv .u64 x) = true := by rw [u64B_iff]; unfold icv; rw [w_u64]; omega
/-- a flow's bytes -/
def feB (E : El FF) (x : Int) : List Int := vb (icv .u64 E.1) ++ zb [E.snd.1, E.snd.snd.1, E.snd.snd.snd.1, E.snd.snd.snd.snd.1, E.snd.snd.snd.snd.snd.1, E.snd.snd.snd.snd.snd.snd.1, E.snd.snd.snd.snd.snd.snd.snd.1, E.snd.snd.snd.snd.snd.snd.snd.snd.1, E.snd.snd.snd.snd.snd.snd.snd.snd.2, x]
def flB (j0 : List (El FF)) (j1 : List Int) : Nat → Nat → List Int
  | 0, _ => []
  | k + 1, i => feB (getR FF j0 i) (getI j1 i) ++ flB j0 j1 k (i + 1)
def drB (l : List Int) : List Int := l.flatMap fun x => vb (icv .u64 x)
/-- the bytes behind the word -/
def eB0 (j0 : List (El FF)) (j1 j2 j3 : List Int) (r a0 a1 a2 a3 a4 a5 a6 a7 y z : Int) : List Int := vb (icv .u64 (nlen (lenR FF j0))) ++ flB j0 j1 j0.length 0 ++ zb [r, a0, a1, a2, a3, a4, a5, a6, a7] ++ vb (icv .u64 (nlen (lenI j2))) ++ zb j2 ++ vb (icv .u64 (nlen (lenI j3))) ++ drB j3 ++ vb (icv .u64 y) ++ zb [z]
def eB (j0 : List (El FF)) (j1 j2 j3 : List Int) (r a0 a1 a2 a3 a4 a5 a6 a7 y z : Int) : List Int := bif ine (ckE r a0 a1 a2 a3 a4 a5 a6 a7 y z (lenR FF j0) (lenI j1) (lenI j2) (lenI j3) (fb j0 j1) (pix j2)) 0 then [] else 76 :: 69 :: 65 :: 84 :: eB0 j0 j1 j2 j3 r a0 a1 a2 a3 a4 a5 a6 a7 y z
def elB (E : El FF) : Bool := [E.1, E.snd.1, E.snd.snd.1, E.snd.snd.snd.1, E.snd.snd.snd.snd.1, E.snd.snd.snd.snd.snd.1, E.snd.snd.snd.snd.snd.snd.1, E.snd.snd.snd.snd.snd.snd.snd.1, E.snd.snd.snd.snd.snd.snd.snd.snd.1, E.snd.snd.snd.snd.snd.snd.snd.snd.2].all i64B
/-- numbers in their range, and no more than the law looks at -/
def cfgB (j0 : List (El FF)) (j1 j2 j3 : List Int) (r a0 a1 a2 a3 a4 a5 a6 a7 y z : Int) : Bool := j0.all elB && j1.all i64B && j2.all i64B && [r, a0, a1, a2, a3, a4, a5, a6, a7, y, z].all i64B && decide (j0.length ≤ 300 ∧ j1.length ≤ 300 ∧ j2.length ≤ 300 ∧ j3.length ≤ 300)
theorem okZ_mk {m l : List Int} (h1 : l.all i64B = true) (h2 : m.length + 10 * l.length ≤ 50000) : okZ m l = true := by
  unfold okZ; rw [h1, decide_eq_true h2]; rfl
theorem feB_len {E : El FF} {x : Int} (hE : elB E = true) (hx : i64B x = true) : (feB E x).length ≤ 110 := by
  have h1 : [E.snd.1, E.snd.snd.1, E.snd.snd.snd.1, E.snd.snd.snd.snd.1, E.snd.snd.snd.snd.snd.1, E.snd.snd.snd.snd.snd.snd.1, E.snd.snd.snd.snd.snd.snd.snd.1, E.snd.snd.snd.snd.snd.snd.snd.snd.1, E.snd.snd.snd.snd.snd.snd.snd.snd.2, x].all i64B = true := by
    simp only [elB, List.all_cons, List.all_nil, Bool.and_eq_true] at hE ⊢
    obtain ⟨_, a, b, c, d, e, f, g, h, i, _⟩ := hE
    exact ⟨a, b, c, d, e, f, g, h, i, hx, trivial⟩
  have := zb_len h1
  have := vb_len (icvB E.1)
  unfold feB; rw [List.length_append]; simp at *; omega
theorem val_all {E : El FF} {x : Int} (hE : elB E = true) (hx : i64B x = true) : [E.snd.1, E.snd.snd.1, E.snd.snd.snd.1, E.snd.snd.snd.snd.1, E.snd.snd.snd.snd.snd.1, E.snd.snd.snd.snd.snd.snd.1, E.snd.snd.snd.snd.snd.snd.snd.1, E.snd.snd.snd.snd.snd.snd.snd.snd.1, E.snd.snd.snd.snd.snd.snd.snd.snd.2, x].all i64B = true := by
  simp only [elB, List.all_cons, List.all_nil, Bool.and_eq_true] at hE ⊢
  obtain ⟨_, a, b, c, d, e, f, g, h, i, _⟩ := hE
  exact ⟨a, b, c, d, e, f, g, h, i, hx, trivial⟩
theorem flB_len {j0 : List (El FF)} {j1 : List Int} (h0 : j0.all elB = true) (h1 : j1.all i64B = true) (he : j1.length = j0.length) : ∀ k i : Nat, i + k = j0.length → (flB j0 j1 k i).length ≤ 110 * k
  | 0, i, e => by simp [flB]
  | k + 1, i, e => by
    have hi : i < j0.length := by omega
    have hi1 : i < j1.length := by omega
    have := flB_len h0 h1 he k (i + 1) (by omega)
    have g0 : getR FF j0 i = j0[i] := by unfold getR; rw [List.getD_eq_getElem?_getD, List.getElem?_eq_getElem hi]; rfl
    have g1 : getI j1 i = j1[i] := by unfold getI; rw [List.getD_eq_getElem?_getD, List.getElem?_eq_getElem hi1]; rfl
    have := feB_len (List.all_eq_true.1 h0 _ (List.getElem_mem hi)) (List.all_eq_true.1 h1 _ (List.getElem_mem hi1))
    rw [flB, List.length_append, g0, g1]; omega
theorem e8a (j0 : List (El FF)) (j1 j2 j3 : List Int) (r a0 a1 a2 a3 a4 a5 a6 a7 yy z : Int) (h0 : j0.all elB = true) (h1 : j1.all i64B = true) (he : j1.length = j0.length) (hs : j0.length ≤ 300) : ∀ (k i : Nat) (y : List Int), i + k = j0.length → y.length + 110 * k ≤ 40000 →
    L8aL j0 j1 j2 j3 r a0 a1 a2 a3 a4 a5 a6 a7 yy z (k + 1) (nlen (lenR FF j0)) y (i : Int) = some (y ++ flB j0 j1 k i)
  | 0, i, y, e, hy => by
    rw [L8aL, lt_f (show lenR FF j0 ≤ i by unfold lenR; omega)]; simp [flB]
  | k + 1, i, y, e, hy => by
    have hi : i < j0.length := by omega
    have hi1 : i < j1.length := by omega
    have g0 : getR FF j0 i = j0[i] := by unfold getR; rw [List.getD_eq_getElem?_getD, List.getElem?_eq_getElem hi]; rfl
    have g1 : getI j1 i = j1[i] := by unfold getI; rw [List.getD_eq_getElem?_getD, List.getElem?_eq_getElem hi1]; rfl
    have hE : elB (getR FF j0 i) = true := by rw [g0]; exact List.all_eq_true.1 h0 _ (List.getElem_mem hi)
    have hx : i64B (getI j1 i) = true := by rw [g1]; exact List.all_eq_true.1 h1 _ (List.getElem_mem hi1)
    have hl := feB_len hE hx
    have hv := vb_len (icvB (getR FF j0 i).1)
    have hz := okZ_mk (m := y.append (vb (icv .u64 (getR FF j0 i).1))) (val_all hE hx) (by rw [show (y.append (vb (icv .u64 (getR FF j0 i).1))).length = y.length + (vb (icv .u64 (getR FF j0 i).1)).length from List.length_append]; simp; omega)
    rw [L8aL, lt_t (show i < lenR FF j0 from hi), in_t (show i < lenR FF j0 from hi), in_t (show i < lenI j1 from hi1), ix0, l_t (show i < lenR FF j0 from hi), l_t (show i < lenI j1 from hi1), inc (show j0.length ≤ 1000000 by omega) hi, decide_eq_true (icvB _), decide_eq_true (show y.length ≤ 50000 by omega), decide_eq_true hz]
    simp only [cond_true]
    have a := e8a j0 j1 j2 j3 r a0 a1 a2 a3 a4 a5 a6 a7 yy z h0 h1 he hs k (i + 1) (y ++ feB (getR FF j0 i) (getI j1 i)) (by omega) (by rw [List.length_append]; omega)
    rw [flB, ← List.append_assoc, ← a]
    unfold feB
    rw [← List.append_assoc]
    rfl
theorem e8b (j0 : List (El FF)) (j1 j2 j3 : List Int) (r a0 a1 a2 a3 a4 a5 a6 a7 yy z : Int) (hs : j3.length ≤ 300) : ∀ (k i : Nat) (y : List Int), i + k = j3.length → y.length + 10 * k ≤ 50000 →
    L8bL j0 j1 j2 j3 r a0 a1 a2 a3 a4 a5 a6 a7 yy z (k + 1) (nlen (lenI j3)) y (i : Int) = some (y ++ drB (j3.drop i))
  | 0, i, y, e, hy => by
    rw [L8bL, lt_f (show lenI j3 ≤ i by unfold lenI; omega), List.drop_eq_nil_of_le (by omega)]; simp [drB]
  | k + 1, i, y, e, hy => by
    have hi : i < j3.length := by omega
    have g1 : getI j3 i = j3[i] := by unfold getI; rw [List.getD_eq_getElem?_getD, List.getElem?_eq_getElem hi]; rfl
    have hv := vb_len (icvB (getI j3 i))
    rw [L8bL, lt_t (show i < lenI j3 from hi), in_t (show i < lenI j3 from hi), ix0, l_t (show i < lenI j3 from hi), inc (show j3.length ≤ 1000000 by omega) hi, decide_eq_true (icvB _), decide_eq_true (show y.length ≤ 50000 by omega)]
    simp only [cond_true]
    have a := e8b j0 j1 j2 j3 r a0 a1 a2 a3 a4 a5 a6 a7 yy z hs k (i + 1) (y ++ vb (icv .u64 (getI j3 i))) (by omega) (by rw [List.length_append]; omega)
    rw [List.drop_eq_getElem_cons hi, ← g1]
    unfold drB at a ⊢
    rw [List.flatMap_cons, ← List.append_assoc, ← a]
    rfl
theorem e9a (j0 : List (El FF)) (j1 j2 j3 : List Int) (r a0 a1 a2 a3 a4 a5 a6 a7 yy z : Int) (h0 : j0.all elB = true) (h1 : j1.all i64B = true) (he : j1.length = j0.length) (hs : j0.length ≤ 300) : ∀ (k i : Nat) (y : List Int), i + k = j0.length → y.length + 110 * k ≤ 40000 →
    L9aL j0 j1 j2 j3 r a0 a1 a2 a3 a4 a5 a6 a7 yy z (k + 1) y (i : Int) = some (y ++ flB j0 j1 k i)
  | 0, i, y, e, hy => by
    rw [L9aL, lt_f (show lenR FF j0 ≤ i by unfold lenR; omega)]; simp [flB]
  | k + 1, i, y, e, hy => by
    have hi : i < j0.length := by omega
    have hi1 : i < j1.length := by omega
    have g0 : getR FF j0 i = j0[i] := by unfold getR; rw [List.getD_eq_getElem?_getD, List.getElem?_eq_getElem hi]; rfl
    have g1 : getI j1 i = j1[i] := by unfold getI; rw [List.getD_eq_getElem?_getD, List.getElem?_eq_getElem hi1]; rfl
    have hE : elB (getR FF j0 i) = true := by rw [g0]; exact List.all_eq_true.1 h0 _ (List.getElem_mem hi)
    have hx : i64B (getI j1 i) = true := by rw [g1]; exact List.all_eq_true.1 h1 _ (List.getElem_mem hi1)
    have hl := feB_len hE hx
    have hv := vb_len (icvB (getR FF j0 i).1)
    have hz := okZ_mk (m := y.append (vb (icv .u64 (getR FF j0 i).1))) (val_all hE hx) (by rw [show (y.append (vb (icv .u64 (getR FF j0 i).1))).length = y.length + (vb (icv .u64 (getR FF j0 i).1)).length from List.length_append]; simp; omega)
    rw [L9aL, lt_t (show i < lenR FF j0 from hi), in_t (show i < lenR FF j0 from hi), in_t (show i < lenI j1 from hi1), ix0, l_t (show i < lenR FF j0 from hi), l_t (show i < lenI j1 from hi1), inc (show j0.length ≤ 1000000 by omega) hi, decide_eq_true (icvB _), decide_eq_true (show y.length ≤ 50000 by omega), decide_eq_true hz]
    simp only [cond_true]
    have a := e9a j0 j1 j2 j3 r a0 a1 a2 a3 a4 a5 a6 a7 yy z h0 h1 he hs k (i + 1) (y ++ feB (getR FF j0 i) (getI j1 i)) (by omega) (by rw [List.length_append]; omega)
    rw [flB, ← List.append_assoc, ← a]
    unfold feB
    rw [← List.append_assoc]
    rfl
theorem e9b (j0 : List (El FF)) (j1 j2 j3 : List Int) (r a0 a1 a2 a3 a4 a5 a6 a7 yy z : Int) (hs : j3.length ≤ 300) : ∀ (k i : Nat) (y : List Int), i + k = j3.length → y.length + 10 * k ≤ 50000 →
    L9bL j0 j1 j2 j3 r a0 a1 a2 a3 a4 a5 a6 a7 yy z (k + 1) y (i : Int) = some (y ++ drB (j3.drop i))
  | 0, i, y, e, hy => by
    rw [L9bL, lt_f (show lenI j3 ≤ i by unfold lenI; omega), List.drop_eq_nil_of_le (by omega)]; simp [drB]
  | k + 1, i, y, e, hy => by
    have hi : i < j3.length := by omega
    have g1 : getI j3 i = j3[i] := by unfold getI; rw [List.getD_eq_getElem?_getD, List.getElem?_eq_getElem hi]; rfl
    have hv := vb_len (icvB (getI j3 i))
    rw [L9bL, lt_t (show i < lenI j3 from hi), in_t (show i < lenI j3 from hi), ix0, l_t (show i < lenI j3 from hi), inc (show j3.length ≤ 1000000 by omega) hi, decide_eq_true (icvB _), decide_eq_true (show y.length ≤ 50000 by omega)]
    simp only [cond_true]
    have a := e9b j0 j1 j2 j3 r a0 a1 a2 a3 a4 a5 a6 a7 yy z hs k (i + 1) (y ++ vb (icv .u64 (getI j3 i))) (by omega) (by rw [List.length_append]; omega)
    rw [List.drop_eq_getElem_cons hi, ← g1]
    unfold drB at a ⊢
    rw [List.flatMap_cons, ← List.append_assoc, ← a]
    rfl
end Go.Proofs.Ytlmnohdgfjienaa.Cf

set_option maxRecDepth 100000
set_option linter.all false
set_option maxHeartbeats 4000000
namespace Go.Proofs.Ytlmnohdgfjienaa.Cf
open Go.Abs

end Go.Proofs.Ytlmnohdgfjienaa.Cf

set_option maxRecDepth 100000
set_option linter.all false
set_option maxHeartbeats 4000000
set_option linter.unusedSimpArgs false
set_option linter.unusedVariables false
namespace Go.Proofs.Ytlmnohdgfjienaa.Cf
open Go.Abs
/-- two flows are one -/
@[reducible] def eqE (a b : El FF) : Bool := andB (ieq a.1 b.1) (andB (ieq a.snd.1 b.snd.1) (andB (ieq a.snd.snd.1 b.snd.snd.1) (andB (ieq a.snd.snd.snd.1 b.snd.snd.snd.1) (andB (ieq a.snd.snd.snd.snd.1 b.snd.snd.snd.snd.1) (andB (ieq a.snd.snd.snd.snd.snd.1 b.snd.snd.snd.snd.snd.1) (andB (ieq a.snd.snd.snd.snd.snd.snd.1 b.snd.snd.snd.snd.snd.snd.1) (andB (ieq a.snd.snd.snd.snd.snd.snd.snd.1 b.snd.snd.snd.snd.snd.snd.snd.1) (andB (ieq a.snd.snd.snd.snd.snd.snd.snd.snd.1 b.snd.snd.snd.snd.snd.snd.snd.snd.1) (ieq a.snd.snd.snd.snd.snd.snd.snd.snd.2 b.snd.snd.snd.snd.snd.snd.snd.snd.2)))))))))
end Go.Proofs.Ytlmnohdgfjienaa.Cf

set_option maxRecDepth 100000
set_option linter.all false
set_option maxHeartbeats 4000000
namespace Go.Proofs.Ytlmnohdgfjienaa.Cf
open Go.Abs
theorem eqE_iff (a b : El FF) : eqE a b = true ↔ a = b := by
  obtain ⟨a0, a1, a2, a3, a4, a5, a6, a7, a8, a9⟩ := a
  obtain ⟨b0, b1, b2, b3, b4, b5, b6, b7, b8, b9⟩ := b
  simp [eqE, andB, ieq]
theorem sF_iff (E : El FF) : sF E = true ↔ lF E = E := by
  have : sF E = eqE E (lF E) := rfl
  rw [this, eqE_iff]; exact eq_comm
theorem bfr_iff (j0 : List (El FF)) (j1 : List Int) : ∀ k i, bfr j0 j1 k i = 0 ↔ ∀ j, i ≤ j → j < i + k → bad j0 j1 j = false
  | 0, i => by simp [bfr]; intro j h1 h2; omega
  | k + 1, i => by
    rw [bfr]
    cases hp : bad j0 j1 i with
    | false =>
      rw [cond_false, bfr_iff j0 j1 k (i + 1)]
      exact ⟨fun h j h1 h2 => by
        rcases Nat.eq_or_lt_of_le h1 with rfl | h3
        · exact hp
        · exact h j h3 (by omega), fun h j h1 h2 => h j (by omega) (by omega)⟩
    | true =>
      rw [cond_true]
      refine ⟨fun h => by omega, fun h => ?_⟩
      have := h i (Nat.le_refl _) (by omega)
      rw [hp] at this; simp at this
theorem bad_f (j0 : List (El FF)) (j1 : List Int) (i : Nat) : bad j0 j1 i = false ↔ lF (getR FF j0 i) = getR FF j0 i ∧ wt (getI j1 i) 1 1073741824 = true := by
  rw [← sF_iff]; unfold bad notB
  cases sF (getR FF j0 i) <;> cases wt (getI j1 i) 1 1073741824 <;> simp
theorem ckE_iff (r a0 a1 a2 a3 a4 a5 a6 a7 y z : Int) (n0 n1 n2 n3 : Nat) (f p : Int) : ckE r a0 a1 a2 a3 a4 a5 a6 a7 y z n0 n1 n2 n3 f p = 0 ↔
    (n0 ≠ 0 ∧ n0 ≤ 256 ∧ n1 = n0 ∧ f = 0 ∧ wt r 1 1099511627776 = true ∧ sA a0 a1 a2 a3 a4 a5 a6 a7 = true ∧ n2 ≤ 4096 ∧ p = -1 ∧ n3 ≤ 4096 ∧ wt y 0 1000 = true ∧ wt z 0 1099511627776 = true) := by
  have e1 : ieq (nlen n0) 0 = decide (n0 = 0) := by unfold ieq nlen; by_cases h : n0 = 0 <;> simp [h]
  have e2 : ∀ (a : Int) (b n : Nat), a = (b : Int) → ilt a (nlen n) = decide (b < n) := fun a b n h => by subst h; unfold ilt nlen; by_cases q : b < n <;> simp [q]
  have e3 : ine (nlen n1) (nlen n0) = !decide (n1 = n0) := by unfold ine nlen; by_cases h : n1 = n0 <;> simp [h]; omega
  have e4 : ieq f 0 = decide (f = 0) := by unfold ieq; by_cases h : f = 0 <;> simp [h]
  have e5 : ieq p (-1) = decide (p = -1) := by unfold ieq; by_cases h : p = -1 <;> simp [h]
  unfold ckE
  rw [e1, e2 256 256 n0 rfl, e2 4096 4096 n2 rfl, e2 4096 4096 n3 rfl, e3, e4, e5]
  unfold notB
  by_cases c1 : n0 = 0
  · simp [c1]
  by_cases c2 : 256 < n0
  · simp [c1, c2]; omega
  by_cases c3 : n1 = n0
  rotate_left
  · simp [c1, c2, c3]
  by_cases c4 : f = 0
  rotate_left
  · simp [c1, c2, c3, c4]
  cases c5 : wt r 1 1099511627776
  · simp [c1, c2, c3, c4]
  cases c6 : sA a0 a1 a2 a3 a4 a5 a6 a7
  · simp [c1, c2, c3, c4]
  by_cases c7 : 4096 < n2
  · simp [c1, c2, c3, c4, c7]; omega
  by_cases c8 : p = -1
  rotate_left
  · simp [c1, c2, c3, c4, c7, c8]
  by_cases c9 : 4096 < n3
  · simp [c1, c2, c3, c4, c7, c8, c9]; omega
  cases c10 : wt y 0 1000
  · simp [c1, c2, c3, c4, c7, c8, c9]
  cases c11 : wt z 0 1099511627776
  · simp [c1, c2, c3, c4, c7, c8, c9]
  · simp [c1, c2, c3, c4, c7, c8, c9]; omega
end Go.Proofs.Ytlmnohdgfjienaa.Cf

set_option maxRecDepth 100000
set_option linter.all false
set_option maxHeartbeats 0
namespace Go.Proofs.Ytlmnohdgfjienaa.Cf
open Go.Abs Go.Proofs.Ytlmnohdgfjienaa.Code Go.Proofs.Ytlmnohdgfjienaa.Code
theorem drB_len : ∀ l : List Int, (drB l).length ≤ 10 * l.length
  | [] => by simp [drB]
  | x :: l => by
    have h1 := vb_len (icvB x)
    have h2 := drB_len l
    have h3 : drB (x :: l) = vb (icv .u64 x) ++ drB l := rfl
    rw [h3, List.length_append, List.length_cons]; omega
theorem ck_len (j0 : List (El FF)) (j1 j2 j3 : List Int) (r a0 a1 a2 a3 a4 a5 a6 a7 y z : Int) (h : ckE r a0 a1 a2 a3 a4 a5 a6 a7 y z (lenR FF j0) (lenI j1) (lenI j2) (lenI j3) (fb j0 j1) (pix j2) = 0) : j1.length = j0.length :=
  ((ckE_iff r a0 a1 a2 a3 a4 a5 a6 a7 y z _ _ _ _ _ _).1 h).2.2.1
theorem g8 (j0 : List (El FF)) (j1 j2 j3 : List Int) (r a0 a1 a2 a3 a4 a5 a6 a7 y z : Int) (hB : cfgB j0 j1 j2 j3 r a0 a1 a2 a3 a4 a5 a6 a7 y z = true) : ACalls Try.prog 8 [cC r a0 a1 a2 a3 a4 a5 a6 a7 y z] (hH j0 j1 j2 j3) (AV.tup [AV.sw 4 1, iI (ckE r a0 a1 a2 a3 a4 a5 a6 a7 y z (lenR FF j0) (lenI j1) (lenI j2) (lenI j3) (fb j0 j1) (pix j2))]) [] [AObj.ints 0 true .u8 (eB j0 j1 j2 j3 r a0 a1 a2 a3 a4 a5 a6 a7 y z)] := by
  unfold cfgB at hB
  simp only [Bool.and_eq_true, decide_eq_true_eq] at hB
  obtain ⟨⟨⟨⟨b0, b1⟩, b2⟩, b3⟩, s0, s1, s2, s3⟩ := hB
  cases hc : ine (ckE r a0 a1 a2 a3 a4 a5 a6 a7 y z (lenR FF j0) (lenI j1) (lenI j2) (lenI j3) (fb j0 j1) (pix j2)) 0 with
  | true =>
    have hh := f8_1 j0 j1 j2 j3 r a0 a1 a2 a3 a4 a5 a6 a7 y z hc
    unfold eB; rw [hc]; exact hh
  | false =>
    have hk : ckE r a0 a1 a2 a3 a4 a5 a6 a7 y z (lenR FF j0) (lenI j1) (lenI j2) (lenI j3) (fb j0 j1) (pix j2) = 0 := by unfold ine at hc; simpa using hc
    have he : j1.length = j0.length := ck_len j0 j1 j2 j3 r a0 a1 a2 a3 a4 a5 a6 a7 y z hk
    simp only [List.all_cons, List.all_nil, Bool.and_eq_true] at b3
    obtain ⟨c0, c1, c2, c3, c4, c5, c6, c7, c8, c9, c10, -⟩ := b3
    have hA : [r, a0, a1, a2, a3, a4, a5, a6, a7].all i64B = true := by simp [c0, c1, c2, c3, c4, c5, c6, c7, c8]
    have hZ : [z].all i64B = true := by simp [c10]
    have v0 := vb_len (icvB (nlen (lenR FF j0)))
    have v2 := vb_len (icvB (nlen (lenI j2)))
    have v3 := vb_len (icvB (nlen (lenI j3)))
    have vy := vb_len (icvB y)
    have zA := zb_len hA
    have z2 := zb_len b2
    have zZ := zb_len hZ
    have fl := flB_len b0 b1 he j0.length 0 (by omega)
    simp only [List.length_cons, List.length_nil] at zA zZ
    have ka := e8a j0 j1 j2 j3 r a0 a1 a2 a3 a4 a5 a6 a7 y z b0 b1 he s0 j0.length 0 (76 :: 69 :: 65 :: 84 :: vb (icv .u64 (nlen (lenR FF j0)))) (by omega) (by simp only [List.length_cons]; omega)
    have kb := e8b j0 j1 j2 j3 r a0 a1 a2 a3 a4 a5 a6 a7 y z s3 j3.length 0 ((((((76 :: 69 :: 65 :: 84 :: vb (icv .u64 (nlen (lenR FF j0)))) ++ flB j0 j1 j0.length 0).append (zb [r, a0, a1, a2, a3, a4, a5, a6, a7])).append (vb (icv .u64 (nlen (lenI j2))))).append (zb j2)).append (vb (icv .u64 (nlen (lenI j3))))) (by omega) (by simp only [List.append_eq, List.length_append, List.length_cons]; omega)
    have hd := drB_len j3
    have hh := f8_2 j0 j1 j2 j3 r a0 a1 a2 a3 a4 a5 a6 a7 y z (d0 := hc) (v0h0 := fun _ => ka) (v1h0 := fun _ => kb) (s0 := fun _ => icvB _) (s2 := fun _ => icvB _) (s5 := fun _ => icvB _) (s7 := fun _ => icvB _) (s1 := fun _ => okZ_mk hA (by simp only [List.append_eq, List.length_append, List.length_cons, List.length_nil, List.drop_zero] at *; omega)) (s3 := fun _ => by simp only [List.append_eq, List.length_append, List.length_cons, List.length_nil, List.drop_zero] at *; omega) (s4 := fun _ => okZ_mk b2 (by simp only [List.append_eq, List.length_append, List.length_cons, List.length_nil, List.drop_zero] at *; omega)) (s6 := fun _ => by simp only [List.append_eq, List.length_append, List.length_cons, List.length_nil, List.drop_zero] at *; omega) (s8 := fun _ => by simp only [List.append_eq, List.length_append, List.length_cons, List.length_nil, List.drop_zero] at *; omega) (s9 := fun _ => okZ_mk hZ (by simp only [List.append_eq, List.length_append, List.length_cons, List.length_nil, List.drop_zero] at *; omega))
    rw [hk] 
    unfold eB eB0; rw [hc]
    simp only [cond_false]
    simp only [List.drop_zero, List.append_eq, List.cons_append, List.append_assoc] at hh ⊢
    exact hh
theorem g9 (j0 : List (El FF)) (j1 j2 j3 : List Int) (r a0 a1 a2 a3 a4 a5 a6 a7 y z : Int) (hB : cfgB j0 j1 j2 j3 r a0 a1 a2 a3 a4 a5 a6 a7 y z = true) : ACalls Try.prog 9 [cC r a0 a1 a2 a3 a4 a5 a6 a7 y z] (hH j0 j1 j2 j3) (AV.tup [AV.sw 4 1, iI (ckE r a0 a1 a2 a3 a4 a5 a6 a7 y z (lenR FF j0) (lenI j1) (lenI j2) (lenI j3) (fb j0 j1) (pix j2))]) [] [AObj.ints 0 true .u8 (eB j0 j1 j2 j3 r a0 a1 a2 a3 a4 a5 a6 a7 y z)] := by
  unfold cfgB at hB
  simp only [Bool.and_eq_true, decide_eq_true_eq] at hB
  obtain ⟨⟨⟨⟨b0, b1⟩, b2⟩, b3⟩, s0, s1, s2, s3⟩ := hB
  cases hc : ine (ckE r a0 a1 a2 a3 a4 a5 a6 a7 y z (lenR FF j0) (lenI j1) (lenI j2) (lenI j3) (fb j0 j1) (pix j2)) 0 with
  | true =>
    have hh := f9_1 j0 j1 j2 j3 r a0 a1 a2 a3 a4 a5 a6 a7 y z hc
    unfold eB; rw [hc]; exact hh
  | false =>
    have hk : ckE r a0 a1 a2 a3 a4 a5 a6 a7 y z (lenR FF j0) (lenI j1) (lenI j2) (lenI j3) (fb j0 j1) (pix j2) = 0 := by unfold ine at hc; simpa using hc
    have he : j1.length = j0.length := ck_len j0 j1 j2 j3 r a0 a1 a2 a3 a4 a5 a6 a7 y z hk
    simp only [List.all_cons, List.all_nil, Bool.and_eq_true] at b3
    obtain ⟨c0, c1, c2, c3, c4, c5, c6, c7, c8, c9, c10, -⟩ := b3
    have hA : [r, a0, a1, a2, a3, a4, a5, a6, a7].all i64B = true := by simp [c0, c1, c2, c3, c4, c5, c6, c7, c8]
    have hZ : [z].all i64B = true := by simp [c10]
    have v0 := vb_len (icvB (nlen (lenR FF j0)))
    have v2 := vb_len (icvB (nlen (lenI j2)))
    have v3 := vb_len (icvB (nlen (lenI j3)))
    have vy := vb_len (icvB y)
    have zA := zb_len hA
    have z2 := zb_len b2
    have zZ := zb_len hZ
    have fl := flB_len b0 b1 he j0.length 0 (by omega)
    simp only [List.length_cons, List.length_nil] at zA zZ
    have ka := e9a j0 j1 j2 j3 r a0 a1 a2 a3 a4 a5 a6 a7 y z b0 b1 he s0 j0.length 0 (76 :: 69 :: 65 :: 84 :: vb (icv .u64 (nlen (lenR FF j0)))) (by omega) (by simp only [List.length_cons]; omega)
    have kb := e9b j0 j1 j2 j3 r a0 a1 a2 a3 a4 a5 a6 a7 y z s3 j3.length 0 ((((((76 :: 69 :: 65 :: 84 :: vb (icv .u64 (nlen (lenR FF j0)))) ++ flB j0 j1 j0.length 0).append (zb [r, a0, a1, a2, a3, a4, a5, a6, a7])).append (vb (icv .u64 (nlen (lenI j2))))).append (zb j2)).append (vb (icv .u64 (nlen (lenI j3))))) (by omega) (by simp only [List.append_eq, List.length_append, List.length_cons]; omega)
    have hd := drB_len j3
    have hh := f9_2 j0 j1 j2 j3 r a0 a1 a2 a3 a4 a5 a6 a7 y z (d0 := hc) (v0h0 := fun _ => ka) (v1h0 := fun _ => kb) (s0 := fun _ => icvB _) (s2 := fun _ => icvB _) (s5 := fun _ => icvB _) (s7 := fun _ => icvB _) (s1 := fun _ => okZ_mk hA (by simp only [List.append_eq, List.length_append, List.length_cons, List.length_nil, List.drop_zero] at *; omega)) (s3 := fun _ => by simp only [List.append_eq, List.length_append, List.length_cons, List.length_nil, List.drop_zero] at *; omega) (s4 := fun _ => okZ_mk b2 (by simp only [List.append_eq, List.length_append, List.length_cons, List.length_nil, List.drop_zero] at *; omega)) (s6 := fun _ => by simp only [List.append_eq, List.length_append, List.length_cons, List.length_nil, List.drop_zero] at *; omega) (s8 := fun _ => by simp only [List.append_eq, List.length_append, List.length_cons, List.length_nil, List.drop_zero] at *; omega) (s9 := fun _ => okZ_mk hZ (by simp only [List.append_eq, List.length_append, List.length_cons, List.length_nil, List.drop_zero] at *; omega))
    rw [hk] 
    unfold eB eB0; rw [hc]
    simp only [cond_false]
    simp only [List.drop_zero, List.append_eq, List.cons_append, List.append_assoc] at hh ⊢
    exact hh
end Go.Proofs.Ytlmnohdgfjienaa.Cf

set_option maxRecDepth 100000
set_option linter.all false
set_option maxHeartbeats 0
namespace Go.Proofs.Ytlmnohdgfjienaa.Cf
open Go.Abs Go.Proofs.Ytlmnohdgfjienaa.Code Go.Proofs.Ytlmnohdgfjienaa.Code
/-- a reader is where this stands -/
structure At (M : List Int) (a : Int) (rest : List Int) : Prop where
  ok : okC M a = true
  at_ : M.drop a.toNat = rest
theorem at_up {M rest : List Int} {a y x : Int} (h : At M a (vb y ++ rest)) (hu : u64B y = true) (hx : y ≤ x) : upV M a 0 x = y ∧ upR M a 0 x = 0 ∧ At M (upA M a 0 x) rest := by
  have hn := num0_vb rest hu h.at_
  have ho := (okC_iff.1 h.ok).1
  have hk : upOk M a 0 x = true := by unfold upOk; rw [hn]; exact decide_eq_true ⟨rfl, rfl, hx⟩
  refine ⟨by unfold upV; rw [hk, hn]; rfl, by unfold upR; rw [hn]; simp [hx], ⟨upA_ok _ _ h.ok, ?_⟩⟩
  unfold upA; rw [hk, hn]
  simp only [cond_true]
  rw [show (a + ((vb y).length : Int)).toNat = a.toNat + (vb y).length by omega, ← List.drop_drop, h.at_]
  simp
theorem at_st {M rest : List Int} {a : Int} (l : List Int) (hl : l.all i64B = true) (h : At M a (zb l ++ rest)) : ∀ i, i ≤ l.length → stR M a 0 i = 0 ∧ At M (stA M a 0 i) (zb (l.drop i) ++ rest)
  | 0, _ => ⟨rfl, h⟩
  | i + 1, hi => by
    obtain ⟨h1, h2⟩ := at_st l hl h i (by omega)
    have hx : i64B l[i] = true := List.all_eq_true.1 hl _ (List.getElem_mem (by omega))
    rw [List.drop_eq_getElem_cons (show i < l.length by omega), zb_cons, List.append_assoc] at h2
    obtain ⟨k1, k2, k3⟩ := at_up h2 (zzB hx) (x := 18446744073709551615) (by have := u64B_iff.1 (zzB hx); omega)
    have e1 : stR M a 0 (i + 1) = upR M (stA M a 0 i) (stR M a 0 i) 18446744073709551615 := rfl
    have e2 : stA M a 0 (i + 1) = upA M (stA M a 0 i) (stR M a 0 i) 18446744073709551615 := rfl
    rw [e1, e2, h1]
    exact ⟨k2, k3⟩
theorem at_sv {M rest : List Int} {a : Int} (l : List Int) (hl : l.all i64B = true) (h : At M a (zb l ++ rest)) {i : Nat} (hi : i < l.length) : stV M a 0 i = l[i] := by
  obtain ⟨h1, h2⟩ := at_st l hl h i (by omega)
  have hx : i64B l[i] = true := List.all_eq_true.1 hl _ (List.getElem_mem hi)
  rw [List.drop_eq_getElem_cons hi, zb_cons, List.append_assoc] at h2
  obtain ⟨k1, -, -⟩ := at_up h2 (zzB hx) (x := 18446744073709551615) (by have := u64B_iff.1 (zzB hx); omega)
  unfold stV; rw [h1, k1]; exact uz_zz
theorem icv_i64 {x : Int} (h : -9223372036854775808 ≤ x ∧ x ≤ 9223372036854775807) : icv .i64 x = x := by unfold icv; exact w_i64_in h
theorem icv_u64 {x : Int} (h : 0 ≤ x ∧ x ≤ 18446744073709551615) : icv .u64 x = x := by unfold icv; exact w_u64_in h
/-- a flow that is let be -/
theorem kind_in {E : El FF} {x : Int} (hx : x = E.1) (h : lF E = E) : 0 ≤ x ∧ x ≤ 2 := by
  have : kp E.1 0 2 = E.1 := congrArg Prod.fst h
  rw [hx, ← this]; exact kp_lo _ (by decide)
theorem at_fl (j0 : List (El FF)) (j1 : List Int) {M rest : List Int} (h0 : j0.all elB = true) (h1 : j1.all i64B = true) (he : j1.length = j0.length) (hk : ∀ i, i < j0.length → lF (getR FF j0 i) = getR FF j0 i) :
    ∀ (k i : Nat) (a : Int), i + k = j0.length → At M a (flB j0 j1 k i ++ rest) → (frD M k a 0).2.1 = 0 ∧ (frD M k a 0).2.2.1 = j0.drop i ∧ (frD M k a 0).2.2.2 = j1.drop i ∧ At M (frD M k a 0).1 rest
  | 0, i, a, e, h => by
    rw [List.drop_eq_nil_of_le (show j0.length ≤ i by omega), List.drop_eq_nil_of_le (show j1.length ≤ i by omega)]
    exact ⟨rfl, rfl, rfl, h⟩
  | k + 1, i, a, e, h => by
    have hi : i < j0.length := by omega
    have hi1 : i < j1.length := by omega
    have g0 : getR FF j0 i = j0[i] := by unfold getR; rw [List.getD_eq_getElem?_getD, List.getElem?_eq_getElem hi]; rfl
    have g1 : getI j1 i = j1[i] := by unfold getI; rw [List.getD_eq_getElem?_getD, List.getElem?_eq_getElem hi1]; rfl
    have hE : elB (getR FF j0 i) = true := by rw [g0]; exact List.all_eq_true.1 h0 _ (List.getElem_mem hi)
    have hx : i64B (getI j1 i) = true := by rw [g1]; exact List.all_eq_true.1 h1 _ (List.getElem_mem hi1)
    have hkd := kind_in (x := (getR FF j0 i).1) rfl (hk i hi)
    rw [flB, feB, List.append_assoc, List.append_assoc] at h
    obtain ⟨u1, u2, u3⟩ := at_up h (icvB _) (x := 2) (by rw [icv_u64 (by omega)]; omega)
    have hv := val_all hE hx
    generalize hG : getR FF j0 i = E at *
    generalize hX : getI j1 i = x at *
    have s0 := at_st _ hv u3 10 (by simp)
    have q := fun (n : Nat) (hn : n < 10) => at_sv _ hv u3 (i := n) (by simpa using hn)
    have eE : fE M a 0 = E := by
      unfold fE
      rw [u2, u1, q 0 (by omega), q 1 (by omega), q 2 (by omega), q 3 (by omega), q 4 (by omega), q 5 (by omega), q 6 (by omega), q 7 (by omega), q 8 (by omega), icv_u64 (by omega), icv_i64 (by omega)]
      rfl
    have eX : fX M a 0 = x := by unfold fX; rw [u2, q 9 (by omega)]; rfl
    have eR : fR M a 0 = 0 := by unfold fR; rw [u2]; exact s0.1
    have eA : At M (fA M a 0) (flB j0 j1 k (i + 1) ++ rest) := by
      unfold fA; rw [u2]
      have := s0.2
      simpa [zb] using this
    obtain ⟨w1, w2, w3, w4⟩ := at_fl j0 j1 h0 h1 he hk k (i + 1) (fA M a 0) (by omega) eA
    rw [frD, if_neg (by omega), eR, eE, eX]
    refine ⟨w1, ?_, ?_, w4⟩
    · rw [List.drop_eq_getElem_cons hi, ← g0]; exact congrArg _ w2
    · rw [List.drop_eq_getElem_cons hi1, ← g1]; exact congrArg _ w3
theorem at_pl {M rest : List Int} : ∀ (l : List Int) (a : Int), l.all i64B = true → At M a (zb l ++ rest) → (plD M l.length a 0).2.1 = 0 ∧ (plD M l.length a 0).2.2 = l ∧ At M (plD M l.length a 0).1 rest ∧ plS M l.length a 0 = false
  | [], a, hl, h => ⟨rfl, rfl, h, rfl⟩
  | x :: l, a, hl, h => by
    have s := at_st (x :: l) hl h 1 (by simp)
    have v := at_sv (x :: l) hl h (i := 0) (by simp)
    simp only [List.all_cons, Bool.and_eq_true] at hl
    obtain ⟨w1, w2, w3, w4⟩ := at_pl l (stA M a 0 1) hl.2 s.2
    rw [List.length_cons, plD, if_neg (by omega), plS, if_neg (by omega), s.1]
    exact ⟨w1, by rw [v]; exact congrArg _ w2, w3, w4⟩
def u32B (x : Int) : Bool := decide (0 ≤ x ∧ x ≤ 4294967295)
theorem at_dr {M rest : List Int} : ∀ (l : List Int) (a : Int), l.all u32B = true → At M a (drB l ++ rest) → (drD M l.length a 0).2.1 = 0 ∧ (drD M l.length a 0).2.2 = l ∧ At M (drD M l.length a 0).1 rest ∧ drS M l.length a 0 = false
  | [], a, hl, h => ⟨rfl, rfl, h, rfl⟩
  | x :: l, a, hl, h => by
    simp only [List.all_cons, Bool.and_eq_true] at hl
    have hx := of_decide_eq_true hl.1
    have e : drB (x :: l) = vb (icv .u64 x) ++ drB l := rfl
    rw [e, List.append_assoc] at h
    obtain ⟨u1, u2, u3⟩ := at_up h (icvB _) (x := 4294967295) (by rw [icv_u64 (by omega)]; omega)
    obtain ⟨w1, w2, w3, w4⟩ := at_dr l _ hl.2 u3
    rw [List.length_cons, drD, if_neg (by omega), drS, if_neg (by omega), u2]
    refine ⟨w1, ?_, w3, w4⟩
    rw [u1, icv_u64 (by omega), show icv .u32 x = x from by unfold icv; rw [w_u32]; omega]
    exact congrArg _ w2
theorem eB_by (j0 : List (El FF)) (j1 j2 j3 : List Int) (r a0 a1 a2 a3 a4 a5 a6 a7 y z : Int) (hB : cfgB j0 j1 j2 j3 r a0 a1 a2 a3 a4 a5 a6 a7 y z = true) (he : j1.length = j0.length) : byB (eB0 j0 j1 j2 j3 r a0 a1 a2 a3 a4 a5 a6 a7 y z) = true := by
  unfold cfgB at hB
  simp only [Bool.and_eq_true, decide_eq_true_eq] at hB
  obtain ⟨⟨⟨⟨b0, b1⟩, b2⟩, b3⟩, -⟩ := hB
  have v : ∀ x, byB (vb (icv .u64 x)) = true := fun x => vb_by _ _ (Nat.le_refl _) (by have := u64B_iff.1 (icvB x); omega)
  have zv : ∀ l : List Int, l.all i64B = true → byB (zb l) = true := by
    intro l hl
    induction l with
    | nil => rfl
    | cons x l ih =>
      simp only [List.all_cons, Bool.and_eq_true] at hl
      rw [zb_cons]; exact byB_app (vb_by _ _ (Nat.le_refl _) (by have := u64B_iff.1 (zzB hl.1); omega)) (ih hl.2)
  have dv : ∀ l : List Int, byB (drB l) = true := by
    intro l
    induction l with
    | nil => rfl
    | cons x l ih => exact byB_app (v x) ih
  have fv : ∀ k i, i + k = j0.length → byB (flB j0 j1 k i) = true := by
    intro k
    induction k with
    | zero => intro i e; rfl
    | succ k ih =>
      intro i e
      have hi : i < j0.length := by omega
      have hi1 : i < j1.length := by omega
      have g0 : getR FF j0 i = j0[i] := by unfold getR; rw [List.getD_eq_getElem?_getD, List.getElem?_eq_getElem hi]; rfl
      have g1 : getI j1 i = j1[i] := by unfold getI; rw [List.getD_eq_getElem?_getD, List.getElem?_eq_getElem hi1]; rfl
      rw [flB, feB]
      refine byB_app (byB_app (v _) (zv _ (val_all ?_ ?_))) (ih (i + 1) (by omega))
      · rw [g0]; exact List.all_eq_true.1 b0 _ (List.getElem_mem hi)
      · rw [g1]; exact List.all_eq_true.1 b1 _ (List.getElem_mem hi1)
  simp only [List.all_cons, List.all_nil, Bool.and_eq_true] at b3
  obtain ⟨c0, c1, c2, c3, c4, c5, c6, c7, c8, c9, c10, -⟩ := b3
  unfold eB0
  exact byB_app (byB_app (byB_app (byB_app (byB_app (byB_app (byB_app (byB_app (v _) (fv _ _ (by omega))) (zv _ (by simp [c0, c1, c2, c3, c4, c5, c6, c7, c8]))) (v _)) (zv _ b2)) (v _)) (dv _)) (v _)) (zv _ (by simp [c10]))
end Go.Proofs.Ytlmnohdgfjienaa.Cf

set_option maxRecDepth 100000
set_option linter.all false
set_option maxHeartbeats 0
namespace Go.Proofs.Ytlmnohdgfjienaa.Cf
open Go.Abs Go.Proofs.Ytlmnohdgfjienaa.Code Go.Proofs.Ytlmnohdgfjienaa.Code
def finA (m : List Int) (a r : Int) : Int := stA m (upA m (drQ m a r).1 (drQ m a r).2.1 1000) (upR m (drQ m a r).1 (drQ m a r).2.1 1000) 1
def finR (m : List Int) (a r : Int) : Int := stR m (upA m (drQ m a r).1 (drQ m a r).2.1 1000) (upR m (drQ m a r).1 (drQ m a r).2.1 1000) 1
theorem fin_stuck {m : List Int} {a r : Int} (h : (drQ m a r).2.1 ≠ 0) : finA m a r = (drQ m a r).1 ∧ finR m a r = (drQ m a r).2.1 := by
  unfold finA finR; rw [(stuck h).2.1, (stuck h).2.2]; exact stuck_st h 1
theorem fin_eq (m : List Int) (a r : Int) : rsA m a r = finA m a r ∧ rsR m a r = finR m a r ∧ (finR m a r = 0 → plE m a r = false ∧ drE m a r = false ∧ rsP m a r = sgL m (p0A m a r) (p0R m a r) (p0N m a r) ∧ rsL m a r = dnL m (d0N m a r) (d0A m a r) (d0R m a r)) := by
  obtain ⟨p1, p2, p3, p4⟩ := pl_sg m (p0N m a r) (p0A m a r) (p0R m a r)
  obtain ⟨q1, q2, q3, q4⟩ := dr_dn m (d0N m a r) (d0A m a r) (d0R m a r)
  cases hp : plE m a r with
  | true =>
    have hne : (plQ m a r).2.1 ≠ 0 := by unfold plQ; rw [p2]; exact p4 hp
    have hN : d0N m a r = 0 := by unfold d0N upN; rw [(stuck hne).1]; rfl
    have hQ : drQ m a r = ((plQ m a r).1, (plQ m a r).2.1, []) := by
      unfold drQ; rw [hN]; unfold drD d0A d0R; rw [(stuck hne).2.1, (stuck hne).2.2]
    have hq : (drQ m a r).2.1 ≠ 0 := by rw [hQ]; exact hne
    obtain ⟨f1, f2⟩ := fin_stuck hq
    rw [hQ] at f1 f2
    unfold rsA rsR; rw [hp, f1, f2]
    exact ⟨rfl, rfl, fun h => absurd h hne⟩
  | false =>
    cases hd : drE m a r with
    | true =>
      have hq : (drQ m a r).2.1 ≠ 0 := by unfold drQ; rw [q2]; exact q4 hd
      obtain ⟨f1, f2⟩ := fin_stuck hq
      unfold rsA rsR; rw [hp, hd, f1, f2]
      exact ⟨rfl, rfl, fun h => absurd h hq⟩
    | false =>
      refine ⟨by unfold rsA; rw [hp, hd]; rfl, by unfold rsR; rw [hp, hd]; rfl, fun h => ⟨rfl, rfl, ?_, ?_⟩⟩
      · have h0 : (plQ m a r).2.1 = 0 := by
          apply Classical.byContradiction; intro hne
          have hN : d0N m a r = 0 := by unfold d0N upN; rw [(stuck hne).1]; rfl
          have hQ : drQ m a r = ((plQ m a r).1, (plQ m a r).2.1, []) := by
            unfold drQ; rw [hN]; unfold drD d0A d0R; rw [(stuck hne).2.1, (stuck hne).2.2]
          have hq : (drQ m a r).2.1 ≠ 0 := by rw [hQ]; exact hne
          exact hq ((fin_stuck hq).2 ▸ h)
        unfold plQ at h0; rw [p2] at h0
        exact (p3 h0).1
      · have h0 : (drQ m a r).2.1 = 0 := by
          apply Classical.byContradiction; intro hq
          exact hq ((fin_stuck hq).2 ▸ h)
        unfold rsL; rw [hp]
        unfold drQ at h0 ⊢; rw [q2] at h0
        exact (q3 h0).1
/-- the reference's states are the program's -/
structure Sh (m : List Int) : Prop where
  M : tl m = m.drop 4
  ok0 : okC (tl m) 0 = true
  okA : okC (tl m) (sA0 m) = true
theorem sh_mk {m : List Int} (h4 : 4 ≤ m.length) (hm : m.length ≤ 50000) (hb : byB m = true) : Sh m := by
  have hd := tl_drop m h4
  have o0 : okC (tl m) 0 = true := by
    rw [hd, okC_iff, List.length_drop]
    exact ⟨by omega, byB_iff.2 fun c hc => byB_iff.1 hb c (List.mem_of_mem_drop hc)⟩
  exact ⟨hd, o0, ok_fq _ o0⟩
theorem ok_4 {m : List Int} {a : Int} (h4 : 4 ≤ m.length) (hm : m.length ≤ 50000) (hb : byB m = true) (h : okC (m.drop 4) a = true) : okC m (a + 4) = true := by
  rw [okC_iff, List.length_drop] at h
  exact okC_iff.2 ⟨by omega, hb⟩
theorem icv_up {m : List Int} {a : Int} (r x : Int) (h : okC m a = true) (hx : 0 ≤ x ∧ x ≤ 5000) : icv .i64 (upV m a r x) = ((upN m a r x : Nat) : Int) ∧ upN m a r x ≤ 5000 ∧ cnt (upV m a r x) = upN m a r x := by
  obtain ⟨e1, e2⟩ := upN_eq (x := x) r h hx.1
  have e3 : icv .i64 (upV m a r x) = upV m a r x := by rw [← e1]; exact icv_i64 (by omega)
  refine ⟨by rw [e3, e1], by omega, ?_⟩
  unfold cnt; rw [e3]; rfl
theorem upN_4 {m : List Int} {a : Int} (r x : Int) (h : 0 ≤ a) : upN m (a + 4) r x = upN (m.drop 4) a r x := by unfold upN; rw [(up_4 r x h).1]
end Go.Proofs.Ytlmnohdgfjienaa.Cf

set_option maxRecDepth 100000
set_option linter.all false
set_option maxHeartbeats 0
namespace Go.Proofs.Ytlmnohdgfjienaa.Cf
open Go.Abs Go.Proofs.Ytlmnohdgfjienaa.Code Go.Proofs.Ytlmnohdgfjienaa.Code
theorem mg_get {m : List Int} (h4 : 4 ≤ m.length) (hb : byB m = true) : mg m = true ↔ getI m 0 = 76 ∧ getI m 1 = 69 ∧ getI m 2 = 65 ∧ getI m 3 = 84 := by
  obtain ⟨x0, l0, rfl⟩ : ∃ x l, m = x :: l := by cases m with | nil => simp at h4 | cons x l => exact ⟨x, l, rfl⟩
  obtain ⟨x1, l1, rfl⟩ : ∃ x l, l0 = x :: l := by cases l0 with | nil => simp at h4 | cons x l => exact ⟨x, l, rfl⟩
  obtain ⟨x2, l2, rfl⟩ : ∃ x l, l1 = x :: l := by cases l1 with | nil => simp at h4 | cons x l => exact ⟨x, l, rfl⟩
  obtain ⟨x3, l3, rfl⟩ : ∃ x l, l2 = x :: l := by cases l2 with | nil => simp at h4 | cons x l => exact ⟨x, l, rfl⟩
  have e : subI (x0 :: x1 :: x2 :: x3 :: l3) 0 (subN (imin (nlen (lenI (x0 :: x1 :: x2 :: x3 :: l3))) 4) 0) = [x0, x1, x2, x3] := by
    have : subN (imin (nlen (lenI (x0 :: x1 :: x2 :: x3 :: l3))) 4) 0 = 4 := by unfold subN imin nlen lenI; simp only [List.length_cons]; omega
    rw [this]; rfl
  have hr := byB_iff.1 hb
  have r0 := hr x0 (by simp)
  have r1 := hr x1 (by simp)
  have r2 := hr x2 (by simp)
  have r3 := hr x3 (by simp)
  constructor
  · intro h
    unfold mg f42r0 at h
    rw [e] at h
    have k : ∀ a b c d : Nat, a < 256 → b < 256 → c < 256 → d < 256 → (bif ile (slen (bs [76, 69, 65, 84])) (slen (strI [(a : Int), b, c, d])) then seqS (ssub (strI [(a : Int), b, c, d]) 0 (slen (bs [76, 69, 65, 84]))) (bs [76, 69, 65, 84]) else false) = true → a = 76 ∧ b = 69 ∧ c = 65 ∧ d = 84 := by
      intro a b c d ha hb hc hd hh
      have e1 : ile (slen (bs [76, 69, 65, 84])) (slen (strI [(a : Int), b, c, d])) = true := rfl
      rw [e1, cond_true] at hh
      have e2 : ssub (strI [(a : Int), b, c, d]) 0 (slen (bs [76, 69, 65, 84])) = strI [(a : Int), b, c, d] := rfl
      rw [e2] at hh
      unfold seqS at hh
      have hh2 : ((strI [(a : Int), b, c, d]).data == (bs [76, 69, 65, 84]).data) = true := hh
      have hh3 : (strI [(a : Int), b, c, d]).data.toList = (bs [76, 69, 65, 84]).data.toList := by rw [eq_of_beq hh2]
      have hh4 : [UInt8.ofNat a, UInt8.ofNat b, UInt8.ofNat c, UInt8.ofNat d] = [UInt8.ofNat 76, UInt8.ofNat 69, UInt8.ofNat 65, UInt8.ofNat 84] := hh3
      have inj : ∀ x y : Nat, x < 256 → y < 256 → UInt8.ofNat x = UInt8.ofNat y → x = y := fun x y hx hy hq => by
        have := congrArg UInt8.toNat hq
        simp only [UInt8.toNat_ofNat'] at this
        omega
      simp only [List.cons.injEq, and_true] at hh4
      exact ⟨inj _ _ ha (by omega) hh4.1, inj _ _ hb (by omega) hh4.2.1, inj _ _ hc (by omega) hh4.2.2.1, inj _ _ hd (by omega) hh4.2.2.2⟩
    obtain ⟨n0, rfl⟩ := Int.eq_ofNat_of_zero_le r0.1
    obtain ⟨n1, rfl⟩ := Int.eq_ofNat_of_zero_le r1.1
    obtain ⟨n2, rfl⟩ := Int.eq_ofNat_of_zero_le r2.1
    obtain ⟨n3, rfl⟩ := Int.eq_ofNat_of_zero_le r3.1
    obtain ⟨q0, q1, q2, q3⟩ := k n0 n1 n2 n3 (by omega) (by omega) (by omega) (by omega) h
    subst q0 q1 q2 q3
    exact ⟨rfl, rfl, rfl, rfl⟩
  · rintro ⟨q0, q1, q2, q3⟩
    have q0' : x0 = 76 := q0
    have q1' : x1 = 69 := q1
    have q2' : x2 = 65 := q2
    have q3' : x3 = 84 := q3
    subst q0' q1' q2' q3'
    have : mg (76 :: 69 :: 65 :: 84 :: l3) = true := by
      unfold mg; rw [e]; decide
    exact this
theorem c11 (m : List Int) (hm : m.length ≤ 50000) (hb : byB m = true) : ACalls Try.prog 11 [AV.sw 0 1] [AObj.ints 0 false .u8 m] (AV.tup [AV.agg [AV.sw 1 10, AV.sw 2 1, iI (zI m (dV m 0)), iI (zI m (dV m 1)), iI (zI m (dV m 2)), iI (zI m (dV m 3)), iI (zI m (dV m 4)), iI (zI m (dV m 5)), iI (zI m (dV m 6)), iI (zI m (dV m 7)), iI (zI m (dV m 8)), AV.sw 3 1, AV.sw 4 1, iI (zI m (rsT (tl m) (sA0 m) (sR0 m))), iI (zI m (rsE (tl m) (sA0 m) (sR0 m)))], iI (er m), iI (plc m)]) [] [AObj.rows true FF (zF m (fqF (tl m) 0 0)), AObj.ints 0 true .i64 (zL m (fqB (tl m) 0 0)), AObj.ints 0 true .i64 (zL m (rsP (tl m) (sA0 m) (sR0 m))), AObj.ints 0 true .u32 (zL m (rsL (tl m) (sA0 m) (sR0 m)))] := by
  have iB : ∀ (i : Nat), i < m.length → inB (i : Int) (lenI m) := fun i hi => ⟨by omega, by unfold lenI; omega⟩
  have lB : ∀ (i : Nat), i < m.length → ltN i (lenI m) := fun i hi => hi
  by_cases h4 : 4 ≤ m.length
  rotate_left
  · have hmg : mg m = false := by
      cases hq : mg m with
      | false => rfl
      | true => exact absurd (mg_len hq) h4
    have d : notB (mg m) = true := by rw [hmg]; rfl
    have e : er m = 5 := by unfold er; rw [d]; rfl
    have h := f11_1 m (d0 := by unfold ilt nlen lenI; exact decide_eq_true (by omega))
    dsimp only [kScW0, kScW1, kScW2, kScW3, kScW4, kScW5, kScW6, kScW7, kScW8, kScW9, kScW10, kScW11, kScW12, kScW13, kScW14, kScW15, kScW16, kScW17, kScW18, kScW19, kScW20, kScW21, kScW22, kScW23, kScW24, kScW25, kScW26, kScW27, kScW28, kScW29, kScW30, kScW31, kScW32, kScW33, kScW34, kScW35, kScW36, kScW37, kScW38, kScW39, kScW40, kScW41, kScW42] at h
    unfold zI zF zL plc; rw [e, d]
    exact h
  have d0 : ilt (nlen (lenI m)) 4 = false := by unfold ilt nlen lenI; exact decide_eq_false (by omega)
  have key := mg_get h4 hb
  by_cases k0 : getI m 0 = 76
  rotate_left
  · have hmg : mg m = false := by cases hq : mg m with | false => rfl | true => exact absurd (key.1 hq).1 k0
    have d : notB (mg m) = true := by rw [hmg]; rfl
    have e : er m = 5 := by unfold er; rw [d]; rfl
    have h := f11_2 m (d0 := d0) (d1 := by unfold ine; simpa using k0) (s0 := fun _ => iB 0 (by omega)) (s1 := fun _ => lB 0 (by omega))
    dsimp only [kScW0, kScW1, kScW2, kScW3, kScW4, kScW5, kScW6, kScW7, kScW8, kScW9, kScW10, kScW11, kScW12, kScW13, kScW14, kScW15, kScW16, kScW17, kScW18, kScW19, kScW20, kScW21, kScW22, kScW23, kScW24, kScW25, kScW26, kScW27, kScW28, kScW29, kScW30, kScW31, kScW32, kScW33, kScW34, kScW35, kScW36, kScW37, kScW38, kScW39, kScW40, kScW41, kScW42] at h
    unfold zI zF zL plc; rw [e, d]
    exact h
  have d1 : ine (getI m 0) 76 = false := by unfold ine; simpa using k0
  by_cases k1 : getI m 1 = 69
  rotate_left
  · have hmg : mg m = false := by cases hq : mg m with | false => rfl | true => exact absurd (key.1 hq).2.1 k1
    have d : notB (mg m) = true := by rw [hmg]; rfl
    have e : er m = 5 := by unfold er; rw [d]; rfl
    have h := f11_3 m (d0 := d0) (d1 := d1) (d2 := by unfold ine; simpa using k1) (s0 := fun _ => iB 0 (by omega)) (s1 := fun _ => lB 0 (by omega)) (s2 := fun _ _ => iB 1 (by omega)) (s3 := fun _ _ => lB 1 (by omega))
    dsimp only [kScW0, kScW1, kScW2, kScW3, kScW4, kScW5, kScW6, kScW7, kScW8, kScW9, kScW10, kScW11, kScW12, kScW13, kScW14, kScW15, kScW16, kScW17, kScW18, kScW19, kScW20, kScW21, kScW22, kScW23, kScW24, kScW25, kScW26, kScW27, kScW28, kScW29, kScW30, kScW31, kScW32, kScW33, kScW34, kScW35, kScW36, kScW37, kScW38, kScW39, kScW40, kScW41, kScW42] at h
    unfold zI zF zL plc; rw [e, d]
    exact h
  have d2 : ine (getI m 1) 69 = false := by unfold ine; simpa using k1
  by_cases k2 : getI m 2 = 65
  rotate_left
  · have hmg : mg m = false := by cases hq : mg m with | false => rfl | true => exact absurd (key.1 hq).2.2.1 k2
    have d : notB (mg m) = true := by rw [hmg]; rfl
    have e : er m = 5 := by unfold er; rw [d]; rfl
    have h := f11_4 m (d0 := d0) (d1 := d1) (d2 := d2) (d3 := by unfold ine; simpa using k2) (s0 := fun _ => iB 0 (by omega)) (s1 := fun _ => lB 0 (by omega)) (s2 := fun _ _ => iB 1 (by omega)) (s3 := fun _ _ => lB 1 (by omega)) (s4 := fun _ _ _ => iB 2 (by omega)) (s5 := fun _ _ _ => lB 2 (by omega))
    dsimp only [kScW0, kScW1, kScW2, kScW3, kScW4, kScW5, kScW6, kScW7, kScW8, kScW9, kScW10, kScW11, kScW12, kScW13, kScW14, kScW15, kScW16, kScW17, kScW18, kScW19, kScW20, kScW21, kScW22, kScW23, kScW24, kScW25, kScW26, kScW27, kScW28, kScW29, kScW30, kScW31, kScW32, kScW33, kScW34, kScW35, kScW36, kScW37, kScW38, kScW39, kScW40, kScW41, kScW42] at h
    unfold zI zF zL plc; rw [e, d]
    exact h
  have d3 : ine (getI m 2) 65 = false := by unfold ine; simpa using k2
  by_cases k3 : getI m 3 = 84
  rotate_left
  · have hmg : mg m = false := by cases hq : mg m with | false => rfl | true => exact absurd (key.1 hq).2.2.2 k3
    have d : notB (mg m) = true := by rw [hmg]; rfl
    have e : er m = 5 := by unfold er; rw [d]; rfl
    have h := f11_5 m (d0 := d0) (d1 := d1) (d2 := d2) (d3 := d3) (d4 := by unfold ine; simpa using k3) (s0 := fun _ => iB 0 (by omega)) (s1 := fun _ => lB 0 (by omega)) (s2 := fun _ _ => iB 1 (by omega)) (s3 := fun _ _ => lB 1 (by omega)) (s4 := fun _ _ _ => iB 2 (by omega)) (s5 := fun _ _ _ => lB 2 (by omega)) (s6 := fun _ _ _ _ => iB 3 (by omega)) (s7 := fun _ _ _ _ => lB 3 (by omega))
    dsimp only [kScW0, kScW1, kScW2, kScW3, kScW4, kScW5, kScW6, kScW7, kScW8, kScW9, kScW10, kScW11, kScW12, kScW13, kScW14, kScW15, kScW16, kScW17, kScW18, kScW19, kScW20, kScW21, kScW22, kScW23, kScW24, kScW25, kScW26, kScW27, kScW28, kScW29, kScW30, kScW31, kScW32, kScW33, kScW34, kScW35, kScW36, kScW37, kScW38, kScW39, kScW40, kScW41, kScW42] at h
    unfold zI zF zL plc; rw [e, d]
    exact h
  have d4 : ine (getI m 3) 84 = false := by unfold ine; simpa using k3
  have hmg : mg m = true := key.2 ⟨k0, k1, k2, k3⟩
  have dm : notB (mg m) = false := by rw [hmg]; rfl
  obtain ⟨hM, o0, o1⟩ := sh_mk h4 hm hb
  rw [hM] at o0
  have o1' : okC (m.drop 4) (sA0 m) = true := hM ▸ o1
  -- flows
  have o4 : okC m 4 = true := ok_4 (a := 0) h4 hm hb o0
  obtain ⟨u1, u2, u3⟩ := up_4 (m := m) (a := 0) 0 256 (by omega)
  obtain ⟨v1, v2, v3⟩ := icv_up (x := 256) 0 o4 (by omega)
  have eN : upN m 4 0 256 = upN (m.drop 4) 0 0 256 := upN_4 (a := 0) 0 256 (by omega)
  have oU := upA_ok 0 256 o4
  have ka := l11a m (upN m 4 0 256) v2 (upN m 4 0 256) 0 (upA m 4 0 256) (upR m 4 0 256) [] [] (by omega) rfl rfl oU
  rw [← v1, List.nil_append, List.nil_append] at ka
  have eQ : frD m (upN m 4 0 256) (upA m 4 0 256) (upR m 4 0 256) = (sA0 m + 4, sR0 m, fqF (tl m) 0 0, fqB (tl m) 0 0) := by
    rw [eN, show upA m 4 0 256 = upA (m.drop 4) 0 0 256 + 4 from u2, show upR m 4 0 256 = upR (m.drop 4) 0 0 256 from u3, fr_4 _ _ _ (upA_ok _ _ o0)]
    unfold sA0 sR0 fqA fqR fqF fqB frQ; rw [hM]
  rw [eQ] at ka
  simp only at ka
  have oA : okC m (sA0 m + 4) = true := ok_4 h4 hm hb o1'
  -- nine numbers, the plan
  have t9 := st_4 (sR0 m) o1' 9
  have oS := ok_st m _ (sR0 m) oA 9
  have oS' := ok_st _ _ (sR0 m) o1' 9
  have oP := upA_ok (stR m (sA0 m + 4) (sR0 m) 9) 4096 oS
  obtain ⟨w1, w2, w3⟩ := icv_up (x := 4096) (stR m (sA0 m + 4) (sR0 m) 9) oS (by omega)
  have h30 : decide (0 ≤ upV m (stA m (sA0 m + 4) (sR0 m) 9) (stR m (sA0 m + 4) (sR0 m) 9) 4096 ∧ upV m (stA m (sA0 m + 4) (sR0 m) 9) (stR m (sA0 m + 4) (sR0 m) 9) 4096 ≤ 5000) = true := by
    obtain ⟨e1, e2⟩ := upN_eq (x := 4096) (stR m (sA0 m + 4) (sR0 m) 9) oS (by omega)
    exact decide_eq_true (by omega)
  obtain ⟨x1, x2, x3⟩ := up_4 (m := m) (stR (m.drop 4) (sA0 m) (sR0 m) 9) 4096 (ok_pos oS')
  have eP : upA m (stA m (sA0 m + 4) (sR0 m) 9) (stR m (sA0 m + 4) (sR0 m) 9) 4096 = p0A (tl m) (sA0 m) (sR0 m) + 4 ∧ upR m (stA m (sA0 m + 4) (sR0 m) 9) (stR m (sA0 m + 4) (sR0 m) 9) 4096 = p0R (tl m) (sA0 m) (sR0 m) ∧ cnt (upV m (stA m (sA0 m + 4) (sR0 m) 9) (stR m (sA0 m + 4) (sR0 m) 9) 4096) = p0N (tl m) (sA0 m) (sR0 m) := by
    rw [w3, t9.1, t9.2, x2, x3, upN_4 _ _ (ok_pos oS'), hM]; exact ⟨rfl, rfl, rfl⟩
  obtain ⟨eP1, eP2, eP3⟩ := eP
  have oP' : okC (m.drop 4) (p0A (tl m) (sA0 m) (sR0 m)) = true := by rw [hM]; exact upA_ok _ _ oS'
  have tq := st_4 (p0R (tl m) (sA0 m) (sR0 m)) oP' (p0N (tl m) (sA0 m) (sR0 m))
  obtain ⟨pl1, pl2, -, -⟩ := pl_sg (tl m) (p0N (tl m) (sA0 m) (sR0 m)) (p0A (tl m) (sA0 m) (sR0 m)) (p0R (tl m) (sA0 m) (sR0 m))
  have eA2 : stA m (upA m (stA m (sA0 m + 4) (sR0 m) 9) (stR m (sA0 m + 4) (sR0 m) 9) 4096) (upR m (stA m (sA0 m + 4) (sR0 m) 9) (stR m (sA0 m + 4) (sR0 m) 9) 4096) (cnt (upV m (stA m (sA0 m + 4) (sR0 m) 9) (stR m (sA0 m + 4) (sR0 m) 9) 4096)) = (plQ (tl m) (sA0 m) (sR0 m)).1 + 4 := by
    rw [eP1, eP2, eP3, tq.1, ← hM]; unfold plQ; rw [pl1]
  have eR2 : stR m (upA m (stA m (sA0 m + 4) (sR0 m) 9) (stR m (sA0 m + 4) (sR0 m) 9) 4096) (upR m (stA m (sA0 m + 4) (sR0 m) 9) (stR m (sA0 m + 4) (sR0 m) 9) 4096) (cnt (upV m (stA m (sA0 m + 4) (sR0 m) 9) (stR m (sA0 m + 4) (sR0 m) 9) 4096)) = (plQ (tl m) (sA0 m) (sR0 m)).2.1 := by
    rw [eP1, eP2, eP3, tq.2, ← hM]; unfold plQ; rw [pl2]
  have oQ := ok_st m _ (upR m (stA m (sA0 m + 4) (sR0 m) 9) (stR m (sA0 m + 4) (sR0 m) 9) 4096) oP (cnt (upV m (stA m (sA0 m + 4) (sR0 m) 9) (stR m (sA0 m + 4) (sR0 m) 9) 4096))
  have oQ2 := oQ
  rw [eA2] at oQ2
  have oQ' : okC (m.drop 4) (plQ (tl m) (sA0 m) (sR0 m)).1 = true := by rw [← hM]; exact ok_pl _ _ _ _ (hM ▸ oP')
  -- the draws
  obtain ⟨y1, y2, y3⟩ := icv_up (x := 4096) (plQ (tl m) (sA0 m) (sR0 m)).2.1 oQ2 (by omega)
  obtain ⟨z1, z2, z3⟩ := up_4 (m := m) (plQ (tl m) (sA0 m) (sR0 m)).2.1 4096 (ok_pos oQ')
  have eD : upA m ((plQ (tl m) (sA0 m) (sR0 m)).1 + 4) (plQ (tl m) (sA0 m) (sR0 m)).2.1 4096 = d0A (tl m) (sA0 m) (sR0 m) + 4 ∧ upR m ((plQ (tl m) (sA0 m) (sR0 m)).1 + 4) (plQ (tl m) (sA0 m) (sR0 m)).2.1 4096 = d0R (tl m) (sA0 m) (sR0 m) ∧ upN m ((plQ (tl m) (sA0 m) (sR0 m)).1 + 4) (plQ (tl m) (sA0 m) (sR0 m)).2.1 4096 = d0N (tl m) (sA0 m) (sR0 m) := by
    rw [z2, z3, upN_4 _ _ (ok_pos oQ'), ← hM]; exact ⟨rfl, rfl, rfl⟩
  have oD0 : okC (m.drop 4) (d0A (tl m) (sA0 m) (sR0 m)) = true := by rw [← hM]; exact upA_ok _ _ (hM ▸ oQ')
  obtain ⟨n1, n2, n3⟩ := dn_4 (m := m) (d0N (tl m) (sA0 m) (sR0 m)) (d0A (tl m) (sA0 m) (sR0 m)) (d0R (tl m) (sA0 m) (sR0 m)) oD0
  obtain ⟨dr1, dr2, -, -⟩ := dr_dn (tl m) (d0N (tl m) (sA0 m) (sR0 m)) (d0A (tl m) (sA0 m) (sR0 m)) (d0R (tl m) (sA0 m) (sR0 m))
  have kb0 := l11b m (d0N (tl m) (sA0 m) (sR0 m)) (by rw [← eD.2.2]; exact y2) (stV m (sA0 m + 4) (sR0 m) 0) (stV m (sA0 m + 4) (sR0 m) 1) (stV m (sA0 m + 4) (sR0 m) 2) (stV m (sA0 m + 4) (sR0 m) 3) (stV m (sA0 m + 4) (sR0 m) 4) (stV m (sA0 m + 4) (sR0 m) 5) (stV m (sA0 m + 4) (sR0 m) 6) (stV m (sA0 m + 4) (sR0 m) 7) (stV m (sA0 m + 4) (sR0 m) 8) (fqF (tl m) 0 0) (fqB (tl m) 0 0) (sgL m (upA m (stA m (sA0 m + 4) (sR0 m) 9) (stR m (sA0 m + 4) (sR0 m) 9) 4096) (upR m (stA m (sA0 m + 4) (sR0 m) 9) (stR m (sA0 m + 4) (sR0 m) 9) 4096) (cnt (upV m (stA m (sA0 m + 4) (sR0 m) 9) (stR m (sA0 m + 4) (sR0 m) 9) 4096))) (d0N (tl m) (sA0 m) (sR0 m)) 0 (d0A (tl m) (sA0 m) (sR0 m) + 4) (d0R (tl m) (sA0 m) (sR0 m)) [] (by omega) rfl (by rw [← eD.1]; exact upA_ok _ _ oQ2)
  rw [List.nil_append, n1, n2, n3, ← hM, ← dr1, ← dr2] at kb0
  have kb : L11bL m (d0N (tl m) (sA0 m) (sR0 m) + 1) (icv .i64 (upV m (stA m (upA m (stA m (sA0 m + 4) (sR0 m) 9) (stR m (sA0 m + 4) (sR0 m) 9) 4096) (upR m (stA m (sA0 m + 4) (sR0 m) 9) (stR m (sA0 m + 4) (sR0 m) 9) 4096) (cnt (upV m (stA m (sA0 m + 4) (sR0 m) 9) (stR m (sA0 m + 4) (sR0 m) 9) 4096))) (stR m (upA m (stA m (sA0 m + 4) (sR0 m) 9) (stR m (sA0 m + 4) (sR0 m) 9) 4096) (upR m (stA m (sA0 m + 4) (sR0 m) 9) (stR m (sA0 m + 4) (sR0 m) 9) 4096) (cnt (upV m (stA m (sA0 m + 4) (sR0 m) 9) (stR m (sA0 m + 4) (sR0 m) 9) 4096))) 4096)) (upA m (stA m (upA m (stA m (sA0 m + 4) (sR0 m) 9) (stR m (sA0 m + 4) (sR0 m) 9) 4096) (upR m (stA m (sA0 m + 4) (sR0 m) 9) (stR m (sA0 m + 4) (sR0 m) 9) 4096) (cnt (upV m (stA m (sA0 m + 4) (sR0 m) 9) (stR m (sA0 m + 4) (sR0 m) 9) 4096))) (stR m (upA m (stA m (sA0 m + 4) (sR0 m) 9) (stR m (sA0 m + 4) (sR0 m) 9) 4096) (upR m (stA m (sA0 m + 4) (sR0 m) 9) (stR m (sA0 m + 4) (sR0 m) 9) 4096) (cnt (upV m (stA m (sA0 m + 4) (sR0 m) 9) (stR m (sA0 m + 4) (sR0 m) 9) 4096))) 4096) (upR m (stA m (upA m (stA m (sA0 m + 4) (sR0 m) 9) (stR m (sA0 m + 4) (sR0 m) 9) 4096) (upR m (stA m (sA0 m + 4) (sR0 m) 9) (stR m (sA0 m + 4) (sR0 m) 9) 4096) (cnt (upV m (stA m (sA0 m + 4) (sR0 m) 9) (stR m (sA0 m + 4) (sR0 m) 9) 4096))) (stR m (upA m (stA m (sA0 m + 4) (sR0 m) 9) (stR m (sA0 m + 4) (sR0 m) 9) 4096) (upR m (stA m (sA0 m + 4) (sR0 m) 9) (stR m (sA0 m + 4) (sR0 m) 9) 4096) (cnt (upV m (stA m (sA0 m + 4) (sR0 m) 9) (stR m (sA0 m + 4) (sR0 m) 9) 4096))) 4096) (stV m (sA0 m + 4) (sR0 m) 0) (stV m (sA0 m + 4) (sR0 m) 1) (stV m (sA0 m + 4) (sR0 m) 2) (stV m (sA0 m + 4) (sR0 m) 3) (stV m (sA0 m + 4) (sR0 m) 4) (stV m (sA0 m + 4) (sR0 m) 5) (stV m (sA0 m + 4) (sR0 m) 6) (stV m (sA0 m + 4) (sR0 m) 7) (stV m (sA0 m + 4) (sR0 m) 8) (fqF (tl m) 0 0) (fqB (tl m) 0 0) (sgL m (upA m (stA m (sA0 m + 4) (sR0 m) 9) (stR m (sA0 m + 4) (sR0 m) 9) 4096) (upR m (stA m (sA0 m + 4) (sR0 m) 9) (stR m (sA0 m + 4) (sR0 m) 9) 4096) (cnt (upV m (stA m (sA0 m + 4) (sR0 m) 9) (stR m (sA0 m + 4) (sR0 m) 9) 4096))) 0 [] = some ((drQ (tl m) (sA0 m) (sR0 m)).1 + 4, (drQ (tl m) (sA0 m) (sR0 m)).2.1, stV m (sA0 m + 4) (sR0 m) 0, stV m (sA0 m + 4) (sR0 m) 1, stV m (sA0 m + 4) (sR0 m) 2, stV m (sA0 m + 4) (sR0 m) 3, stV m (sA0 m + 4) (sR0 m) 4, stV m (sA0 m + 4) (sR0 m) 5, stV m (sA0 m + 4) (sR0 m) 6, stV m (sA0 m + 4) (sR0 m) 7, stV m (sA0 m + 4) (sR0 m) 8, fqF (tl m) 0 0, fqB (tl m) 0 0, sgL m (upA m (stA m (sA0 m + 4) (sR0 m) 9) (stR m (sA0 m + 4) (sR0 m) 9) 4096) (upR m (stA m (sA0 m + 4) (sR0 m) 9) (stR m (sA0 m + 4) (sR0 m) 9) 4096) (cnt (upV m (stA m (sA0 m + 4) (sR0 m) 9) (stR m (sA0 m + 4) (sR0 m) 9) 4096)), dnL (tl m) (d0N (tl m) (sA0 m) (sR0 m)) (d0A (tl m) (sA0 m) (sR0 m)) (d0R (tl m) (sA0 m) (sR0 m))) := by
    rw [eA2, eR2, y1, eD.1, eD.2.1, eD.2.2]
    exact kb0
  have oD' : okC (m.drop 4) (drQ (tl m) (sA0 m) (sR0 m)).1 = true := by rw [← hM]; exact ok_dr _ _ _ _ (hM ▸ oD0)
  have oD := ok_4 h4 hm hb oD'
  -- how often, and the end
  obtain ⟨a1, a2, a3⟩ := up_4 (m := m) (drQ (tl m) (sA0 m) (sR0 m)).2.1 1000 (ok_pos oD')
  have oE' := upA_ok (drQ (tl m) (sA0 m) (sR0 m)).2.1 1000 oD'
  have tE := st_4 (upR (m.drop 4) (drQ (tl m) (sA0 m) (sR0 m)).1 (drQ (tl m) (sA0 m) (sR0 m)).2.1 1000) oE' 1
  have vE := sv_4 (upR (m.drop 4) (drQ (tl m) (sA0 m) (sR0 m)).1 (drQ (tl m) (sA0 m) (sR0 m)).2.1 1000) oE' 0
  have eR : stR m (upA m ((drQ (tl m) (sA0 m) (sR0 m)).1 + 4) (drQ (tl m) (sA0 m) (sR0 m)).2.1 1000) (upR m ((drQ (tl m) (sA0 m) (sR0 m)).1 + 4) (drQ (tl m) (sA0 m) (sR0 m)).2.1 1000) 1 = finR (tl m) (sA0 m) (sR0 m) := by
    rw [a2, a3, tE.2, ← hM]; rfl
  have eA : stA m (upA m ((drQ (tl m) (sA0 m) (sR0 m)).1 + 4) (drQ (tl m) (sA0 m) (sR0 m)).2.1 1000) (upR m ((drQ (tl m) (sA0 m) (sR0 m)).1 + 4) (drQ (tl m) (sA0 m) (sR0 m)).2.1 1000) 1 = finA (tl m) (sA0 m) (sR0 m) + 4 := by
    rw [a2, a3, tE.1, ← hM]; rfl
  obtain ⟨fA1, fR1, f0⟩ := fin_eq (tl m) (sA0 m) (sR0 m)
  have oF : okC (tl m) (rsA (tl m) (sA0 m) (sR0 m)) = true := ok_rs _ o1
  have pF := (okC_iff.1 oF).1
  have eI : iadd .i64 4 (rsA (tl m) (sA0 m) (sR0 m)) = finA (tl m) (sA0 m) (sR0 m) + 4 := by
    rw [fA1] at pF ⊢
    unfold iadd; rw [w_i64_in (by omega)]; omega
  by_cases hr : finR (tl m) (sA0 m) (sR0 m) = 0
  rotate_left
  · have d5 : ine (stR m (upA m ((drQ (tl m) (sA0 m) (sR0 m)).1 + 4) (drQ (tl m) (sA0 m) (sR0 m)).2.1 1000) (upR m ((drQ (tl m) (sA0 m) (sR0 m)).1 + 4) (drQ (tl m) (sA0 m) (sR0 m)).2.1 1000) 1) 0 = true := by rw [eR]; unfold ine; simpa using hr
    have h := f11_6 m (d0 := d0) (d1 := d1) (d2 := d2) (d3 := d3) (d4 := d4) (d5 := d5) (v0h0 := fun _ _ _ _ _ => ka) (v1h0 := fun _ _ _ _ _ => kb) (s0 := fun _ => iB 0 (by omega)) (s1 := fun _ => lB 0 (by omega)) (s2 := fun _ _ => iB 1 (by omega)) (s3 := fun _ _ => lB 1 (by omega)) (s4 := fun _ _ _ => iB 2 (by omega)) (s5 := fun _ _ _ => lB 2 (by omega)) (s6 := fun _ _ _ _ => iB 3 (by omega)) (s7 := fun _ _ _ _ => lB 3 (by omega)) (s8 := fun _ _ _ _ _ => o4) (s9 := fun _ _ _ _ _ => oA) (s10 := fun _ _ _ _ _ => ⟨by decide, by show (0 : Int) < 9; decide⟩) (s11 := fun _ _ _ _ _ => by show (0 : Nat) < 9; decide) (s12 := fun _ _ _ _ _ => ⟨by decide, by show (1 : Int) < 9; decide⟩) (s13 := fun _ _ _ _ _ => by show (1 : Nat) < 9; decide) (s14 := fun _ _ _ _ _ => ⟨by decide, by show (2 : Int) < 9; decide⟩) (s15 := fun _ _ _ _ _ => by show (2 : Nat) < 9; decide) (s16 := fun _ _ _ _ _ => ⟨by decide, by show (3 : Int) < 9; decide⟩) (s17 := fun _ _ _ _ _ => by show (3 : Nat) < 9; decide) (s18 := fun _ _ _ _ _ => ⟨by decide, by show (4 : Int) < 9; decide⟩) (s19 := fun _ _ _ _ _ => by show (4 : Nat) < 9; decide) (s20 := fun _ _ _ _ _ => ⟨by decide, by show (5 : Int) < 9; decide⟩) (s21 := fun _ _ _ _ _ => by show (5 : Nat) < 9; decide) (s22 := fun _ _ _ _ _ => ⟨by decide, by show (6 : Int) < 9; decide⟩) (s23 := fun _ _ _ _ _ => by show (6 : Nat) < 9; decide) (s24 := fun _ _ _ _ _ => ⟨by decide, by show (7 : Int) < 9; decide⟩) (s25 := fun _ _ _ _ _ => by show (7 : Nat) < 9; decide) (s26 := fun _ _ _ _ _ => ⟨by decide, by show (8 : Int) < 9; decide⟩) (s27 := fun _ _ _ _ _ => by show (8 : Nat) < 9; decide) (s28 := fun _ _ _ _ _ => oS) (s29 := fun _ _ _ _ _ => oP) (s30 := fun _ _ _ _ _ => h30) (s31 := fun _ _ _ _ _ => oQ) (s32 := fun _ _ _ _ _ => oD) (s33 := fun _ _ _ _ _ => upA_ok _ _ oD) (s34 := fun _ _ _ _ _ => ⟨by decide, by show (0 : Int) < 1; decide⟩) (s35 := fun _ _ _ _ _ => by show (0 : Nat) < 1; decide)
    dsimp only [kScW0, kScW1, kScW2, kScW3, kScW4, kScW5, kScW6, kScW7, kScW8, kScW9, kScW10, kScW11, kScW12, kScW13, kScW14, kScW15, kScW16, kScW17, kScW18, kScW19, kScW20, kScW21, kScW22, kScW23, kScW24, kScW25, kScW26, kScW27, kScW28, kScW29, kScW30, kScW31, kScW32, kScW33, kScW34, kScW35, kScW36, kScW37, kScW38, kScW39, kScW40, kScW41, kScW42] at h
    rw [eR, eA] at h
    have d1' : ine (rsR (tl m) (sA0 m) (sR0 m)) 0 = true := by rw [fR1]; unfold ine; simpa using hr
    have e : er m = finR (tl m) (sA0 m) (sR0 m) := by unfold er; rw [dm, d1', fR1]; rfl
    unfold zI zF zL plc; rw [e, dm, d1', ne_ieq hr, eI]
    exact h
  have d5 : ine (stR m (upA m ((drQ (tl m) (sA0 m) (sR0 m)).1 + 4) (drQ (tl m) (sA0 m) (sR0 m)).2.1 1000) (upR m ((drQ (tl m) (sA0 m) (sR0 m)).1 + 4) (drQ (tl m) (sA0 m) (sR0 m)).2.1 1000) 1) 0 = false := by rw [eR]; unfold ine; simpa using hr
  have d1' : ine (rsR (tl m) (sA0 m) (sR0 m)) 0 = false := by rw [fR1]; unfold ine; simpa using hr
  obtain ⟨g1, g2, g3, g4⟩ := f0 hr
  have hlen : ((tl m).length : Int) = m.length - 4 := by rw [hM, List.length_drop]; omega
  have eL : ilt (finA (tl m) (sA0 m) (sR0 m) + 4) (nlen (lenI m)) = ilt 0 (lefC (tl m) (rsA (tl m) (sA0 m) (sR0 m)) (rsR (tl m) (sA0 m) (sR0 m))) := by
    unfold lefC ilt nlen lenI
    rw [fR1, if_pos hr, fA1]
    have : (finA (tl m) (sA0 m) (sR0 m) + 4 < (m.length : Int)) ↔ (0 < ((tl m).length : Int) - finA (tl m) (sA0 m) (sR0 m)) := by omega
    exact decide_eq_decide.2 this
  cases hl : ilt 0 (lefC (tl m) (rsA (tl m) (sA0 m) (sR0 m)) (rsR (tl m) (sA0 m) (sR0 m))) with
  | true =>
    have d6 : ilt (stA m (upA m ((drQ (tl m) (sA0 m) (sR0 m)).1 + 4) (drQ (tl m) (sA0 m) (sR0 m)).2.1 1000) (upR m ((drQ (tl m) (sA0 m) (sR0 m)).1 + 4) (drQ (tl m) (sA0 m) (sR0 m)).2.1 1000) 1) (nlen (lenI m)) = true := by rw [eA, eL]; exact hl
    have h := f11_7 m (d0 := d0) (d1 := d1) (d2 := d2) (d3 := d3) (d4 := d4) (d5 := d5) (d6 := d6) (v0h0 := fun _ _ _ _ _ => ka) (v1h0 := fun _ _ _ _ _ => kb) (s0 := fun _ => iB 0 (by omega)) (s1 := fun _ => lB 0 (by omega)) (s2 := fun _ _ => iB 1 (by omega)) (s3 := fun _ _ => lB 1 (by omega)) (s4 := fun _ _ _ => iB 2 (by omega)) (s5 := fun _ _ _ => lB 2 (by omega)) (s6 := fun _ _ _ _ => iB 3 (by omega)) (s7 := fun _ _ _ _ => lB 3 (by omega)) (s8 := fun _ _ _ _ _ => o4) (s9 := fun _ _ _ _ _ => oA) (s10 := fun _ _ _ _ _ => ⟨by decide, by show (0 : Int) < 9; decide⟩) (s11 := fun _ _ _ _ _ => by show (0 : Nat) < 9; decide) (s12 := fun _ _ _ _ _ => ⟨by decide, by show (1 : Int) < 9; decide⟩) (s13 := fun _ _ _ _ _ => by show (1 : Nat) < 9; decide) (s14 := fun _ _ _ _ _ => ⟨by decide, by show (2 : Int) < 9; decide⟩) (s15 := fun _ _ _ _ _ => by show (2 : Nat) < 9; decide) (s16 := fun _ _ _ _ _ => ⟨by decide, by show (3 : Int) < 9; decide⟩) (s17 := fun _ _ _ _ _ => by show (3 : Nat) < 9; decide) (s18 := fun _ _ _ _ _ => ⟨by decide, by show (4 : Int) < 9; decide⟩) (s19 := fun _ _ _ _ _ => by show (4 : Nat) < 9; decide) (s20 := fun _ _ _ _ _ => ⟨by decide, by show (5 : Int) < 9; decide⟩) (s21 := fun _ _ _ _ _ => by show (5 : Nat) < 9; decide) (s22 := fun _ _ _ _ _ => ⟨by decide, by show (6 : Int) < 9; decide⟩) (s23 := fun _ _ _ _ _ => by show (6 : Nat) < 9; decide) (s24 := fun _ _ _ _ _ => ⟨by decide, by show (7 : Int) < 9; decide⟩) (s25 := fun _ _ _ _ _ => by show (7 : Nat) < 9; decide) (s26 := fun _ _ _ _ _ => ⟨by decide, by show (8 : Int) < 9; decide⟩) (s27 := fun _ _ _ _ _ => by show (8 : Nat) < 9; decide) (s28 := fun _ _ _ _ _ => oS) (s29 := fun _ _ _ _ _ => oP) (s30 := fun _ _ _ _ _ => h30) (s31 := fun _ _ _ _ _ => oQ) (s32 := fun _ _ _ _ _ => oD) (s33 := fun _ _ _ _ _ => upA_ok _ _ oD) (s34 := fun _ _ _ _ _ => ⟨by decide, by show (0 : Int) < 1; decide⟩) (s35 := fun _ _ _ _ _ => by show (0 : Nat) < 1; decide)
    dsimp only [kScW0, kScW1, kScW2, kScW3, kScW4, kScW5, kScW6, kScW7, kScW8, kScW9, kScW10, kScW11, kScW12, kScW13, kScW14, kScW15, kScW16, kScW17, kScW18, kScW19, kScW20, kScW21, kScW22, kScW23, kScW24, kScW25, kScW26, kScW27, kScW28, kScW29, kScW30, kScW31, kScW32, kScW33, kScW34, kScW35, kScW36, kScW37, kScW38, kScW39, kScW40, kScW41, kScW42] at h
    rw [eA] at h
    have e : er m = 4 := by unfold er; rw [dm, d1', hl]; rfl
    unfold zI zF zL plc; rw [e, dm, d1', hl, eI]
    exact h
  | false =>
    have d6 : ilt (stA m (upA m ((drQ (tl m) (sA0 m) (sR0 m)).1 + 4) (drQ (tl m) (sA0 m) (sR0 m)).2.1 1000) (upR m ((drQ (tl m) (sA0 m) (sR0 m)).1 + 4) (drQ (tl m) (sA0 m) (sR0 m)).2.1 1000) 1) (nlen (lenI m)) = false := by rw [eA, eL]; exact hl
    have sv : ∀ i, stV m (sA0 m + 4) (sR0 m) i = dV m i := fun i => by unfold dV; rw [hM]; exact sv_4 _ o1' i
    have eT : icv .i64 (upV m ((drQ (tl m) (sA0 m) (sR0 m)).1 + 4) (drQ (tl m) (sA0 m) (sR0 m)).2.1 1000) = rsT (tl m) (sA0 m) (sR0 m) := by unfold rsT; rw [g1, g2, a1, ← hM]; rfl
    have eE : stV m (upA m ((drQ (tl m) (sA0 m) (sR0 m)).1 + 4) (drQ (tl m) (sA0 m) (sR0 m)).2.1 1000) (upR m ((drQ (tl m) (sA0 m) (sR0 m)).1 + 4) (drQ (tl m) (sA0 m) (sR0 m)).2.1 1000) 0 = rsE (tl m) (sA0 m) (sR0 m) := by unfold rsE; rw [g1, g2, a2, a3, vE, ← hM]; rfl
    have eS : sgL m (upA m (stA m (sA0 m + 4) (sR0 m) 9) (stR m (sA0 m + 4) (sR0 m) 9) 4096) (upR m (stA m (sA0 m + 4) (sR0 m) 9) (stR m (sA0 m + 4) (sR0 m) 9) 4096) (cnt (upV m (stA m (sA0 m + 4) (sR0 m) 9) (stR m (sA0 m + 4) (sR0 m) 9) 4096)) = rsP (tl m) (sA0 m) (sR0 m) := by rw [g3, eP1, eP2, eP3, sg_4 _ oP', ← hM]
    have eC : ckE (stV m (sA0 m + 4) (sR0 m) 0) (stV m (sA0 m + 4) (sR0 m) 1) (stV m (sA0 m + 4) (sR0 m) 2) (stV m (sA0 m + 4) (sR0 m) 3) (stV m (sA0 m + 4) (sR0 m) 4) (stV m (sA0 m + 4) (sR0 m) 5) (stV m (sA0 m + 4) (sR0 m) 6) (stV m (sA0 m + 4) (sR0 m) 7) (stV m (sA0 m + 4) (sR0 m) 8) (icv .i64 (upV m ((drQ (tl m) (sA0 m) (sR0 m)).1 + 4) (drQ (tl m) (sA0 m) (sR0 m)).2.1 1000)) (stV m (upA m ((drQ (tl m) (sA0 m) (sR0 m)).1 + 4) (drQ (tl m) (sA0 m) (sR0 m)).2.1 1000) (upR m ((drQ (tl m) (sA0 m) (sR0 m)).1 + 4) (drQ (tl m) (sA0 m) (sR0 m)).2.1 1000) 0) (lenR FF (fqF (tl m) 0 0)) (lenI (fqB (tl m) 0 0)) (lenI (sgL m (upA m (stA m (sA0 m + 4) (sR0 m) 9) (stR m (sA0 m + 4) (sR0 m) 9) 4096) (upR m (stA m (sA0 m + 4) (sR0 m) 9) (stR m (sA0 m + 4) (sR0 m) 9) 4096) (cnt (upV m (stA m (sA0 m + 4) (sR0 m) 9) (stR m (sA0 m + 4) (sR0 m) 9) 4096)))) (lenI (dnL (tl m) (d0N (tl m) (sA0 m) (sR0 m)) (d0A (tl m) (sA0 m) (sR0 m)) (d0R (tl m) (sA0 m) (sR0 m)))) (fb (fqF (tl m) 0 0) (fqB (tl m) 0 0)) (pix (sgL m (upA m (stA m (sA0 m + 4) (sR0 m) 9) (stR m (sA0 m + 4) (sR0 m) 9) 4096) (upR m (stA m (sA0 m + 4) (sR0 m) 9) (stR m (sA0 m + 4) (sR0 m) 9) 4096) (cnt (upV m (stA m (sA0 m + 4) (sR0 m) 9) (stR m (sA0 m + 4) (sR0 m) 9) 4096)))) = dck m := by
      rw [sv, sv, sv, sv, sv, sv, sv, sv, sv, eT, eE, eS, ← g4]; rfl
    by_cases hc : dck m = 0
    · have h := f11_9 m (d0 := d0) (d1 := d1) (d2 := d2) (d3 := d3) (d4 := d4) (d5 := d5) (d6 := d6) (d7 := (congrArg (fun x => ine x 0) eC).trans (by unfold ine; simpa using hc)) (v0h0 := fun _ _ _ _ _ => ka) (v1h0 := fun _ _ _ _ _ => kb) (s0 := fun _ => iB 0 (by omega)) (s1 := fun _ => lB 0 (by omega)) (s2 := fun _ _ => iB 1 (by omega)) (s3 := fun _ _ => lB 1 (by omega)) (s4 := fun _ _ _ => iB 2 (by omega)) (s5 := fun _ _ _ => lB 2 (by omega)) (s6 := fun _ _ _ _ => iB 3 (by omega)) (s7 := fun _ _ _ _ => lB 3 (by omega)) (s8 := fun _ _ _ _ _ => o4) (s9 := fun _ _ _ _ _ => oA) (s10 := fun _ _ _ _ _ => ⟨by decide, by show (0 : Int) < 9; decide⟩) (s11 := fun _ _ _ _ _ => by show (0 : Nat) < 9; decide) (s12 := fun _ _ _ _ _ => ⟨by decide, by show (1 : Int) < 9; decide⟩) (s13 := fun _ _ _ _ _ => by show (1 : Nat) < 9; decide) (s14 := fun _ _ _ _ _ => ⟨by decide, by show (2 : Int) < 9; decide⟩) (s15 := fun _ _ _ _ _ => by show (2 : Nat) < 9; decide) (s16 := fun _ _ _ _ _ => ⟨by decide, by show (3 : Int) < 9; decide⟩) (s17 := fun _ _ _ _ _ => by show (3 : Nat) < 9; decide) (s18 := fun _ _ _ _ _ => ⟨by decide, by show (4 : Int) < 9; decide⟩) (s19 := fun _ _ _ _ _ => by show (4 : Nat) < 9; decide) (s20 := fun _ _ _ _ _ => ⟨by decide, by show (5 : Int) < 9; decide⟩) (s21 := fun _ _ _ _ _ => by show (5 : Nat) < 9; decide) (s22 := fun _ _ _ _ _ => ⟨by decide, by show (6 : Int) < 9; decide⟩) (s23 := fun _ _ _ _ _ => by show (6 : Nat) < 9; decide) (s24 := fun _ _ _ _ _ => ⟨by decide, by show (7 : Int) < 9; decide⟩) (s25 := fun _ _ _ _ _ => by show (7 : Nat) < 9; decide) (s26 := fun _ _ _ _ _ => ⟨by decide, by show (8 : Int) < 9; decide⟩) (s27 := fun _ _ _ _ _ => by show (8 : Nat) < 9; decide) (s28 := fun _ _ _ _ _ => oS) (s29 := fun _ _ _ _ _ => oP) (s30 := fun _ _ _ _ _ => h30) (s31 := fun _ _ _ _ _ => oQ) (s32 := fun _ _ _ _ _ => oD) (s33 := fun _ _ _ _ _ => upA_ok _ _ oD) (s34 := fun _ _ _ _ _ => ⟨by decide, by show (0 : Int) < 1; decide⟩) (s35 := fun _ _ _ _ _ => by show (0 : Nat) < 1; decide)
      dsimp only [kScW0, kScW1, kScW2, kScW3, kScW4, kScW5, kScW6, kScW7, kScW8, kScW9, kScW10, kScW11, kScW12, kScW13, kScW14, kScW15, kScW16, kScW17, kScW18, kScW19, kScW20, kScW21, kScW22, kScW23, kScW24, kScW25, kScW26, kScW27, kScW28, kScW29, kScW30, kScW31, kScW32, kScW33, kScW34, kScW35, kScW36, kScW37, kScW38, kScW39, kScW40, kScW41, kScW42] at h
      have d3' : ine (dck m) 0 = false := by unfold ine; simpa using hc
      have e : er m = 0 := by unfold er; rw [dm, d1', hl]; exact hc
      rw [eT, eS, ← g4] at h
      unfold zI zF zL plc; rw [e, dm, d1', hl, d3']
      rw [← sv, ← sv, ← sv, ← sv, ← sv, ← sv, ← sv, ← sv, ← sv, ← eE]
      exact h
    · have d3' : ine (dck m) 0 = true := by unfold ine; simpa using hc
      have h := f11_8 m (d0 := d0) (d1 := d1) (d2 := d2) (d3 := d3) (d4 := d4) (d5 := d5) (d6 := d6) (d7 := (congrArg (fun x => ine x 0) eC).trans d3') (v0h0 := fun _ _ _ _ _ => ka) (v1h0 := fun _ _ _ _ _ => kb) (s0 := fun _ => iB 0 (by omega)) (s1 := fun _ => lB 0 (by omega)) (s2 := fun _ _ => iB 1 (by omega)) (s3 := fun _ _ => lB 1 (by omega)) (s4 := fun _ _ _ => iB 2 (by omega)) (s5 := fun _ _ _ => lB 2 (by omega)) (s6 := fun _ _ _ _ => iB 3 (by omega)) (s7 := fun _ _ _ _ => lB 3 (by omega)) (s8 := fun _ _ _ _ _ => o4) (s9 := fun _ _ _ _ _ => oA) (s10 := fun _ _ _ _ _ => ⟨by decide, by show (0 : Int) < 9; decide⟩) (s11 := fun _ _ _ _ _ => by show (0 : Nat) < 9; decide) (s12 := fun _ _ _ _ _ => ⟨by decide, by show (1 : Int) < 9; decide⟩) (s13 := fun _ _ _ _ _ => by show (1 : Nat) < 9; decide) (s14 := fun _ _ _ _ _ => ⟨by decide, by show (2 : Int) < 9; decide⟩) (s15 := fun _ _ _ _ _ => by show (2 : Nat) < 9; decide) (s16 := fun _ _ _ _ _ => ⟨by decide, by show (3 : Int) < 9; decide⟩) (s17 := fun _ _ _ _ _ => by show (3 : Nat) < 9; decide) (s18 := fun _ _ _ _ _ => ⟨by decide, by show (4 : Int) < 9; decide⟩) (s19 := fun _ _ _ _ _ => by show (4 : Nat) < 9; decide) (s20 := fun _ _ _ _ _ => ⟨by decide, by show (5 : Int) < 9; decide⟩) (s21 := fun _ _ _ _ _ => by show (5 : Nat) < 9; decide) (s22 := fun _ _ _ _ _ => ⟨by decide, by show (6 : Int) < 9; decide⟩) (s23 := fun _ _ _ _ _ => by show (6 : Nat) < 9; decide) (s24 := fun _ _ _ _ _ => ⟨by decide, by show (7 : Int) < 9; decide⟩) (s25 := fun _ _ _ _ _ => by show (7 : Nat) < 9; decide) (s26 := fun _ _ _ _ _ => ⟨by decide, by show (8 : Int) < 9; decide⟩) (s27 := fun _ _ _ _ _ => by show (8 : Nat) < 9; decide) (s28 := fun _ _ _ _ _ => oS) (s29 := fun _ _ _ _ _ => oP) (s30 := fun _ _ _ _ _ => h30) (s31 := fun _ _ _ _ _ => oQ) (s32 := fun _ _ _ _ _ => oD) (s33 := fun _ _ _ _ _ => upA_ok _ _ oD) (s34 := fun _ _ _ _ _ => ⟨by decide, by show (0 : Int) < 1; decide⟩) (s35 := fun _ _ _ _ _ => by show (0 : Nat) < 1; decide)
      dsimp only [kScW0, kScW1, kScW2, kScW3, kScW4, kScW5, kScW6, kScW7, kScW8, kScW9, kScW10, kScW11, kScW12, kScW13, kScW14, kScW15, kScW16, kScW17, kScW18, kScW19, kScW20, kScW21, kScW22, kScW23, kScW24, kScW25, kScW26, kScW27, kScW28, kScW29, kScW30, kScW31, kScW32, kScW33, kScW34, kScW35, kScW36, kScW37, kScW38, kScW39, kScW40, kScW41, kScW42] at h
      have e : er m = dck m := by unfold er; rw [dm, d1', hl]; rfl
      rw [eA] at h
      unfold zI zF zL plc; rw [e, dm, d1', hl, d3', ne_ieq hc, eI, ← eC]
      exact h
end Go.Proofs.Ytlmnohdgfjienaa.Cf
