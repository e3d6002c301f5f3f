import Derived.Test.YtnejcdinieaemaaDoorAbsO
import Derived.Test.YtnejcdinieaemaaDoorTrA
set_option maxRecDepth 100000
set_option linter.all false
set_option maxHeartbeats 4000000
set_option linter.unusedSimpArgs false
set_option linter.unusedVariables false
namespace Go.Proofs.YtnejcdinieaemaaDoor.Tr
open Go.Abs
def dS (n : Int) : ByteArray := ⟨(Lib.decDigits n.natAbs).toArray⟩
def dP (n : Int) : Bool := decide (-9223372036854775808 ≤ n ∧ n ≤ 0)
def f55r0 (x : Int) : ByteArray := bif (ilt (-10) x) then (strI [icv IntKind.u8 (isub .i64 48 (irem x 10))]) else (sadd (dS (iquo .i64 x 10)) (strI [icv IntKind.u8 (isub .i64 48 (irem x 10))]))
theorem f55_1 (x : Int)  (d0 : (ilt (-10) x) = true) : ACalls Tryd.prog 55 [AV.v (.int .i64 x)] [] (AV.v (Value.string (strI [icv IntKind.u8 (isub .i64 48 (irem x 10))]))) [] [] :=
  ACalls.nb (res := AV.v (Value.string (strI [icv IntKind.u8 (isub .i64 48 (irem x 10))]))) (.of_out [Orc.br true] [] [nz 10, isB (ilt (-10) x) true] Tryd.func55 (by kernel_rfl) (by kernel_rfl) (.cons (by first | decide | simp [nz, nn, inB, ltN, leN, eqN, eqZ, inC, zOk, growN, fitN]) (.cons d0 .nil)))
theorem f55_2 (x : Int) (h55 : ACalls Tryd.prog 55 [AV.v (.int .i64 (iquo .i64 x 10))] [] (AV.v (Value.string (dS (iquo .i64 x 10)))) [] []) (d0 : (ilt (-10) x) = false) (s0 : ((ilt (-10) x) = false) → (dP (iquo .i64 x 10)) = true) (s1 : ((ilt (-10) x) = false) → sfit (dS (iquo .i64 x 10)) (strI [icv IntKind.u8 (isub .i64 48 (irem x 10))])) : ACalls Tryd.prog 55 [AV.v (.int .i64 x)] [] (AV.v (Value.string (sadd (dS (iquo .i64 x 10)) (strI [icv IntKind.u8 (isub .i64 48 (irem x 10))])))) [] [] :=
  ACalls.nb (res := AV.v (Value.string (sadd (dS (iquo .i64 x 10)) (strI [icv IntKind.u8 (isub .i64 48 (irem x 10))])))) (.of_out [Orc.br false, Orc.call [] (AV.v (Value.string (dS (iquo .i64 x 10)))) [] []] [] [nz 10, isB (ilt (-10) x) false, nz 10, ACalls Tryd.prog 55 [AV.v (.int .i64 (iquo .i64 x 10))] [] (AV.v (Value.string (dS (iquo .i64 x 10)))) [] [], sfit (dS (iquo .i64 x 10)) (strI [icv IntKind.u8 (isub .i64 48 (irem x 10))])] Tryd.func55 (by kernel_rfl) (by kernel_rfl) (.cons (by first | decide | simp [nz, nn, inB, ltN, leN, eqN, eqZ, inC, zOk, growN, fitN]) (.cons d0 (.cons (by first | decide | simp [nz, nn, inB, ltN, leN, eqN, eqZ, inC, zOk, growN, fitN]) (.cons (by first | exact h55 | apply h55 <;> (first | exact (s0 d0))) (.cons (s1 d0) .nil))))))
end Go.Proofs.YtnejcdinieaemaaDoor.Tr
