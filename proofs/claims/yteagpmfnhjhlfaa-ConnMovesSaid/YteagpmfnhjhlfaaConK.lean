import Derived.Test.YteagpmfnhjhlfaaAbsO
import Derived.Test.YteagpmfnhjhlfaaConB
set_option maxRecDepth 100000
set_option linter.all false
namespace Go.Proofs.Yteagpmfnhjhlfaa.Con
open Go.Abs
theorem f21 (n : Int) (i : Int) : ACalls Try.prog 21 [AV.v (.int .i64 n), AV.v (.int .u32 i)] [] (AV.agg [AV.v (.int .i64 0), AV.v (.int .i64 (imax 0 (imin n 2))), AV.v (.int .u32 i), AV.v (.int .u32 0), AV.v (.int .u32 0), AV.v (.int .u32 0), AV.v (.int .i64 0), AV.v (.int .i64 0), AV.v (.int .u8 0), AV.v (.int .i64 5), AV.v (.int .i64 0)]) [] [] :=
  .of_out [] [] [] Try.func21 (by kernel_rfl) (by kernel_rfl) .nil
theorem g21 (n : Int) (i : Int) : ACalls Try.prog 21 [AV.v (.int .i64 n), AV.v (.int .u32 i)] [] (AV.agg [AV.v (.int .i64 0), AV.v (.int .i64 (imin (imax n 0) 2)), AV.v (.int .u32 i), AV.v (.int .u32 0), AV.v (.int .u32 0), AV.v (.int .u32 0), AV.v (.int .i64 0), AV.v (.int .i64 0), AV.v (.int .u8 0), AV.v (.int .i64 5), AV.v (.int .i64 0)]) [] [] := by
  have h := f21 n i
  have e : imax 0 (imin n 2) = imin (imax n 0) 2 := by unfold imax imin; omega
  rw [e] at h; exact h
theorem f22_1 (n : Int) (i : Int)  : ACalls Try.prog 22 [AV.v (.int .i64 n), AV.v (.int .u32 i)] [] (AV.agg [AV.v (.int .i64 0), AV.v (.int .i64 (imin (imax n 0) 2)), AV.v (.int .u32 i), AV.v (.int .u32 0), AV.v (.int .u32 0), AV.v (.int .u32 0), AV.v (.int .i64 0), AV.v (.int .i64 0), AV.v (.int .u8 0), AV.v (.int .i64 5), AV.v (.int .i64 0)]) [] [] :=
  ACalls.nb (res := AV.agg [AV.v (.int .i64 0), AV.v (.int .i64 (imin (imax n 0) 2)), AV.v (.int .u32 i), AV.v (.int .u32 0), AV.v (.int .u32 0), AV.v (.int .u32 0), AV.v (.int .i64 0), AV.v (.int .i64 0), AV.v (.int .u8 0), AV.v (.int .i64 5), AV.v (.int .i64 0)]) (.of_out [] [] [] Try.func22 (by kernel_rfl) (by kernel_rfl) .nil)
theorem f22 (n : Int) (i : Int) : ACalls Try.prog 22 [AV.v (.int .i64 n), AV.v (.int .u32 i)] [] (AV.agg [AV.v (.int .i64 0), AV.v (.int .i64 (imin (imax n 0) 2)), AV.v (.int .u32 i), AV.v (.int .u32 0), AV.v (.int .u32 0), AV.v (.int .u32 0), AV.v (.int .i64 0), AV.v (.int .i64 0), AV.v (.int .u8 0), AV.v (.int .i64 5), AV.v (.int .i64 0)]) [] [] := (f22_1 n i)
end Go.Proofs.Yteagpmfnhjhlfaa.Con
