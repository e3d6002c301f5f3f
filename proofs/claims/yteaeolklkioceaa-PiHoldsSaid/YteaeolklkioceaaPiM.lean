import Derived.Test.YteaeolklkioceaaAbsN
import Derived.Test.YteaeolklkioceaaProg
set_option linter.unusedVariables false
set_option maxRecDepth 100000
namespace Go.Proofs.Yteaeolklkioceaa.Pi
open Go.Abs
def sdiv (x : Int) : Int := cond (ine (irem x 1000000) 0) (cond (ilt x 0) (isub .i64 (iquo .i64 x 1000000) 1) (iquo .i64 x 1000000)) (iquo .i64 x 1000000)
def cl (hi x : Int) : Int := imax 0 (imin x hi)
def stp (p old q tgt a b : Int) : Int := cl 4294967296 (iadd .i64 (cl 4294967296 p) (sdiv (iadd .i64 (imul .i64 (cl 17179869184 a) (isub .i64 (cl 67108864 q) (cl 67108864 tgt))) (imul .i64 (cl 17179869184 b) (isub .i64 (cl 67108864 q) (cl 67108864 old))))))
end Go.Proofs.Yteaeolklkioceaa.Pi
