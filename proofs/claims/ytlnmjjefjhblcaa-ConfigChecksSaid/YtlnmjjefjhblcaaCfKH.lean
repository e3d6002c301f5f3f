import Derived.Test.YtlnmjjefjhblcaaCfK
import Derived.Test.YtlnmjjefjhblcaaAbsWx
set_option maxRecDepth 100000
set_option linter.all false
set_option maxHeartbeats 4000000
namespace Go.Proofs.Ytlnmjjefjhblcaa.Cf
open Go.Abs
/-- ConfigChecks: over whatever is told ahead it is true. -/
theorem law_checks (j0 : List (El FF)) (j1 : List Int) (r a0 a1 a2 a3 a4 a5 a6 a7 : Int) (j2 j3 : List Int) (y z : Int) (w0 : ∀ x ∈ j0, El.ok FF x) (w1 : ∀ x ∈ j1, El.ok [.int .i64] x) (w2 : (Lit.int .i64 r).wf = true) (w3 : (Lit.int .i64 a0).wf = true) (w4 : (Lit.int .i64 a1).wf = true) (w5 : (Lit.int .i64 a2).wf = true) (w6 : (Lit.int .i64 a3).wf = true) (w7 : (Lit.int .i64 a4).wf = true) (w8 : (Lit.int .i64 a5).wf = true) (w9 : (Lit.int .i64 a6).wf = true) (w10 : (Lit.int .i64 a7).wf = true) (w11 : ∀ x ∈ j2, El.ok [.int .i64] x) (w12 : ∀ x ∈ j3, El.ok [.int .u32] x) (w13 : (Lit.int .i64 y).wf = true) (w14 : (Lit.int .i64 z).wf = true) :
    ACalls Try.prog 3 [cC r a0 a1 a2 a3 a4 a5 a6 a7 y z] (hH j0 j1 j2 j3) (.v (.bool true)) [] [] := f3 j0 j1 j2 j3 r a0 a1 a2 a3 a4 a5 a6 a7 y z
end Go.Proofs.Ytlnmjjefjhblcaa.Cf
