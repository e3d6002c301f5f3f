import Derived.Test.YtmaalibjfjokeaaFcBH
import Derived.Test.YtmaalibjfjokeaaAbsWx
set_option linter.unusedVariables false
namespace Go.Proofs.Ytmaalibjfjokeaa.Fk
open Go.Abs
theorem law_counts (m : Int) (l : List (El (Go.Abs.PS.int .u8).ck)) (t : List (El Go.Abs.PS.bool.ck)) (r : List (El (Go.Abs.PS.int .u8).ck)) (w0 : (Lit.int .u16 m).wf = true) (w1 : ∀ y ∈ l, El.ok (Go.Abs.PS.int .u8).ck y) (w2 : ∀ y ∈ t, El.ok Go.Abs.PS.bool.ck y) (w3 : ∀ y ∈ r, El.ok (Go.Abs.PS.int .u8).ck y) :
    ACalls Try.prog 3 [AV.agg [AV.v (.int .u16 m), AV.sw 0 1, AV.sw 1 1, AV.sw 2 1]] [rowO (Go.Abs.PS.int .u8).ck l, rowO Go.Abs.PS.bool.ck t, rowO (Go.Abs.PS.int .u8).ck r] (AV.v (Value.bool true)) [] [] :=
  counts m (wf_u16' w0) l t r (fun v hv => wf_u8' (w3 v hv))
end Go.Proofs.Ytmaalibjfjokeaa.Fk
