/- Proved: the law EcnStays of layer 9 answers true for every byte: a marked code stays marked, marking twice is marking once, each marking is legal. No condition. -/
import Derived.Test.YteaeolklkioceaaPEcnStaysx1
namespace Go.Proofs.Yteaeolklkioceaa.Pure
open Go.RowKit Go.Proofs.Yteaeolklkioceaa.PEcnStays Go.Proofs.YteaeolklkioceaaW.PrintWords Go.Proofs.YteaeolklkioceaaW.PrintLast

theorem wfu8 {n : Int} (h : (Lit.int .u8 n).wf = true) : 0 ≤ n ∧ n < 256 := by
  simp [Lit.wf, IntKind.min, IntKind.max, IntKind.signed, IntKind.bits] at h; omega
theorem EcnStays : leatlaw09_EcnStays.Pure := by
  intro a0 w0
  have h : ∀ n : Fin 256, leatlaw09_EcnStays.f (n.val : Int) = some true := by decide +kernel
  have hb := wfu8 w0
  have := h ⟨a0.toNat, by omega⟩
  simpa [Int.toNat_of_nonneg hb.1] using this

end Go.Proofs.Yteaeolklkioceaa.Pure
