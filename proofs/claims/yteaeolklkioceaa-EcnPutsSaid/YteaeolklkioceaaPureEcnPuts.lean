/- Proved: the law EcnPuts of layer 9 answers true for every byte and every number: any byte's code, and any byte with any code, is the document's. No condition. -/
import Derived.Test.YteaeolklkioceaaPEcnPutsx1
namespace Go.Proofs.Yteaeolklkioceaa.Pure
open Go.RowKit Go.Proofs.Yteaeolklkioceaa.PEcnPuts Go.Proofs.YteaeolklkioceaaW.PrintWords Go.Proofs.YteaeolklkioceaaW.PrintLast

theorem wfu8 {n : Int} (h : (Lit.int .u8 n).wf = true) : 0 ≤ n ∧ n < 256 := by
  simp [Lit.wf, IntKind.min, IntKind.max, IntKind.signed, IntKind.bits] at h; omega
theorem EcnPuts : leatlaw09_EcnPuts.Pure := by
  intro a0 a1 w0 _
  have hb := wfu8 w0
  by_cases hc : 0 ≤ a1 ∧ a1 ≤ 3
  · have h : ∀ n : Fin 256, ∀ c : Fin 4, leatlaw09_EcnPuts.f (n.val : Int) (c.val : Int) = some true := by decide +kernel
    have := h ⟨a0.toNat, by omega⟩ ⟨a1.toNat, by omega⟩
    simpa [Int.toNat_of_nonneg hb.1, Int.toNat_of_nonneg hc.1] using this
  · have e1 : ecn_is.f a1 = some false := by
      unfold ecn_is.f; split
      · rw [decide_eq_false (by omega)]
      · rfl
    have e2 : leatref09_Is.f a1 = some false := by
      unfold leatref09_Is.f
      rw [if_neg (by omega), if_neg (by omega), if_neg (by omega)]
      have : (a1 == 3) = false := by rw [beq_eq_false_iff_ne]; omega
      rw [this]
    have h : ∀ n : Fin 256, ecn_Of.f (n.val : Int) = some (wrap64 (Int.tmod (n.val : Int) 4)) := by decide +kernel
    have h1 := h ⟨a0.toNat, by omega⟩
    simp only [Int.toNat_of_nonneg hb.1] at h1
    have hw : leatlaw09_works.f = some true := by decide +kernel
    unfold leatlaw09_EcnPuts.f ecn_Put.f leatref09_Put.f
    rw [h1, e1, e2]
    simp [hw]

end Go.Proofs.Yteaeolklkioceaa.Pure
