/- Proved: the law EcnMarks of layer 9 answers true for any two numbers: any code is marked, told and changed as the document says. No condition. -/
import Derived.Test.YteaeolklkioceaaPEcnMarksx1
namespace Go.Proofs.Yteaeolklkioceaa.Pure
open Go.RowKit Go.Proofs.Yteaeolklkioceaa.PEcnMarks Go.Proofs.YteaeolklkioceaaW.PrintWords Go.Proofs.YteaeolklkioceaaW.PrintLast

theorem EcnMarks : leatlaw09_EcnMarks.Pure := by
  intro a0 a1 _ _
  refine ⟨1, ?_⟩
  have hw : leatlaw09_works.f = some true := by decide +kernel
  by_cases hc : 0 ≤ a0 ∧ a0 ≤ 3
  · by_cases hd : 0 ≤ a1 ∧ a1 ≤ 3
    · have h : ∀ n : Fin 4, ∀ c : Fin 4, leatlaw09_EcnMarks.f 1 (n.val : Int) (c.val : Int) = some true := by decide +kernel
      have := h ⟨a0.toNat, by omega⟩ ⟨a1.toNat, by omega⟩
      simpa [Int.toNat_of_nonneg hc.1, Int.toNat_of_nonneg hd.1] using this
    · have e1 : ecn_is.f a1 = some false := by
        unfold ecn_is.f; split
        · rw [decide_eq_false (by omega)]
        · rfl
      have e2 : leatref09_Is.f a1 = some false := by
        unfold leatref09_Is.f
        rw [if_neg (by omega), if_neg (by omega), if_neg (by omega)]
        have : (a1 == 3) = false := by rw [beq_eq_false_iff_ne]; omega
        rw [this]
      have hl : ecn_Legal.f a0 a1 = some false := by
        unfold ecn_Legal.f; rw [e1]
        cases h : ecn_is.f a0 with
        | none => unfold ecn_is.f at h; split at h <;> simp at h
        | some b => cases b <;> simp
      have hr : leatref09_Legal.f 1 a0 a1 = some false := by
        unfold leatref09_Legal.f; rw [e2]
        cases h : leatref09_Is.f a0 with
        | none =>
          exfalso; revert h; unfold leatref09_Is.f; repeat' split
          all_goals simp
        | some b => cases b <;> simp [leatref09_Legal.j0]
      unfold leatlaw09_EcnMarks.f
      rw [hl, hr, hw]
      have hx : a0 = 0 ∨ a0 = 1 ∨ a0 = 2 ∨ a0 = 3 := by omega
      clear hl hr hc
      rcases hx with rfl | rfl | rfl | rfl <;> decide +kernel
  · have e1 : ecn_is.f a0 = some false := by
      unfold ecn_is.f; split
      · rw [decide_eq_false (by omega)]
      · rfl
    have e2 : leatref09_Is.f a0 = some false := by
      unfold leatref09_Is.f
      rw [if_neg (by omega), if_neg (by omega), if_neg (by omega)]
      have : (a0 == 3) = false := by rw [beq_eq_false_iff_ne]; omega
      rw [this]
    have n1 : a0 ≠ 1 := by omega
    have n2 : a0 ≠ 2 := by omega
    have n3 : a0 ≠ 3 := by omega
    have hl : ecn_Legal.f a0 a1 = some false := by unfold ecn_Legal.f; rw [e1]; rfl
    have hr : leatref09_Legal.f 1 a0 a1 = some false := by unfold leatref09_Legal.f; rw [e2]; rfl
    have m1 : ecn_Mark.f a0 = some (a0, false) := by unfold ecn_Mark.f; rw [if_neg n1, if_neg n2, if_neg n3]
    have m2 : leatref09_Mark.f a0 = some (a0, false) := by unfold leatref09_Mark.f; rw [if_neg n1, if_neg n2, if_neg n3]
    have m3 : ecn_Able.f a0 = some false := by unfold ecn_Able.f; rw [m1]; rfl
    have m4 : ecn_Low.f a0 = some false := by unfold ecn_Low.f; rw [e1]; rfl
    have n4 : (a0 == 3) = false := by rw [beq_eq_false_iff_ne]; omega
    unfold leatlaw09_EcnMarks.f
    rw [m1, m2, m3, m4, hl, hr, hw]
    simp [n1, n4]

end Go.Proofs.Yteaeolklkioceaa.Pure
