import Derived.Test.YtmaalibjfjokeaaFk
/- What an acknowledgement makes of a sender, in plain numbers. -/
set_option linter.unusedVariables false
set_option linter.unusedSimpArgs false
set_option maxRecDepth 100000
namespace Go.Proofs.Ytmaalibjfjokeaa.Fk
open Go.Abs Go.Proofs.Ytmaalibjfjokeaa.Ser Go.Proofs.Ytmaalibjfjokeaa.Ace
theorem gue_bd (b a y m : Int) : 0 ≤ gue b a y m ∧ gue b a y m ≤ 1099511627783 ∧ (b + gue b a y m) % 8 = a % 8 := by
  unfold gue
  split
  · unfold st8; omega
  · rename_i h
    have := ceil_bd (b := min y 1099511627776) (m := m) (by omega) (by omega)
    generalize -(-min y 1099511627776 / m) = N at *
    unfold up8 st8
    omega
/-- what is counted, behind an acknowledgement that is taken -/
theorem tol_bd {m k b y a q : Int} (hk : 0 ≤ b ∧ b ≤ k ∧ k ≤ 70368744177664) : k ≤ tol m k b y a q ∧ tol m k b y a q ≤ k + 1099511627783 ∧ tol m k b y a q % 8 = a % 8 := by
  have g := gue_bd b a (fs y q) m
  have e1 : iadd .i64 b (gue b a (fs y q) m) = b + gue b a (fs y q) m := by unfold iadd; rw [w_i64_in (by omega)]
  have hs : 0 ≤ st8 k a ∧ st8 k a < 8 ∧ (k + st8 k a) % 8 = a % 8 := by unfold st8; omega
  have e2 : iadd .i64 k (st8 k a) = k + st8 k a := by unfold iadd; rw [w_i64_in (by omega)]
  unfold tol
  rw [e1, e2]
  cases ile 0 q with
  | false => simp only [cond_false]; omega
  | true =>
    simp only [cond_true]
    cases h : ile k (b + gue b a (fs y q) m) with
    | false => simp only [cond_false]; omega
    | true => simp only [ile_d, decide_eq_true_eq] at h; simp only [cond_true]; omega
structure Take (an : Bool) (m k b x y z l s a p q r : Int) : Prop where
  n0 : ilt (niI an m k b x y z l s a p q r) 0 = false
  sum : ine (kaI an m k b x y z l s a p q r) (iadd .i64 k (niI an m k b x y z l s a p q r)) = false
  none : ine (erI an x y z l s a p q r) 0 = true → ine (niI an m k b x y z l s a p q r) 0 = false ∧ byI (tkB an x y z l s a p q r) x p = x ∧ byI (tkB an x y z l s a p q r) y q = y ∧ byI (tkB an x y z l s a p q r) z r = z
  some : ine (erI an x y z l s a p q r) 0 = false → ine (iand .i64 (kaI an m k b x y z l s a p q r) 7) (icv .i64 a) = false
  bd : 0 ≤ baI an m k b x y z l s a p q r ∧ baI an m k b x y z l s a p q r ≤ kaI an m k b x y z l s a p q r ∧ kaI an m k b x y z l s a p q r ≤ k + 1099511627783
theorem takes {an : Bool} {m k b x y z l s a p q r : Int} (hk : 0 ≤ b ∧ b ≤ k ∧ k ≤ 70368744177664) (ha : 0 ≤ a ∧ a ≤ 255) : Take an m k b x y z l s a p q r := by
  have t := tol_bd (m := m) (y := y) (a := a) (q := q) hk
  have e8 : iand .i64 (tol m k b y a q) 7 = tol m k b y a q % 8 := iand_mask .i64 3 (by decide) _
  have ew : isub .i64 (tol m k b y a q) k = tol m k b y a q - k := by unfold isub; rw [w_i64_in (by omega)]
  cases hw : wrB a p q r with
  | true =>
    have e1 : tkB an x y z l s a p q r = false := by unfold tkB; rw [hw]; rfl
    have e2 : erI an x y z l s a p q r = 2 := by unfold erI; rw [hw]; rfl
    refine ⟨?_, ?_, fun _ => ?_, fun h => ?_, ?_⟩
    · unfold niI; rw [e1]; rfl
    · unfold kaI niI; rw [e1]; simp only [cond_false, ine_d, iadd]; rw [w_i64_in (by omega)]; simp
    · unfold niI byI; rw [e1]; exact ⟨rfl, rfl, rfl, rfl⟩
    · rw [e2] at h; simp [ine_d] at h
    · unfold baI kaI; rw [e1]; simp only [Bool.false_and, cond_false]; omega
  | false =>
    cases ht : tkB an x y z l s a p q r with
    | false =>
      have e2 : erI an x y z l s a p q r = 11 := by unfold erI; rw [hw, ht]; rfl
      refine ⟨?_, ?_, fun _ => ?_, fun h => ?_, ?_⟩
      · unfold niI; rw [ht]; rfl
      · unfold kaI niI; rw [ht]; simp only [cond_false, ine_d, iadd]; rw [w_i64_in (by omega)]; simp
      · rw [ht]; unfold niI byI; rw [ht]; exact ⟨rfl, rfl, rfl, rfl⟩
      · rw [e2] at h; simp [ine_d] at h
      · unfold baI kaI; rw [ht]; simp only [Bool.false_and, cond_false]; omega
    | true =>
      have e2 : erI an x y z l s a p q r = 0 := by unfold erI; rw [hw, ht]; rfl
      have ha7 : a ≤ 7 := by unfold wrB at hw; rw [decide_eq_false_iff_not] at hw; omega
      refine ⟨?_, ?_, fun h => ?_, fun _ => ?_, ?_⟩
      · unfold niI; rw [ht]; simp only [cond_true]; rw [ew, ilt_d, decide_eq_false_iff_not]; omega
      · unfold kaI niI; rw [ht]; simp only [cond_true]; rw [ew, ine_d]; unfold iadd; rw [w_i64_in (by omega)]; simp; omega
      · rw [e2] at h; simp [ine_d] at h
      · unfold kaI; rw [ht]; simp only [cond_true]; rw [e8, ine_d]; unfold icv; rw [w_i64_in (by omega)]; simp; omega
      · unfold baI kaI; rw [ht]; simp only [Bool.true_and, cond_true]
        cases ile 0 q <;> simp <;> omega
end Go.Proofs.Ytmaalibjfjokeaa.Fk
