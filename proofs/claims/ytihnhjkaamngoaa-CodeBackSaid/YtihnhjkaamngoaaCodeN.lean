import Derived.Test.YtihnhjkaamngoaaCodeM2
/- A number out of bytes, in plain lists. -/
set_option linter.unusedVariables false
set_option linter.unusedSimpArgs false
namespace Go.Proofs.Ytihnhjkaamngoaa.Code
open Go.Abs
/-- the number, how many bytes it takes, the error -/
def numG : List Int → Nat → Int → Int × Int × Int
  | [], _, _ => (0, 0, 3)
  | c :: s, i, x => if i = 9 ∧ 1 < c then (0, 0, 5) else if 128 ≤ c then numG s (i + 1) (x + c % 128 * 128 ^ i) else if c = 0 ∧ 0 < i then (0, 0, 5) else (x + c * 128 ^ i, i + 1, 0)
def byB (m : List Int) : Bool := m.all fun c => decide (0 ≤ c ∧ c ≤ 255)
theorem byB_iff {m : List Int} : byB m = true ↔ ∀ c ∈ m, 0 ≤ c ∧ c ≤ 255 := by simp [byB]
theorem ten {i : Nat} (h : i ≤ 9) : i = 0 ∨ i = 1 ∨ i = 2 ∨ i = 3 ∨ i = 4 ∨ i = 5 ∨ i = 6 ∨ i = 7 ∨ i = 8 ∨ i = 9 := by omega
theorem p7 (i : Nat) : (128 : Int) ^ i = 2 ^ (7 * i) := by rw [Int.pow_mul]; rfl
/-- the next group -/
theorem grp {x c : Int} {i : Nat} (hi : i ≤ 9) (hx : 0 ≤ x ∧ x < 128 ^ i) (hc : 0 ≤ c ∧ c < 128) (h9 : i = 9 → c ≤ 1) :
    0 ≤ c * 128 ^ i ∧ c * 128 ^ i < 18446744073709551616 ∧ x + c * 128 ^ i < 128 ^ (i + 1) ∧ 0 ≤ x + c * 128 ^ i ∧ x + c * 128 ^ i < 18446744073709551616 ∧ x < 18446744073709551616 := by
  rcases ten hi with rfl | rfl | rfl | rfl | rfl | rfl | rfl | rfl | rfl | rfl <;> simp at * <;> omega
theorem orG {x c : Int} {i : Nat} (hi : i ≤ 9) (hx : 0 ≤ x ∧ x < 128 ^ i) (hc : 0 ≤ c ∧ c < 128) (h9 : i = 9 → c ≤ 1) :
    ior .u64 x (ishl .u64 (icv .u64 c) (imul .i64 7 i)) = x + c * 128 ^ i := by
  have g := grp hi hx hc h9
  have e : ishl .u64 (icv .u64 c) (imul .i64 7 i) = c * 128 ^ i := by
    unfold ishl icv imul
    rw [w_u64_in (x := c) (by omega), w_i64_in (by omega), show min (7 * (i : Int)).toNat IntKind.u64.bits = 7 * i from by simp [IntKind.bits]; omega, ← p7, w_u64_in (by omega)]
  rw [e]
  refine or_add (7 * i) hx.1 (by rw [← p7]; exact hx.2) g.2.2.2.2.2 g.1 ?_ g.2.1
  rw [← p7, Int.mul_emod_left]
theorem refG {x c : Int} {i : Nat} (hi : i ≤ 9) (hx : 0 ≤ x ∧ x < 128 ^ i) (hc : 0 ≤ c ∧ c ≤ 255) (h9 : i = 9 → c ≤ 1) :
    iadd .u64 x (imul .u64 (irem (icv .u64 c) 128) (128 ^ i)) = x + c % 128 * 128 ^ i := by
  have g := grp (c := c % 128) hi hx (by omega) (by omega)
  unfold iadd imul irem icv
  rw [w_u64_in (x := c) (by omega), Int.tmod_eq_emod_of_nonneg (by omega), w_u64_in (x := c % 128 * 128 ^ i) (by omega), w_u64_in (by omega)]
theorem refP {i : Nat} (hi : i ≤ 8) : imul .u64 (128 ^ i) 128 = 128 ^ (i + 1) := by
  have h1 : (128 : Int) ^ i ≤ 128 ^ 8 := by
    rcases ten (i := i) (by omega) with rfl | rfl | rfl | rfl | rfl | rfl | rfl | rfl | rfl | rfl <;> simp at *
  have h0 : 0 ≤ (128 : Int) ^ i := Int.pow_nonneg (by omega)
  unfold imul; rw [Int.pow_succ, w_u64_in]; omega
theorem and127 {c : Int} (hc : 0 ≤ c ∧ c ≤ 255) : iand .u8 c 127 = c % 128 := iand_mask .u8 7 (by decide) c
/-- what is known of it -/
theorem numG_spec : ∀ (s : List Int) (i : Nat) (x : Int), byB s = true → i ≤ 9 → 0 ≤ x ∧ x < 128 ^ i →
    ((numG s i x).2.2 = 0 ∨ (numG s i x).2.2 = 3 ∨ (numG s i x).2.2 = 5) ∧ 0 ≤ (numG s i x).1 ∧ (numG s i x).1 < 18446744073709551616 ∧
      ((numG s i x).2.2 = 0 → (i : Int) + 1 ≤ (numG s i x).2.1 ∧ (numG s i x).2.1 ≤ i + s.length) ∧ ((numG s i x).2.2 ≠ 0 → (numG s i x).1 = 0)
  | [], i, x, hs, hi, hx => by simp [numG]
  | c :: s, i, x, hs, hi, hx => by
    rw [byB_iff] at hs
    have hc := hs c (by simp)
    rw [numG]
    by_cases h1 : i = 9 ∧ 1 < c
    · rw [if_pos h1]; simp
    rw [if_neg h1]
    by_cases h2 : 128 ≤ c
    · rw [if_pos h2]
      have g := grp (c := c % 128) hi hx (by omega) (by omega)
      have := numG_spec s (i + 1) _ (byB_iff.2 fun d hd => hs d (by simp [hd])) (by omega) ⟨g.2.2.2.1, g.2.2.1⟩
      refine ⟨this.1, this.2.1, this.2.2.1, fun h => ?_, this.2.2.2.2⟩
      have := this.2.2.2.1 h
      simp only [List.length_cons]; omega
    rw [if_neg h2]
    by_cases h3 : c = 0 ∧ 0 < i
    · rw [if_pos h3]; simp
    rw [if_neg h3]
    have g := grp (c := c) hi hx (by omega) (by omega)
    exact ⟨.inl rfl, g.2.2.2.1, g.2.2.2.2.1, fun _ => by simp only [List.length_cons]; omega, fun h => absurd rfl h⟩
end Go.Proofs.Ytihnhjkaamngoaa.Code
