import Derived.Test.YtihnhjkaamngoaaAbsO
/- Numbers in groups of seven bits, in plain lists. -/
set_option linter.unusedVariables false
set_option linter.unusedSimpArgs false
namespace Go.Proofs.Ytihnhjkaamngoaa.Code
open Go.Abs
/-- all groups but the last one; the last one -/
def hiN (x : Nat) : List Int := if x < 128 then [] else ((x % 128 + 128 : Nat) : Int) :: hiN (x / 128)
termination_by x
decreasing_by omega
def laN (x : Nat) : Nat := if x < 128 then x else laN (x / 128)
termination_by x
decreasing_by omega
theorem hiN_lt {x : Nat} (h : x < 128) : hiN x = [] := by rw [hiN, if_pos h]
theorem hiN_ge {x : Nat} (h : 128 ≤ x) : hiN x = ((x % 128 + 128 : Nat) : Int) :: hiN (x / 128) := by rw [hiN, if_neg (by omega)]
theorem laN_lt {x : Nat} (h : x < 128) : laN x = x := by rw [laN, if_pos h]
theorem laN_ge {x : Nat} (h : 128 ≤ x) : laN x = laN (x / 128) := by rw [laN, if_neg (by omega)]
theorem laN_128 : ∀ (n x : Nat), x ≤ n → laN x < 128
  | n, x, h => by
    by_cases hx : x < 128
    · rw [laN_lt hx]; exact hx
    · rw [laN_ge (by omega)]
      exact match n, h with
        | 0, h => by omega
        | n + 1, h => laN_128 n (x / 128) (by omega)
theorem hiN_len : ∀ (k x : Nat), x < 128 ^ (k + 1) → (hiN x).length ≤ k
  | k, x, h => by
    by_cases hx : x < 128
    · rw [hiN_lt hx]; simp
    · rw [hiN_ge (by omega)]
      exact match k, h with
        | 0, h => by simp at h; omega
        | k + 1, h => by
          have := hiN_len k (x / 128) (by rw [Nat.pow_succ] at h; omega)
          simp; omega
/-- a number's bytes -/
def vb (x : Int) : List Int := hiN x.toNat ++ [(laN x.toNat : Int)]
def hiX (x : Int) : List Int := hiN x.toNat
def laX (x : Int) : Int := laN x.toNat
def u64B (x : Int) : Bool := decide (0 ≤ x ∧ x < 18446744073709551616)
theorem u64B_iff {x : Int} : u64B x = true ↔ 0 ≤ x ∧ x < 18446744073709551616 := by simp [u64B]
theorem hiX_len {x : Int} (h : u64B x = true) : (hiX x).length ≤ 9 := by
  rw [u64B_iff] at h
  exact hiN_len 9 _ (by omega)
theorem vb_len {x : Int} (h : u64B x = true) : (vb x).length ≤ 10 := by
  have := hiX_len h
  unfold hiX at this; unfold vb; simp; omega
theorem vb_eq (x : Int) : vb x = hiX x ++ [laX x] := rfl
theorem hiX_lt {x : Int} (h : 0 ≤ x ∧ x < 128) : hiX x = [] ∧ laX x = x := by
  unfold hiX laX; rw [hiN_lt (by omega), laN_lt (by omega)]; exact ⟨rfl, by omega⟩
theorem hiX_ge {x : Int} (h : 128 ≤ x) : hiX x = (x % 128 + 128) :: hiX (x / 128) ∧ laX x = laX (x / 128) := by
  unfold hiX laX; rw [hiN_ge (by omega), laN_ge (by omega)]
  obtain ⟨n, rfl⟩ := Int.eq_ofNat_of_zero_le (show 0 ≤ x by omega)
  refine ⟨?_, by congr 2⟩
  congr 1
theorem vb_lt {x : Int} (h : 0 ≤ x ∧ x < 128) : vb x = [x] := by rw [vb_eq, (hiX_lt h).1, (hiX_lt h).2]; rfl
theorem vb_ge {x : Int} (h : 128 ≤ x) : vb x = (x % 128 + 128) :: vb (x / 128) := by rw [vb_eq, vb_eq, (hiX_ge h).1, (hiX_ge h).2]; rfl
theorem laX_in (x : Int) : 0 ≤ laX x ∧ laX x < 128 := by
  have := laN_128 x.toNat x.toNat (Nat.le_refl _)
  unfold laX; omega
-- the words
theorem ishr7 {x : Int} : ishr .u64 x 7 = x / 128 := by
  unfold ishr; simp [IntKind.bits]
theorem or128 : ∀ v : Nat, v < 128 → ior .u8 (v : Int) 128 = ((v + 128 : Nat) : Int) := by decide +kernel
theorem or128' : ∀ v : Nat, v < 256 → 128 ≤ v → ior .u8 (v : Int) 128 = (v : Int) := by decide +kernel
theorem orb {x : Int} (h : 0 ≤ x) : ior .u8 (icv .u8 x) 128 = x % 128 + 128 := by
  unfold icv; rw [w_u8]
  have h1 := Int.emod_nonneg x (b := 256) (by omega)
  have h2 := Int.emod_lt_of_pos x (b := 256) (by omega)
  obtain ⟨v, hv⟩ := Int.eq_ofNat_of_zero_le h1
  rw [hv]
  by_cases h3 : v < 128
  · rw [or128 v h3]; omega
  · rw [or128' v (by omega) (by omega)]; omega
theorem icvl {x : Int} (h : 0 ≤ x ∧ x < 128) : icv .u8 x = x := by unfold icv; rw [w_u8]; omega
end Go.Proofs.Ytihnhjkaamngoaa.Code
