import Derived.Test.YtihnhjkaamngoaaCodeM
import Derived.Laws.BitsLemmas
/- The words of signed numbers and of groups. -/
namespace Go.Proofs.Ytihnhjkaamngoaa.Code
open Go.Abs
theorem xor0 {a : Int} (h : u64B a = true) : ixor .u64 a 0 = a := by
  rw [u64B_iff] at h
  unfold ixor bits
  have e : (BitVec.ofInt IntKind.u64.bits a).toNat = a.toNat := by
    rw [BitVec.toNat_ofInt]; simp only [IntKind.bits]; omega
  simp only [BitVec.toNat_xor, e]
  rw [show (BitVec.ofInt IntKind.u64.bits 0).toNat = 0 from rfl, Nat.xor_zero]
  rw [w_u64_in (by omega)]; omega
theorem xor1 {a : Int} (h : u64B a = true) : ixor .u64 a 18446744073709551615 = 18446744073709551615 - a := by
  rw [u64B_iff] at h
  unfold ixor bits
  have e : (BitVec.ofInt IntKind.u64.bits a).toNat = a.toNat := by
    rw [BitVec.toNat_ofInt]; simp only [IntKind.bits]; omega
  have e2 : (BitVec.ofInt IntKind.u64.bits a ^^^ BitVec.ofInt IntKind.u64.bits 18446744073709551615) = ~~~ (BitVec.ofInt IntKind.u64.bits a) := by
    rw [show (BitVec.ofInt IntKind.u64.bits 18446744073709551615 : BitVec IntKind.u64.bits) = BitVec.allOnes IntKind.u64.bits from rfl]
    exact BitVec.xor_allOnes
  have e3 : (~~~ (BitVec.ofInt IntKind.u64.bits a)).toNat = 18446744073709551615 - a.toNat := by
    rw [BitVec.toNat_not, e]; rfl
  show IntKind.u64.wrap ((BitVec.ofInt IntKind.u64.bits a ^^^ BitVec.ofInt IntKind.u64.bits 18446744073709551615).toNat : Int) = _
  rw [e2, e3, w_u64_in (by omega)]; omega
theorem xor0i {a : Int} (h : 0 ≤ a ∧ a < 9223372036854775808) : ixor .i64 a 0 = a := by
  unfold ixor bits
  have e : (BitVec.ofInt IntKind.i64.bits a).toNat = a.toNat := by
    rw [BitVec.toNat_ofInt]; simp only [IntKind.bits]; omega
  show IntKind.i64.wrap ((BitVec.ofInt IntKind.i64.bits a ^^^ BitVec.ofInt IntKind.i64.bits 0).toNat : Int) = _
  rw [BitVec.toNat_xor, e, show (BitVec.ofInt IntKind.i64.bits 0).toNat = 0 from rfl, Nat.xor_zero]
  rw [w_i64_in (by omega)]; omega
theorem xor1i {a : Int} (h : 0 ≤ a ∧ a < 9223372036854775808) : ixor .i64 a (-1) = -1 - a := by
  unfold ixor bits
  have e : (BitVec.ofInt IntKind.i64.bits a).toNat = a.toNat := by
    rw [BitVec.toNat_ofInt]; simp only [IntKind.bits]; omega
  have e2 : (BitVec.ofInt IntKind.i64.bits a ^^^ BitVec.ofInt IntKind.i64.bits (-1)) = ~~~ (BitVec.ofInt IntKind.i64.bits a) := by
    rw [show (BitVec.ofInt IntKind.i64.bits (-1) : BitVec IntKind.i64.bits) = BitVec.allOnes IntKind.i64.bits from rfl]
    exact BitVec.xor_allOnes
  have e3 : (~~~ (BitVec.ofInt IntKind.i64.bits a)).toNat = 18446744073709551615 - a.toNat := by
    rw [BitVec.toNat_not, e]; rfl
  show IntKind.i64.wrap ((BitVec.ofInt IntKind.i64.bits a ^^^ BitVec.ofInt IntKind.i64.bits (-1)).toNat : Int) = _
  rw [e2, e3, w_i64]; omega
/-- a signed number again -/
def uz (x : Int) : Int := if x % 2 = 0 then x / 2 else -(x / 2) - 1
theorem uz_code {x : Int} (h : u64B x = true) : ixor .i64 (icv .i64 (ishr .u64 x 1)) (isub .i64 0 (icv .i64 (iand .u64 x 1))) = uz x := by
  rw [u64B_iff] at h
  have e1 : ishr .u64 x 1 = x / 2 := by unfold ishr; simp [IntKind.bits]
  have e2 : iand .u64 x 1 = x % 2 := iand_mask .u64 1 (by decide) x
  rw [e1, e2]
  have e3 : icv .i64 (x / 2) = x / 2 := by unfold icv; rw [w_i64_in (by omega)]
  rw [e3]
  unfold uz
  split
  · rename_i h0; rw [h0, show isub .i64 0 (icv .i64 0) = 0 from rfl, xor0i (by omega)]
  · rw [show x % 2 = 1 by omega, show isub .i64 0 (icv .i64 1) = -1 from rfl, xor1i (by omega)]; omega
theorem uz_ref {x : Int} (h : u64B x = true) : (bif ieq (irem x 2) 0 then icv .i64 (iquo .u64 x 2) else isub .i64 (isub .i64 0 (icv .i64 (iquo .u64 x 2))) 1) = uz x := by
  rw [u64B_iff] at h
  have e1 : irem x 2 = x % 2 := by unfold irem; rw [Int.tmod_eq_emod_of_nonneg (by omega)]
  have e2 : iquo .u64 x 2 = x / 2 := by unfold iquo; rw [Int.tdiv_eq_ediv_of_nonneg (by omega), w_u64_in (by omega)]
  have e3 : icv .i64 (x / 2) = x / 2 := by unfold icv; rw [w_i64_in (by omega)]
  rw [e1, e2, e3]
  unfold uz; rw [cond_if]; simp only [ieq_d, decide_eq_true_eq]
  split
  · rfl
  · unfold isub; rw [w_i64_in (x := 0 - x / 2) (by omega), w_i64_in (by omega)]; omega
/-- a signed number without its sign -/
def zz (x : Int) : Int := if 0 ≤ x then 2 * x else -2 * x - 1
def i64B (x : Int) : Bool := decide (-9223372036854775808 ≤ x ∧ x ≤ 9223372036854775807)
theorem i64B_iff {x : Int} : i64B x = true ↔ -9223372036854775808 ≤ x ∧ x ≤ 9223372036854775807 := by simp [i64B]
theorem zz_u64 {x : Int} (h : i64B x = true) : u64B (zz x) = true := by
  rw [i64B_iff] at h; rw [u64B_iff]; unfold zz; split <;> omega
theorem zz_code {x : Int} (h : i64B x = true) : ixor .u64 (ishl .u64 (icv .u64 x) 1) (icv .u64 (ishr .i64 x 63)) = zz x := by
  rw [i64B_iff] at h
  have e1 : ishl .u64 (icv .u64 x) 1 = 2 * x % 18446744073709551616 := by
    unfold ishl icv; rw [w_u64, w_u64]; simp [IntKind.bits]; omega
  have e2 : ishr .i64 x 63 = if 0 ≤ x then 0 else -1 := by
    unfold ishr; simp [IntKind.bits]; split <;> omega
  rw [e1, e2]
  unfold zz
  split
  · rw [show icv .u64 0 = 0 from rfl, xor0 (by rw [u64B_iff]; omega)]; omega
  · rw [show icv .u64 (-1) = 18446744073709551615 from rfl, xor1 (by rw [u64B_iff]; omega)]; omega
theorem zz_ref {x : Int} (h : i64B x = true) : (bif ile 0 x then imul .u64 2 (icv .u64 x) else iadd .u64 (imul .u64 2 (icv .u64 (isub .i64 0 (iadd .i64 x 1)))) 1) = zz x := by
  rw [i64B_iff] at h
  unfold zz; rw [cond_if]; simp only [ile_d, decide_eq_true_eq]
  split
  · unfold imul icv; rw [w_u64_in (x := x) (by omega), w_u64_in (by omega)]
  · unfold iadd imul icv isub
    rw [w_i64_in (x := x + 1) (by omega), w_i64_in (by omega), w_u64_in (x := 0 - (x + 1)) (by omega), w_u64_in (x := 2 * _) (by omega), w_u64_in (by omega)]; omega
theorem uz_zz {x : Int} : uz (zz x) = x := by unfold uz zz; split <;> split <;> omega
theorem or_add (i : Nat) {x y : Int} (hx : 0 ≤ x) (hxi : x < 2 ^ i) (hx64 : x < 18446744073709551616) (hy : 0 ≤ y) (hyi : y % 2 ^ i = 0) (hy64 : y < 18446744073709551616) : ior .u64 x y = x + y := by
  have hk : ∀ n : Int, 0 ≤ n → n < 2 ^ 64 → IntKind.wrap .u64 n = n := fun n h0 h1 => w_u64_in ⟨h0, by omega⟩
  have h := bits_join .u64 64 (by decide) hk i y x hy hyi (by omega) hx hxi (by omega)
  obtain ⟨a, rfl⟩ := Int.eq_ofNat_of_zero_le hx
  obtain ⟨c, rfl⟩ := Int.eq_ofNat_of_zero_le hy
  unfold ior
  rw [(bits_nat .u64 64 (by decide) hk c a (by omega) (by omega)).2] at h
  rw [(bits_nat .u64 64 (by decide) hk a c (by omega) (by omega)).2, Nat.or_comm, h]
  omega
end Go.Proofs.Ytihnhjkaamngoaa.Code
