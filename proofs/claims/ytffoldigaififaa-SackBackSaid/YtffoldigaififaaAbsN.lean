import Derived.Test.YtffoldigaififaaAbsM
set_option linter.unusedVariables false
/- Numbers: the words of AbsB in a form that linear arithmetic reads. -/
namespace Go.Abs
theorem w_u64 (x : Int) : IntKind.wrap .u64 x = x % 18446744073709551616 := by simp [IntKind.wrap, IntKind.signed, IntKind.bits]
theorem w_u32 (x : Int) : IntKind.wrap .u32 x = x % 4294967296 := by simp [IntKind.wrap, IntKind.signed, IntKind.bits]
theorem w_u16 (x : Int) : IntKind.wrap .u16 x = x % 65536 := by simp [IntKind.wrap, IntKind.signed, IntKind.bits]
theorem w_u8 (x : Int) : IntKind.wrap .u8 x = x % 256 := by simp [IntKind.wrap, IntKind.signed, IntKind.bits]
theorem w_i64 (x : Int) : IntKind.wrap .i64 x = (x + 9223372036854775808) % 18446744073709551616 - 9223372036854775808 := by
  simp [IntKind.wrap, IntKind.signed, IntKind.bits]; split <;> omega
theorem w_i32 (x : Int) : IntKind.wrap .i32 x = (x + 2147483648) % 4294967296 - 2147483648 := by
  simp [IntKind.wrap, IntKind.signed, IntKind.bits]; split <;> omega
theorem w_i64_in {x : Int} (h : -9223372036854775808 ≤ x ∧ x ≤ 9223372036854775807) : IntKind.wrap .i64 x = x := by rw [w_i64]; omega
theorem w_u64_in {x : Int} (h : 0 ≤ x ∧ x ≤ 18446744073709551615) : IntKind.wrap .u64 x = x := by rw [w_u64]; omega
theorem wf_u8' {n : Int} (h : (Lit.int .u8 n).wf = true) : 0 ≤ n ∧ n ≤ 255 := by
  simp [Lit.wf, IntKind.min, IntKind.max, IntKind.signed, IntKind.bits] at h; omega
theorem wf_u16' {n : Int} (h : (Lit.int .u16 n).wf = true) : 0 ≤ n ∧ n ≤ 65535 := by
  simp [Lit.wf, IntKind.min, IntKind.max, IntKind.signed, IntKind.bits] at h; omega
theorem wf_u32' {n : Int} (h : (Lit.int .u32 n).wf = true) : 0 ≤ n ∧ n ≤ 4294967295 := by
  simp [Lit.wf, IntKind.min, IntKind.max, IntKind.signed, IntKind.bits] at h; omega
theorem wf_u64' {n : Int} (h : (Lit.int .u64 n).wf = true) : 0 ≤ n ∧ n ≤ 18446744073709551615 := by
  simp [Lit.wf, IntKind.min, IntKind.max, IntKind.signed, IntKind.bits] at h; omega
theorem wf_i32' {n : Int} (h : (Lit.int .i32 n).wf = true) : -2147483648 ≤ n ∧ n ≤ 2147483647 := by
  simp [Lit.wf, IntKind.min, IntKind.max, IntKind.signed, IntKind.bits] at h; omega
theorem wf_i64' {n : Int} (h : (Lit.int .i64 n).wf = true) : -9223372036854775808 ≤ n ∧ n ≤ 9223372036854775807 := by
  simp [Lit.wf, IntKind.min, IntKind.max, IntKind.signed, IntKind.bits] at h; omega
end Go.Abs
namespace Go.Abs
theorem tdiv_c {x c : Int} (hc : 0 < c) : x.tdiv c = if 0 ≤ x then x / c else -((-x) / c) := by
  split
  · exact Int.tdiv_eq_ediv_of_nonneg ‹_›
  · have : x = -(-x) := by omega
    rw [this, Int.neg_tdiv, Int.tdiv_eq_ediv_of_nonneg (by omega), Int.neg_neg]
theorem tmod_c {x c : Int} (hc : 0 < c) : x.tmod c = if 0 ≤ x then x % c else -((-x) % c) := by
  split
  · exact Int.tmod_eq_emod_of_nonneg ‹_›
  · have : x = -(-x) := by omega
    rw [this, Int.neg_tmod, Int.tmod_eq_emod_of_nonneg (by omega), Int.neg_neg]
theorem cond_if {α : Type} (t : Bool) (x y : α) : cond t x y = if t = true then x else y := by cases t <;> rfl
theorem ilt_d (a b : Int) : ilt a b = decide (a < b) := rfl
theorem ile_d (a b : Int) : ile a b = decide (a ≤ b) := rfl
theorem ieq_d (a b : Int) : ieq a b = decide (a = b) := by by_cases h : a = b <;> simp [ieq, h]
theorem ine_d (a b : Int) : ine a b = decide (a ≠ b) := by by_cases h : a = b <;> simp [ine, h]
theorem notB_d (a : Bool) : notB a = !a := by cases a <;> rfl
theorem beqB_d (a b : Bool) : beqB a b = (a == b) := by cases a <;> cases b <;> rfl
end Go.Abs
namespace Go.Abs
theorem wrap_small (k : IntKind) {v : Int} (h0 : 0 ≤ v) (h1 : v < 2 ^ (k.bits - 1)) : k.wrap v = v := by
  cases k <;> simp [IntKind.bits] at h1 <;> simp [IntKind.wrap, IntKind.signed, IntKind.bits] <;> omega
theorem iand_mask (k : IntKind) (i : Nat) (hi : i < k.bits) (x : Int) : iand k x (2 ^ i - 1) = x % 2 ^ i := by
  have hpos : 0 < 2 ^ i := Nat.two_pow_pos i
  have hw : 2 ^ i ≤ 2 ^ (k.bits - 1) := Nat.pow_le_pow_right (by decide) (by omega)
  have hw2 : 2 ^ (k.bits - 1) ≤ 2 ^ k.bits := Nat.pow_le_pow_right (by decide) (by omega)
  have hm0 : ((2 : Int) ^ i - 1) = ((2 ^ i - 1 : Nat) : Int) := by rw [Int.natCast_sub hpos]; simp
  unfold iand bits
  have e1 : (BitVec.ofInt k.bits (2 ^ i - 1)).toNat = 2 ^ i - 1 := by
    rw [hm0, BitVec.ofInt_natCast, BitVec.toNat_ofNat]
    exact Nat.mod_eq_of_lt (by omega)
  have e2 : (BitVec.ofInt k.bits x).toNat = (x % ((2 ^ k.bits : Nat) : Int)).toNat := BitVec.toNat_ofInt x
  simp only [BitVec.toNat_and, e1, e2, Nat.and_two_pow_sub_one_eq_mod]
  have hx0 := Int.emod_nonneg x (show ((2 ^ k.bits : Nat) : Int) ≠ 0 by have := Nat.two_pow_pos k.bits; omega)
  have e3 : (((x % ((2 ^ k.bits : Nat) : Int)).toNat % 2 ^ i : Nat) : Int) = x % 2 ^ i := by
    rw [Int.natCast_emod, Int.toNat_of_nonneg hx0]
    have hd : ((2 ^ i : Nat) : Int) ∣ ((2 ^ k.bits : Nat) : Int) := Int.natCast_dvd_natCast.2 (Nat.pow_dvd_pow 2 (by omega))
    rw [Int.emod_emod_of_dvd _ hd]; simp
  rw [e3]
  have h0 : 0 ≤ x % 2 ^ i := Int.emod_nonneg _ (by have := Int.pow_pos (n := 2) (m := i) (by omega); omega)
  have h1 : x % 2 ^ i < 2 ^ i := Int.emod_lt_of_pos _ (Int.pow_pos (by omega))
  exact wrap_small k h0 (Int.lt_of_lt_of_le h1 (by exact_mod_cast hw))
end Go.Abs
