/- Layer 3 (serial) and its reference: what each function comes to, in plain numbers. -/
import Derived.Test.YtfihmphhklplnaaAbsN
set_option linter.unusedVariables false
namespace Go.Proofs.Ytfihmphhklplnaa.Ser
open Go.Abs
def wi (n : Int) : Int := icv .u64 (imax 1 (imin n 62))
def dif (a b n : Int) : Int := ishr .i64 (icv .i64 (ishl .u64 (isub .u64 a b) (isub .u64 64 (wi n)))) (isub .u64 64 (wi n))
def unw (a b n : Int) : Int := iadd .i64 (imax (-4611686018427387904) (imin a 4611686018427387904)) (dif b (icv .u64 (imax (-4611686018427387904) (imin a 4611686018427387904))) n)
def mask (n : Int) : Int := isub .u64 (ishl .u64 1 (wi n)) 1
def cut (x n : Int) : Int := iand .u64 x (mask n)
def rd (n : Int) : Int := 2 ^ (max 1 (min n 62)).toNat
def rcut (x n : Int) : Int := irem x (icv .u64 (rd n))
def rdif0 (a b n : Int) : Int := isub .i64 (icv .i64 (rcut a n)) (icv .i64 (rcut b n))
def rdif1 (a b n : Int) : Int := cond (ilt (rdif0 a b n) (isub .i64 0 (iquo .i64 (rd n) 2))) (iadd .i64 (rdif0 a b n) (rd n)) (rdif0 a b n)
def rdif (a b n : Int) : Int := cond (ile (iquo .i64 (rd n) 2) (rdif1 a b n)) (isub .i64 (rdif1 a b n) (rd n)) (rdif1 a b n)
def rl (a : Int) : Int := imin (imax a (-4611686018427387904)) 4611686018427387904
def rleft (a n : Int) : Int := cond (ilt (irem (rl a) (rd n)) 0) (iadd .i64 (irem (rl a) (rd n)) (rd n)) (irem (rl a) (rd n))
def rup0 (a b n : Int) : Int := isub .i64 (icv .i64 (rcut b n)) (rleft a n)
def rup (a b n : Int) : Int := cond (ilt (rup0 a b n) 0) (iadd .i64 (rup0 a b n) (rd n)) (rup0 a b n)
def runw (a b n : Int) : Int := cond (ieq (rup a b n) 0) (rl a) (cond (ile (isub .i64 (rd n) (rup a b n)) (rup a b n)) (isub .i64 (rl a) (isub .i64 (rd n) (rup a b n))) (iadd .i64 (rl a) (rup a b n)))

theorem wi_eq (n : Int) : wi n = max 1 (min n 62) := by
  simp only [wi, icv, imax, imin, IntKind.wrap, IntKind.signed, IntKind.bits]
  simp; omega
theorem wi_bd (n : Int) : 1 ≤ wi n ∧ wi n ≤ 62 := by rw [wi_eq]; omega
theorem sh_eq (n : Int) : isub .u64 64 (wi n) = 64 - wi n := by
  have := wi_bd n
  simp only [isub, IntKind.wrap, IntKind.signed, IntKind.bits]
  simp; omega
/-- 2^c for c from 1 to 62, and the other half of 64 bits -/
theorem pw (n : Int) : ∃ c s : Nat, 1 ≤ c ∧ c ≤ 62 ∧ c + s = 64 ∧ wi n = c ∧ rd n = 2 ^ c := by
  have h := wi_eq n
  refine ⟨(max 1 (min n 62)).toNat, 64 - (max 1 (min n 62)).toNat, by omega, by omega, by omega, by omega, rfl⟩
theorem two_pow_split {c s : Nat} (h : c + s = 64) : (2 : Int) ^ c * 2 ^ s = 18446744073709551616 := by
  rw [← Int.pow_add, h]; decide
theorem pow_pos' (c : Nat) : (0 : Int) < 2 ^ c := Int.pow_pos (by omega)
theorem half_pow {c : Nat} (h : 1 ≤ c) : ∃ H : Int, (2 : Int) ^ c = 2 * H ∧ 0 < H := by
  obtain ⟨d, rfl⟩ : ∃ d, c = d + 1 := ⟨c - 1, by omega⟩
  exact ⟨2 ^ d, by rw [Int.pow_succ]; omega, pow_pos' d⟩
theorem pow_le62 {c : Nat} (h : c ≤ 62) : (2 : Int) ^ c ≤ 4611686018427387904 := by
  have : (2 : Nat) ^ c ≤ 2 ^ 62 := Nat.pow_le_pow_right (by omega) h
  have h2 : ((2 ^ c : Nat) : Int) ≤ ((2 ^ 62 : Nat) : Int) := by exact_mod_cast this
  simpa using h2

/-- the distance, in plain numbers: what is left of a - b by N, from the middle -/
def mid (x N : Int) : Int := if 2 * (x % N) < N then x % N else x % N - N

theorem dif_mid (a b n : Int) (ha : 0 ≤ a ∧ a < 18446744073709551616) (hb : 0 ≤ b ∧ b < 18446744073709551616) : dif a b n = mid (a - b) (rd n) := by
  obtain ⟨c, s, h1, h2, h3, h4, h5⟩ := pw n
  obtain ⟨H, hH, hH0⟩ := half_pow h1
  have hsp := two_pow_split h3
  have hs0 := pow_pos' s
  unfold dif mid
  rw [sh_eq, h4, h5]
  have hs : ((64 : Int) - (c : Int)) = ((s : Nat) : Int) := by omega
  rw [hs]
  have hm : min ((s : Nat) : Int).toNat (IntKind.bits .u64) = s := by simp [IntKind.bits]; omega
  have hm2 : min ((s : Nat) : Int).toNat (IntKind.bits .i64) = s := by simp [IntKind.bits]; omega
  simp only [ishr, ishl, icv, isub, hm, hm2]
  -- the shifted difference
  have e1 : IntKind.wrap .u64 (IntKind.wrap .u64 (a - b) * 2 ^ s) = ((a - b) % 2 ^ c) * 2 ^ s := by
    simp only [IntKind.wrap, IntKind.signed, IntKind.bits]
    simp only [Bool.false_and, Bool.false_eq_true, if_false]
    have h64 : ((2 : Int) ^ 64) = 2 ^ s * 2 ^ c := by rw [Int.mul_comm, hsp]; decide
    rw [h64, Int.mul_comm _ (2 ^ s), Int.mul_emod_mul_of_pos _ _ hs0, Int.emod_emod_of_dvd _ ⟨2 ^ s, Int.mul_comm _ _⟩, Int.mul_comm]
  rw [e1]
  have hr0 : 0 ≤ (a - b) % 2 ^ c := Int.emod_nonneg _ (by have := pow_pos' c; omega)
  have hr1 : (a - b) % 2 ^ c < 2 ^ c := Int.emod_lt_of_pos _ (pow_pos' c)
  generalize (a - b) % 2 ^ c = r at *
  have hS : (2 : Int) ^ s * (2 * H) = 18446744073709551616 := by rw [← hH, Int.mul_comm]; exact hsp
  generalize hSS : (2 : Int) ^ s = S at *
  rw [hH] at hr1 ⊢
  rw [w_i64]
  have hv0 : 0 ≤ r * S := Int.mul_nonneg hr0 (by omega)
  have hv1 : r * S < 18446744073709551616 := by
    rw [← hS, Int.mul_comm S]
    exact Int.mul_lt_mul_of_pos_right hr1 hs0
  have hSH : S * H = 9223372036854775808 := by
    have : S * (2 * H) = 2 * (S * H) := by rw [← Int.mul_assoc, Int.mul_comm S 2, Int.mul_assoc]
    omega
  by_cases hc : r < H
  · have h9 : r * S < 9223372036854775808 := by
      rw [← hSH, Int.mul_comm S]; exact Int.mul_lt_mul_of_pos_right hc hs0
    rw [if_pos (by omega)]
    have e2 : (r * S + 9223372036854775808) % 18446744073709551616 - 9223372036854775808 = r * S := by omega
    rw [e2, Int.mul_ediv_cancel _ (by omega)]
  · have h9 : 9223372036854775808 ≤ r * S := by
      rw [← hSH, Int.mul_comm S]; exact Int.mul_le_mul_of_nonneg_right (by omega) (by omega)
    rw [if_neg (by omega)]
    have e2 : (r * S + 9223372036854775808) % 18446744073709551616 - 9223372036854775808 = (r - 2 * H) * S := by
      rw [Int.sub_mul, Int.mul_comm (2 * H) S, hS]; omega
    rw [e2, Int.mul_ediv_cancel _ (by omega)]

theorem emod_lo {x N : Int} (h : 0 ≤ x ∧ x < N) : x % N = x := Int.emod_eq_of_lt h.1 h.2
theorem emod_neg {x N : Int} (h : -N ≤ x ∧ x < 0) : x % N = x + N := by
  have : (x + N) % N = x % N := Int.add_emod_right x N
  rw [← this]; exact Int.emod_eq_of_lt (by omega) (by omega)
theorem rcut_eq (x n : Int) (hx : 0 ≤ x) : rcut x n = x % rd n ∧ 0 ≤ x % rd n ∧ x % rd n < rd n ∧ 2 ≤ rd n ∧ rd n ≤ 4611686018427387904 ∧ ∃ H, rd n = 2 * H := by
  obtain ⟨c, s, h1, h2, h3, h4, h5⟩ := pw n
  obtain ⟨H, hH, hH0⟩ := half_pow h1
  have hle := pow_le62 h2
  rw [← h5] at hH hle
  have hN : icv .u64 (rd n) = rd n := w_u64_in (by omega)
  refine ⟨?_, Int.emod_nonneg _ (by omega), Int.emod_lt_of_pos _ (by omega), by omega, hle, H, hH⟩
  unfold rcut irem
  rw [hN, Int.tmod_eq_emod_of_nonneg hx]
theorem mid_sub {a b N : Int} (hN : 0 < N) : mid (a - b) N = (if 2 * ((if b % N ≤ a % N then a % N - b % N else a % N - b % N + N)) < N then (if b % N ≤ a % N then a % N - b % N else a % N - b % N + N) else (if b % N ≤ a % N then a % N - b % N else a % N - b % N + N) - N) := by
  have ha0 := Int.emod_nonneg a (show N ≠ 0 by omega)
  have hb0 := Int.emod_nonneg b (show N ≠ 0 by omega)
  have ha1 := Int.emod_lt_of_pos a hN
  have hb1 := Int.emod_lt_of_pos b hN
  have e : (a - b) % N = if b % N ≤ a % N then a % N - b % N else a % N - b % N + N := by
    rw [Int.sub_emod]
    split
    · exact emod_lo (by omega)
    · exact emod_neg (by omega)
  unfold mid
  rw [e]
theorem rdif_mid (a b n : Int) (ha : 0 ≤ a ∧ a < 18446744073709551616) (hb : 0 ≤ b ∧ b < 18446744073709551616) : rdif a b n = mid (a - b) (rd n) := by
  obtain ⟨ea, a0, a1, hN, hN2, H, hH⟩ := rcut_eq a n ha.1
  obtain ⟨eb, b0, b1, -, -, -⟩ := rcut_eq b n hb.1
  rw [mid_sub (by omega)]
  unfold rdif rdif1 rdif0
  rw [ea, eb]
  have q1 : iquo .i64 (rd n) 2 = H := by
    unfold iquo; rw [Int.tdiv_eq_ediv_of_nonneg (by omega), w_i64_in (by omega)]; omega
  rw [q1]
  generalize a % rd n = x at *
  generalize b % rd n = y at *
  have q2 : isub .i64 (icv .i64 x) (icv .i64 y) = x - y := by
    unfold isub icv; rw [w_i64_in (x := x) (by omega), w_i64_in (x := y) (by omega), w_i64_in (by omega)]
  have q3 : isub .i64 0 H = -H := by unfold isub; rw [w_i64_in (by omega)]; omega
  rw [q2, q3]
  have q4 : iadd .i64 (x - y) (rd n) = x - y + rd n := by unfold iadd; rw [w_i64_in (by omega)]
  rw [q4]
  by_cases h1 : x - y < -H
  · have t1 : ilt (x - y) (-H) = true := decide_eq_true h1
    rw [t1]; simp only [cond_true]
    have t2 : ile H (x - y + rd n) = false := decide_eq_false (by omega)
    rw [t2]; simp only [cond_false]
    have hxy : ¬ y ≤ x := by omega
    simp only [if_neg hxy]
    rw [if_pos (by omega)]
  · have t1 : ilt (x - y) (-H) = false := decide_eq_false h1
    rw [t1]; simp only [cond_false]
    by_cases h2 : H ≤ x - y
    · have t2 : ile H (x - y) = true := decide_eq_true h2
      rw [t2]; simp only [cond_true]
      have q5 : isub .i64 (x - y) (rd n) = x - y - rd n := by unfold isub; rw [w_i64_in (by omega)]
      have hxy : y ≤ x := by omega
      simp only [q5, if_pos hxy]
      rw [if_neg (by omega)]
    · have t2 : ile H (x - y) = false := decide_eq_false h2
      rw [t2]; simp only [cond_false]
      by_cases h3 : y ≤ x
      · simp only [if_pos h3]; rw [if_pos (by omega)]
      · simp only [if_neg h3]; rw [if_neg (by omega)]; omega
theorem dif_rdif (a b n : Int) (ha : 0 ≤ a ∧ a < 18446744073709551616) (hb : 0 ≤ b ∧ b < 18446744073709551616) : dif a b n = rdif a b n := by
  rw [dif_mid a b n ha hb, rdif_mid a b n ha hb]

theorem mid_bd {x N : Int} (hN : 0 < N) : -N ≤ mid x N ∧ mid x N < N := by
  have h0 := Int.emod_nonneg x (show N ≠ 0 by omega)
  have h1 := Int.emod_lt_of_pos x hN
  unfold mid; split <;> omega
theorem mid_wrap (x L n : Int) (k : Int) : mid (x - (L + k * 18446744073709551616)) (rd n) = mid (x - L) (rd n) := by
  obtain ⟨c, s, h1, h2, h3, h4, h5⟩ := pw n
  have hsp := two_pow_split h3
  have e : x - (L + k * 18446744073709551616) = (x - L) + (rd n) * (-(2 ^ s * k)) := by
    rw [h5, ← hsp]
    have e3 : k * (2 ^ c * 2 ^ s) = 2 ^ c * (2 ^ s * k) := by rw [Int.mul_comm k, Int.mul_assoc]
    rw [Int.mul_neg]; omega
  unfold mid
  rw [e, Int.add_mul_emod_self_left]
def clampL (a : Int) : Int := max (-4611686018427387904) (min a 4611686018427387904)
theorem unw_mid (a b n : Int) (hb : 0 ≤ b ∧ b < 18446744073709551616) : unw a b n = clampL a + mid (b - clampL a) (rd n) := by
  obtain ⟨-, -, -, hN, hN2, -⟩ := rcut_eq 0 n (by omega)
  unfold unw
  have e0 : imax (-4611686018427387904) (imin a 4611686018427387904) = clampL a := rfl
  rw [e0]
  have hL : -4611686018427387904 ≤ clampL a ∧ clampL a ≤ 4611686018427387904 := by unfold clampL; omega
  generalize clampL a = L at *
  have e1 : icv .u64 L = L % 18446744073709551616 := w_u64 L
  rw [e1, dif_mid b _ n hb (by omega)]
  have e2 : L % 18446744073709551616 = L + (-(L / 18446744073709551616)) * 18446744073709551616 := by omega
  rw [e2, mid_wrap]
  have hm := mid_bd (x := b - L) (N := rd n) (by omega)
  unfold iadd; rw [w_i64_in (by omega)]
theorem runw_mid (a b n : Int) (hb : 0 ≤ b ∧ b < 18446744073709551616) : runw a b n = clampL a + mid (b - clampL a) (rd n) := by
  obtain ⟨eb, b0, b1, hN, hN2, H, hH⟩ := rcut_eq b n hb.1
  have e0 : rl a = clampL a := by unfold rl clampL imin imax; omega
  have hL : -4611686018427387904 ≤ clampL a ∧ clampL a ≤ 4611686018427387904 := by unfold clampL; omega
  have hleft : rleft a n = clampL a % rd n := by
    unfold rleft
    rw [e0]
    generalize clampL a = L at *
    have h0 := Int.emod_nonneg L (show rd n ≠ 0 by omega)
    have h1 := Int.emod_lt_of_pos L (show 0 < rd n by omega)
    unfold irem
    by_cases hp : 0 ≤ L
    · rw [Int.tmod_eq_emod_of_nonneg hp]
      have t : ilt (L % rd n) 0 = false := decide_eq_false (by omega)
      rw [t]; rfl
    · have e1 : L.tmod (rd n) = -((-L) % rd n) := by
        rw [← Int.tmod_eq_emod_of_nonneg (show 0 ≤ -L by omega), Int.neg_tmod, Int.neg_neg]
      have h2 := Int.emod_nonneg (-L) (show rd n ≠ 0 by omega)
      have h3 := Int.emod_lt_of_pos (-L) (show 0 < rd n by omega)
      have e2 : L % rd n = (-((-L) % rd n)) % rd n := by
        have : L = -(-L) := by omega
        rw [this, Int.neg_emod_eq_sub_emod, Int.neg_emod_eq_sub_emod, Int.neg_neg]
        rw [Int.sub_emod (rd n) (-L % rd n), Int.emod_emod, ← Int.sub_emod]
      rw [e1]
      by_cases hz : (-L) % rd n = 0
      · rw [hz] at e2 ⊢
        have t : ilt (-0) 0 = false := rfl
        rw [t, e2]; simp
      · have t : ilt (-(-L % rd n)) 0 = true := decide_eq_true (by omega)
        rw [t, e2, emod_neg (x := -(-L % rd n)) (by omega)]
        simp only [cond_true]
        unfold iadd; rw [w_i64_in (by omega)]
  have hl0 := Int.emod_nonneg (clampL a) (show rd n ≠ 0 by omega)
  have hl1 := Int.emod_lt_of_pos (clampL a) (show 0 < rd n by omega)
  rw [mid_sub (by omega)]
  unfold runw rup rup0
  rw [hleft, eb, e0]
  generalize clampL a % rd n = l at *
  generalize b % rd n = x at *
  generalize clampL a = L at *
  have q1 : isub .i64 (icv .i64 x) l = x - l := by unfold isub icv; rw [w_i64_in (x := x) (by omega), w_i64_in (by omega)]
  rw [q1]
  have q2 : iadd .i64 (x - l) (rd n) = x - l + rd n := by unfold iadd; rw [w_i64_in (by omega)]
  have q3 : cond (ilt (x - l) 0) (iadd .i64 (x - l) (rd n)) (x - l) = if l ≤ x then x - l else x - l + rd n := by
    rw [q2]
    by_cases h : l ≤ x
    · have t : ilt (x - l) 0 = false := decide_eq_false (by omega)
      rw [t, if_pos h]; rfl
    · have t : ilt (x - l) 0 = true := decide_eq_true (by omega)
      rw [t, if_neg h]; rfl
  rw [q3]
  have hu : 0 ≤ (if l ≤ x then x - l else x - l + rd n) ∧ (if l ≤ x then x - l else x - l + rd n) < rd n := by split <;> omega
  generalize (if l ≤ x then x - l else x - l + rd n) = u at *
  have q4 : isub .i64 (rd n) u = rd n - u := by unfold isub; rw [w_i64_in (by omega)]
  rw [q4]
  have q5 : isub .i64 L (rd n - u) = L - (rd n - u) := by unfold isub; rw [w_i64_in (by omega)]
  have q6 : iadd .i64 L u = L + u := by unfold iadd; rw [w_i64_in (by omega)]
  rw [q5, q6]
  by_cases h0 : u = 0
  · have t : ieq u 0 = true := by simp [ieq, h0]
    rw [t, if_pos (by omega)]; simp only [cond_true]; omega
  · have t : ieq u 0 = false := by simp [ieq, h0]
    rw [t]; simp only [cond_false]
    by_cases h1 : rd n - u ≤ u
    · have t : ile (rd n - u) u = true := decide_eq_true h1
      rw [t, if_neg (by omega)]; simp only [cond_true]; omega
    · have t : ile (rd n - u) u = false := decide_eq_false h1
      rw [t, if_pos (by omega)]; simp only [cond_false]
theorem unw_runw (a b n : Int) (hb : 0 ≤ b ∧ b < 18446744073709551616) : unw a b n = runw a b n := by
  rw [unw_mid a b n hb, runw_mid a b n hb]
end Go.Proofs.Ytfihmphhklplnaa.Ser
