import Derived.Test.YtffoldigaififaaAbsN
import Derived.Test.YtffoldigaififaaSkzC
import Derived.Test.YtffoldigaififaaAbsWg
import Derived.Test.YtffoldigaififaaAbsO
/- Layer 3 (serial) and its reference: what each function comes to, in plain numbers. -/
set_option linter.unusedVariables false
namespace Go.Proofs.Ytffoldigaififaa.Ser
open Go.Abs
def wi (n : Int) : Int := icv .u64 (imax 1 (imin n 62))
def dif (a b n : Int) : Int := ishr .i64 (icv .i64 (ishl .u64 (isub .u64 a b) (isub .u64 64 (wi n)))) (isub .u64 64 (wi n))
def unw (a b n : Int) : Int := iadd .i64 (imax (-4611686018427387904) (imin a 4611686018427387904)) (dif b (icv .u64 (imax (-4611686018427387904) (imin a 4611686018427387904))) n)
def rd (n : Int) : Int := 2 ^ (max 1 (min n 62)).toNat
def rcut (x n : Int) : Int := irem x (icv .u64 (rd n))
def rl (a : Int) : Int := imin (imax a (-4611686018427387904)) 4611686018427387904
def rleft (a n : Int) : Int := cond (ilt (irem (rl a) (rd n)) 0) (iadd .i64 (irem (rl a) (rd n)) (rd n)) (irem (rl a) (rd n))
def rup0 (a b n : Int) : Int := isub .i64 (icv .i64 (rcut b n)) (rleft a n)
def rup (a b n : Int) : Int := cond (ilt (rup0 a b n) 0) (iadd .i64 (rup0 a b n) (rd n)) (rup0 a b n)
def runw (a b n : Int) : Int := cond (ieq (rup a b n) 0) (rl a) (cond (ile (isub .i64 (rd n) (rup a b n)) (rup a b n)) (isub .i64 (rl a) (isub .i64 (rd n) (rup a b n))) (iadd .i64 (rl a) (rup a b n)))

theorem wi_eq (n : Int) : wi n = max 1 (min n 62) := by
  simp only [wi, icv, imax, imin, IntKind.wrap, IntKind.signed, IntKind.bits]
  simp; omega
theorem wi_bd (n : Int) : 1 ≤ wi n ∧ wi n ≤ 62 := by rw [wi_eq]; omega
theorem sh_eq (n : Int) : isub .u64 64 (wi n) = 64 - wi n := by
  have := wi_bd n
  simp only [isub, IntKind.wrap, IntKind.signed, IntKind.bits]
  simp; omega
/-- 2^c for c from 1 to 62, and the other half of 64 bits -/
theorem pw (n : Int) : ∃ c s : Nat, 1 ≤ c ∧ c ≤ 62 ∧ c + s = 64 ∧ wi n = c ∧ rd n = 2 ^ c := by
  have h := wi_eq n
  refine ⟨(max 1 (min n 62)).toNat, 64 - (max 1 (min n 62)).toNat, by omega, by omega, by omega, by omega, rfl⟩
theorem two_pow_split {c s : Nat} (h : c + s = 64) : (2 : Int) ^ c * 2 ^ s = 18446744073709551616 := by
  rw [← Int.pow_add, h]; decide
theorem pow_pos' (c : Nat) : (0 : Int) < 2 ^ c := Int.pow_pos (by omega)
theorem half_pow {c : Nat} (h : 1 ≤ c) : ∃ H : Int, (2 : Int) ^ c = 2 * H ∧ 0 < H := by
  obtain ⟨d, rfl⟩ : ∃ d, c = d + 1 := ⟨c - 1, by omega⟩
  exact ⟨2 ^ d, by rw [Int.pow_succ]; omega, pow_pos' d⟩
theorem pow_le62 {c : Nat} (h : c ≤ 62) : (2 : Int) ^ c ≤ 4611686018427387904 := by
  have : (2 : Nat) ^ c ≤ 2 ^ 62 := Nat.pow_le_pow_right (by omega) h
  have h2 : ((2 ^ c : Nat) : Int) ≤ ((2 ^ 62 : Nat) : Int) := by exact_mod_cast this
  simpa using h2

/-- the distance, in plain numbers: what is left of a - b by N, from the middle -/
def mid (x N : Int) : Int := if 2 * (x % N) < N then x % N else x % N - N

theorem dif_mid (a b n : Int) (ha : 0 ≤ a ∧ a < 18446744073709551616) (hb : 0 ≤ b ∧ b < 18446744073709551616) : dif a b n = mid (a - b) (rd n) := by
  obtain ⟨c, s, h1, h2, h3, h4, h5⟩ := pw n
  obtain ⟨H, hH, hH0⟩ := half_pow h1
  have hsp := two_pow_split h3
  have hs0 := pow_pos' s
  unfold dif mid
  rw [sh_eq, h4, h5]
  have hs : ((64 : Int) - (c : Int)) = ((s : Nat) : Int) := by omega
  rw [hs]
  have hm : min ((s : Nat) : Int).toNat (IntKind.bits .u64) = s := by simp [IntKind.bits]; omega
  have hm2 : min ((s : Nat) : Int).toNat (IntKind.bits .i64) = s := by simp [IntKind.bits]; omega
  simp only [ishr, ishl, icv, isub, hm, hm2]
  -- the shifted difference
  have e1 : IntKind.wrap .u64 (IntKind.wrap .u64 (a - b) * 2 ^ s) = ((a - b) % 2 ^ c) * 2 ^ s := by
    simp only [IntKind.wrap, IntKind.signed, IntKind.bits]
    simp only [Bool.false_and, Bool.false_eq_true, if_false]
    have h64 : ((2 : Int) ^ 64) = 2 ^ s * 2 ^ c := by rw [Int.mul_comm, hsp]; decide
    rw [h64, Int.mul_comm _ (2 ^ s), Int.mul_emod_mul_of_pos _ _ hs0, Int.emod_emod_of_dvd _ ⟨2 ^ s, Int.mul_comm _ _⟩, Int.mul_comm]
  rw [e1]
  have hr0 : 0 ≤ (a - b) % 2 ^ c := Int.emod_nonneg _ (by have := pow_pos' c; omega)
  have hr1 : (a - b) % 2 ^ c < 2 ^ c := Int.emod_lt_of_pos _ (pow_pos' c)
  generalize (a - b) % 2 ^ c = r at *
  have hS : (2 : Int) ^ s * (2 * H) = 18446744073709551616 := by rw [← hH, Int.mul_comm]; exact hsp
  generalize hSS : (2 : Int) ^ s = S at *
  rw [hH] at hr1 ⊢
  rw [w_i64]
  have hv0 : 0 ≤ r * S := Int.mul_nonneg hr0 (by omega)
  have hv1 : r * S < 18446744073709551616 := by
    rw [← hS, Int.mul_comm S]
    exact Int.mul_lt_mul_of_pos_right hr1 hs0
  have hSH : S * H = 9223372036854775808 := by
    have : S * (2 * H) = 2 * (S * H) := by rw [← Int.mul_assoc, Int.mul_comm S 2, Int.mul_assoc]
    omega
  by_cases hc : r < H
  · have h9 : r * S < 9223372036854775808 := by
      rw [← hSH, Int.mul_comm S]; exact Int.mul_lt_mul_of_pos_right hc hs0
    rw [if_pos (by omega)]
    have e2 : (r * S + 9223372036854775808) % 18446744073709551616 - 9223372036854775808 = r * S := by omega
    rw [e2, Int.mul_ediv_cancel _ (by omega)]
  · have h9 : 9223372036854775808 ≤ r * S := by
      rw [← hSH, Int.mul_comm S]; exact Int.mul_le_mul_of_nonneg_right (by omega) (by omega)
    rw [if_neg (by omega)]
    have e2 : (r * S + 9223372036854775808) % 18446744073709551616 - 9223372036854775808 = (r - 2 * H) * S := by
      rw [Int.sub_mul, Int.mul_comm (2 * H) S, hS]; omega
    rw [e2, Int.mul_ediv_cancel _ (by omega)]

theorem emod_lo {x N : Int} (h : 0 ≤ x ∧ x < N) : x % N = x := Int.emod_eq_of_lt h.1 h.2
theorem emod_neg {x N : Int} (h : -N ≤ x ∧ x < 0) : x % N = x + N := by
  have : (x + N) % N = x % N := Int.add_emod_right x N
  rw [← this]; exact Int.emod_eq_of_lt (by omega) (by omega)
theorem rcut_eq (x n : Int) (hx : 0 ≤ x) : rcut x n = x % rd n ∧ 0 ≤ x % rd n ∧ x % rd n < rd n ∧ 2 ≤ rd n ∧ rd n ≤ 4611686018427387904 ∧ ∃ H, rd n = 2 * H := by
  obtain ⟨c, s, h1, h2, h3, h4, h5⟩ := pw n
  obtain ⟨H, hH, hH0⟩ := half_pow h1
  have hle := pow_le62 h2
  rw [← h5] at hH hle
  have hN : icv .u64 (rd n) = rd n := w_u64_in (by omega)
  refine ⟨?_, Int.emod_nonneg _ (by omega), Int.emod_lt_of_pos _ (by omega), by omega, hle, H, hH⟩
  unfold rcut irem
  rw [hN, Int.tmod_eq_emod_of_nonneg hx]
theorem mid_sub {a b N : Int} (hN : 0 < N) : mid (a - b) N = (if 2 * ((if b % N ≤ a % N then a % N - b % N else a % N - b % N + N)) < N then (if b % N ≤ a % N then a % N - b % N else a % N - b % N + N) else (if b % N ≤ a % N then a % N - b % N else a % N - b % N + N) - N) := by
  have ha0 := Int.emod_nonneg a (show N ≠ 0 by omega)
  have hb0 := Int.emod_nonneg b (show N ≠ 0 by omega)
  have ha1 := Int.emod_lt_of_pos a hN
  have hb1 := Int.emod_lt_of_pos b hN
  have e : (a - b) % N = if b % N ≤ a % N then a % N - b % N else a % N - b % N + N := by
    rw [Int.sub_emod]
    split
    · exact emod_lo (by omega)
    · exact emod_neg (by omega)
  unfold mid
  rw [e]
theorem mid_bd {x N : Int} (hN : 0 < N) : -N ≤ mid x N ∧ mid x N < N := by
  have h0 := Int.emod_nonneg x (show N ≠ 0 by omega)
  have h1 := Int.emod_lt_of_pos x hN
  unfold mid; split <;> omega
theorem mid_wrap (x L n : Int) (k : Int) : mid (x - (L + k * 18446744073709551616)) (rd n) = mid (x - L) (rd n) := by
  obtain ⟨c, s, h1, h2, h3, h4, h5⟩ := pw n
  have hsp := two_pow_split h3
  have e : x - (L + k * 18446744073709551616) = (x - L) + (rd n) * (-(2 ^ s * k)) := by
    rw [h5, ← hsp]
    have e3 : k * (2 ^ c * 2 ^ s) = 2 ^ c * (2 ^ s * k) := by rw [Int.mul_comm k, Int.mul_assoc]
    rw [Int.mul_neg]; omega
  unfold mid
  rw [e, Int.add_mul_emod_self_left]
def clampL (a : Int) : Int := max (-4611686018427387904) (min a 4611686018427387904)
theorem unw_mid (a b n : Int) (hb : 0 ≤ b ∧ b < 18446744073709551616) : unw a b n = clampL a + mid (b - clampL a) (rd n) := by
  obtain ⟨-, -, -, hN, hN2, -⟩ := rcut_eq 0 n (by omega)
  unfold unw
  have e0 : imax (-4611686018427387904) (imin a 4611686018427387904) = clampL a := rfl
  rw [e0]
  have hL : -4611686018427387904 ≤ clampL a ∧ clampL a ≤ 4611686018427387904 := by unfold clampL; omega
  generalize clampL a = L at *
  have e1 : icv .u64 L = L % 18446744073709551616 := w_u64 L
  rw [e1, dif_mid b _ n hb (by omega)]
  have e2 : L % 18446744073709551616 = L + (-(L / 18446744073709551616)) * 18446744073709551616 := by omega
  rw [e2, mid_wrap]
  have hm := mid_bd (x := b - L) (N := rd n) (by omega)
  unfold iadd; rw [w_i64_in (by omega)]
theorem runw_mid (a b n : Int) (hb : 0 ≤ b ∧ b < 18446744073709551616) : runw a b n = clampL a + mid (b - clampL a) (rd n) := by
  obtain ⟨eb, b0, b1, hN, hN2, H, hH⟩ := rcut_eq b n hb.1
  have e0 : rl a = clampL a := by unfold rl clampL imin imax; omega
  have hL : -4611686018427387904 ≤ clampL a ∧ clampL a ≤ 4611686018427387904 := by unfold clampL; omega
  have hleft : rleft a n = clampL a % rd n := by
    unfold rleft
    rw [e0]
    generalize clampL a = L at *
    have h0 := Int.emod_nonneg L (show rd n ≠ 0 by omega)
    have h1 := Int.emod_lt_of_pos L (show 0 < rd n by omega)
    unfold irem
    by_cases hp : 0 ≤ L
    · rw [Int.tmod_eq_emod_of_nonneg hp]
      have t : ilt (L % rd n) 0 = false := decide_eq_false (by omega)
      rw [t]; rfl
    · have e1 : L.tmod (rd n) = -((-L) % rd n) := by
        rw [← Int.tmod_eq_emod_of_nonneg (show 0 ≤ -L by omega), Int.neg_tmod, Int.neg_neg]
      have h2 := Int.emod_nonneg (-L) (show rd n ≠ 0 by omega)
      have h3 := Int.emod_lt_of_pos (-L) (show 0 < rd n by omega)
      have e2 : L % rd n = (-((-L) % rd n)) % rd n := by
        have : L = -(-L) := by omega
        rw [this, Int.neg_emod_eq_sub_emod, Int.neg_emod_eq_sub_emod, Int.neg_neg]
        rw [Int.sub_emod (rd n) (-L % rd n), Int.emod_emod, ← Int.sub_emod]
      rw [e1]
      by_cases hz : (-L) % rd n = 0
      · rw [hz] at e2 ⊢
        have t : ilt (-0) 0 = false := rfl
        rw [t, e2]; simp
      · have t : ilt (-(-L % rd n)) 0 = true := decide_eq_true (by omega)
        rw [t, e2, emod_neg (x := -(-L % rd n)) (by omega)]
        simp only [cond_true]
        unfold iadd; rw [w_i64_in (by omega)]
  have hl0 := Int.emod_nonneg (clampL a) (show rd n ≠ 0 by omega)
  have hl1 := Int.emod_lt_of_pos (clampL a) (show 0 < rd n by omega)
  rw [mid_sub (by omega)]
  unfold runw rup rup0
  rw [hleft, eb, e0]
  generalize clampL a % rd n = l at *
  generalize b % rd n = x at *
  generalize clampL a = L at *
  have q1 : isub .i64 (icv .i64 x) l = x - l := by unfold isub icv; rw [w_i64_in (x := x) (by omega), w_i64_in (by omega)]
  rw [q1]
  have q2 : iadd .i64 (x - l) (rd n) = x - l + rd n := by unfold iadd; rw [w_i64_in (by omega)]
  have q3 : cond (ilt (x - l) 0) (iadd .i64 (x - l) (rd n)) (x - l) = if l ≤ x then x - l else x - l + rd n := by
    rw [q2]
    by_cases h : l ≤ x
    · have t : ilt (x - l) 0 = false := decide_eq_false (by omega)
      rw [t, if_pos h]; rfl
    · have t : ilt (x - l) 0 = true := decide_eq_true (by omega)
      rw [t, if_neg h]; rfl
  rw [q3]
  have hu : 0 ≤ (if l ≤ x then x - l else x - l + rd n) ∧ (if l ≤ x then x - l else x - l + rd n) < rd n := by split <;> omega
  generalize (if l ≤ x then x - l else x - l + rd n) = u at *
  have q4 : isub .i64 (rd n) u = rd n - u := by unfold isub; rw [w_i64_in (by omega)]
  rw [q4]
  have q5 : isub .i64 L (rd n - u) = L - (rd n - u) := by unfold isub; rw [w_i64_in (by omega)]
  have q6 : iadd .i64 L u = L + u := by unfold iadd; rw [w_i64_in (by omega)]
  rw [q5, q6]
  by_cases h0 : u = 0
  · have t : ieq u 0 = true := by simp [ieq, h0]
    rw [t, if_pos (by omega)]; simp only [cond_true]; omega
  · have t : ieq u 0 = false := by simp [ieq, h0]
    rw [t]; simp only [cond_false]
    by_cases h1 : rd n - u ≤ u
    · have t : ile (rd n - u) u = true := decide_eq_true h1
      rw [t, if_neg (by omega)]; simp only [cond_true]; omega
    · have t : ile (rd n - u) u = false := decide_eq_false h1
      rw [t, if_pos (by omega)]; simp only [cond_false]
theorem unw_runw (a b n : Int) (hb : 0 ≤ b ∧ b < 18446744073709551616) : unw a b n = runw a b n := by
  rw [unw_mid a b n hb, runw_mid a b n hb]
end Go.Proofs.Ytffoldigaififaa.Ser

set_option maxRecDepth 100000
set_option linter.all false
set_option maxHeartbeats 4000000
/- What Write and Read come to, and that the reference comes to the same. -/
namespace Go.Proofs.Ytffoldigaififaa.Sk
open Go.Abs Go.Proofs.Ytffoldigaififaa.Ser
theorem unwV_eq (a b : Int) : unwV a b = unw a b 32 := by
  have e : isub .u64 64 (wi 32) = 32 := by decide
  unfold unwV f56r0 unw f69r0 dif
  rw [e]
theorem runV_eq (a b : Int) : runV a b = runw a b 32 := by
  have e : rd 32 = 4294967296 := by decide
  have e2 : icv .u64 4294967296 = 4294967296 := by decide
  unfold runV f57r0 runw rup rup0 rleft rcut rl
  rw [e, e2]
  generalize irem (imin (imax a (-4611686018427387904)) 4611686018427387904) 4294967296 = q
  cases ilt q 0 <;> simp only [cond_true, cond_false]
  · cases ilt (isub .i64 (icv .i64 (irem b 4294967296)) q) 0 <;> rfl
  · cases ilt (isub .i64 (icv .i64 (irem b 4294967296)) (iadd .i64 q 4294967296)) 0 <;> rfl
theorem unw_run {a b : Int} (hb : 0 ≤ b ∧ b < 4294967296) : unwV a b = runV a b := by
  rw [unwV_eq, runV_eq, unw_runw a b 32 (by omega)]
theorem putI_eq (acc : List Int) {n : Int} (h : 0 ≤ n) : putI acc n = acc ++ fouV n := by
  have w32 : icv IntKind.u32 n = n % 4294967296 := by unfold icv; rw [w_u32]
  have q : ∀ d : Int, 0 < d → iquo IntKind.u32 (n % 4294967296) d = (n % 4294967296) / d % 4294967296 := fun d hd => by
    unfold iquo; rw [w_u32, Int.tdiv_eq_ediv_of_nonneg (by omega)]
  have r : ∀ x : Int, 0 ≤ x → irem x 256 = x % 256 := fun x hx => by unfold irem; rw [Int.tmod_eq_emod_of_nonneg hx]
  have c : ∀ x : Int, icv IntKind.u8 x = x % 256 := fun x => by unfold icv; rw [w_u8]
  have e0 : icv IntKind.u8 (ishr .i64 n 24) = icv IntKind.u8 (iquo IntKind.u32 (icv IntKind.u32 n) 16777216) := by
    rw [w32, q _ (by decide), c, c]; show n / 16777216 % 256 = _; omega
  have e1 : icv IntKind.u8 (ishr .i64 n 16) = icv IntKind.u8 (irem (iquo IntKind.u32 (icv IntKind.u32 n) 65536) 256) := by
    rw [w32, q _ (by decide), r _ (by omega), c, c]; show n / 65536 % 256 = _; omega
  have e2 : icv IntKind.u8 (ishr .i64 n 8) = icv IntKind.u8 (irem (iquo IntKind.u32 (icv IntKind.u32 n) 256) 256) := by
    rw [w32, q _ (by decide), r _ (by omega), c, c]; show n / 256 % 256 = _; omega
  have e3 : icv IntKind.u8 (ishr .i64 n 0) = icv IntKind.u8 (irem (icv IntKind.u32 n) 256) := by
    rw [w32, r _ (by omega), c, c]; show n / 1 % 256 = _; omega
  unfold putI f53r0 fouV f54r0 appI
  rw [e0, e1, e2, e3]
  simp
theorem fouV_len (n : Int) : (fouV n).length = 4 := rfl
/-- is a range one that is told? -/
def okP (a b : Int) : Bool := decide (0 ≤ a ∧ b ≤ 1099511627776 ∧ a < b)
theorem okP_f {a b : Int} (h : ¬ (0 ≤ a ∧ b ≤ 1099511627776 ∧ a < b)) : okP a b = false := decide_eq_false h
theorem okP_t {a b : Int} (h : 0 ≤ a ∧ b ≤ 1099511627776 ∧ a < b) : okP a b = true := decide_eq_true h
def okE (r : El sR) : Bool := okP r.1 r.2
def wrF : List Int → List (El sR) → Option (List Int)
  | acc, [] => some acc
  | acc, r :: l => bif okE r then wrF (acc ++ fouV r.1 ++ fouV r.2) l else none
theorem l35 (y : Bool) (l : List (El sR)) (hl : l.length ≤ 4) : ∀ (j i : Nat) (acc : List Int), i + j = l.length → acc.length = 8 * i →
    (wrF acc (l.drop i) = none ∧ ∃ o, L35L y l (j + 1) (nlen (lenR sR l)) (i : Int) acc = some (0, o, [])) ∨ (∃ o, wrF acc (l.drop i) = some o ∧ L35L y l (j + 1) (nlen (lenR sR l)) (i : Int) acc = some (1, [], o))
  | 0, i, acc, h, _ => by
    have e0 : ilt (i : Int) (nlen (lenR sR l)) = false := by rw [ilt_d]; exact decide_eq_false (by unfold nlen lenR; omega)
    rw [L35LK]; unfold L35B; rw [e0, List.drop_eq_nil_of_le (by omega)]; exact .inr ⟨acc, rfl, rfl⟩
  | j + 1, i, acc, h, ha => by
    have hi : i < l.length := by omega
    have e0 : ilt (i : Int) (nlen (lenR sR l)) = true := by rw [ilt_d]; exact decide_eq_true (by unfold nlen lenR; omega)
    rw [L35LK]; unfold L35B
    rw [e0, (inR hi).1, (inR hi).2, ad1 (by omega), getR_get hi, List.drop_eq_getElem_cons hi]
    unfold wrF
    cases h1 : ilt (l[i]).1 0 with
    | true => 
      rw [ilt_d, decide_eq_true_eq] at h1
      rw [show okE l[i] = false from okP_f (by omega)]
      exact .inl ⟨rfl, acc, rfl⟩
    | false =>
      rw [ilt_d, decide_eq_false_iff_not] at h1
      cases h2 : ilt 1099511627776 (l[i]).2 with
      | true =>
        rw [ilt_d, decide_eq_true_eq] at h2
        rw [show okE l[i] = false from okP_f (by omega)]
        exact .inl ⟨rfl, acc, rfl⟩
      | false =>
        rw [ilt_d, decide_eq_false_iff_not] at h2
        cases h3 : ile (l[i]).2 (l[i]).1 with
        | true =>
          rw [ile_d, decide_eq_true_eq] at h3
          rw [show okE l[i] = false from okP_f (by omega)]
          exact .inl ⟨rfl, acc, rfl⟩
        | false =>
          rw [ile_d, decide_eq_false_iff_not] at h3
          rw [show okE l[i] = true from okP_t (by omega)]
          rw [putI_eq acc (by omega), putI_eq _ (by omega)]
          rw [decide_eq_true (show okB acc = true from decide_eq_true (show acc.length ≤ 100000 by omega)), decide_eq_true (show okB (acc ++ fouV (l[i]).1) = true from decide_eq_true (by rw [List.length_append, fouV_len]; omega))]
          exact l35 y l hl j (i + 1) _ (by omega) (by rw [List.length_append, List.length_append, fouV_len, fouV_len]; omega)
theorem l36 (y : Bool) (l : List (El sR)) (hl : l.length ≤ 4) : ∀ (j i : Nat) (acc : List Int), i + j = l.length → acc.length = 8 * i →
    (wrF acc (l.drop i) = none ∧ ∃ o, L36L y l (j + 1) (i : Int) acc = some (0, o, [])) ∨ (∃ o, wrF acc (l.drop i) = some o ∧ L36L y l (j + 1) (i : Int) acc = some (1, [], o))
  | 0, i, acc, h, _ => by
    have e0 : ilt (i : Int) (nlen (lenR sR l)) = false := by rw [ilt_d]; exact decide_eq_false (by unfold nlen lenR; omega)
    rw [L36LK]; unfold L36B; rw [e0, List.drop_eq_nil_of_le (by omega)]; exact .inr ⟨acc, rfl, rfl⟩
  | j + 1, i, acc, h, ha => by
    have hi : i < l.length := by omega
    have e0 : ilt (i : Int) (nlen (lenR sR l)) = true := by rw [ilt_d]; exact decide_eq_true (by unfold nlen lenR; omega)
    rw [L36LK]; unfold L36B
    rw [e0, (inR hi).1, (inR hi).2, ad1 (by omega), getR_get hi, List.drop_eq_getElem_cons hi]
    unfold wrF
    cases h1 : ilt (l[i]).1 0 with
    | true => 
      rw [ilt_d, decide_eq_true_eq] at h1
      rw [show okE l[i] = false from okP_f (by omega)]
      exact .inl ⟨rfl, acc, rfl⟩
    | false =>
      rw [ilt_d, decide_eq_false_iff_not] at h1
      cases h2 : ilt 1099511627776 (l[i]).2 with
      | true =>
        rw [ilt_d, decide_eq_true_eq] at h2
        rw [show okE l[i] = false from okP_f (by omega)]
        exact .inl ⟨rfl, acc, rfl⟩
      | false =>
        rw [ilt_d, decide_eq_false_iff_not] at h2
        cases h3 : ile (l[i]).2 (l[i]).1 with
        | true =>
          rw [ile_d, decide_eq_true_eq] at h3
          rw [show okE l[i] = false from okP_f (by omega)]
          exact .inl ⟨rfl, acc, rfl⟩
        | false =>
          rw [ile_d, decide_eq_false_iff_not] at h3
          rw [show okE l[i] = true from okP_t (by omega)]
          have f1 := fouV_len (l[i]).1
          have f2 := fouV_len (l[i]).2
          rw [decide_eq_true (show fitN (addN (lenI acc) (lenI (fouV (l[i]).1))) 1 by unfold fitN addN lenI; omega), decide_eq_true (show fitN (addN (lenI (appI acc (fouV (l[i]).1))) (lenI (fouV (l[i]).2))) 1 by unfold fitN addN lenI appI; rw [List.length_append]; omega)]
          exact l36 y l hl j (i + 1) _ (by omega) (by rw [List.length_append, List.length_append, fouV_len, fouV_len]; omega)
end Go.Proofs.Ytffoldigaififaa.Sk

set_option maxRecDepth 100000
set_option linter.all false
set_option maxHeartbeats 4000000
/- Write's contract. -/
namespace Go.Proofs.Ytffoldigaififaa.Sk
open Go.Abs
theorem ne0 {l : List (El sR)} (h : l.length ≠ 0) : ieq (nlen (lenR sR l)) 0 = false := by
  have : (nlen (lenR sR l) : Int) ≠ 0 := by unfold nlen lenR; omega
  simpa [ieq] using this
def wG (l : List (El sR)) : Bool := decide (1 ≤ l.length ∧ l.length ≤ 4)
def wK (l : List (El sR)) : Int := bif wG l then (match wrF [] l with | some _ => 5 | none => 0) else 0
def wS (l : List (El sR)) : ByteArray := bif wG l then (match wrF [] l with | some a => strI a | none => bs []) else bs []
def wE (l : List (El sR)) : Int := bif wG l then (match wrF [] l with | some _ => 0 | none => 2) else 1
def wRes (l : List (El sR)) : AV := AV.tup [AV.agg [AV.v (.int .i64 (wK l)), AV.v (Value.slice none 0 0), AV.v (Value.string (wS l))], AV.v (.int .i64 (wE l))]
theorem g35 (y : Bool) (l : List (El sR)) : ACalls Try.prog 35 [AV.sw 0 2] [AObj.rows y sR l] (wRes l) [] [] := by
  unfold wRes wK wS wE
  cases hg : wG l with
  | false =>
    have hg' : ¬ (1 ≤ l.length ∧ l.length ≤ 4) := of_decide_eq_false hg
    by_cases h0 : l.length = 0
    · have e : ieq (nlen (lenR sR l)) 0 = true := by unfold ieq nlen lenR; rw [h0]; rfl
      have := f35 y l 0 0 [] 0 [] (fun h => by rw [e] at h; simp at h) (fun h => by rw [e] at h; simp at h)
      unfold f35r0 f35r1 f35r2 at this
      rw [e] at this
      exact this
    · have e : ieq (nlen (lenR sR l)) 0 = false := ne0 (by omega)
      have e1 : ilt 4 (nlen (lenR sR l)) = true := by rw [ilt_d]; exact decide_eq_true (by unfold nlen lenR; omega)
      have := f35 y l 0 0 [] 0 [] (fun _ h => by rw [e1] at h; simp at h) (fun _ h => by rw [e1] at h; simp at h)
      unfold f35r0 f35r1 f35r2 at this
      rw [e, e1] at this
      exact this
  | true =>
    have hg' : 1 ≤ l.length ∧ l.length ≤ 4 := of_decide_eq_true hg
    have e : ieq (nlen (lenR sR l)) 0 = false := ne0 (by omega)
    have e1 : ilt 4 (nlen (lenR sR l)) = false := by rw [ilt_d]; exact decide_eq_false (by unfold nlen lenR; omega)
    have key := l35 y l hg'.2 l.length 0 [] (by omega) rfl
    rw [List.drop_zero] at key
    rcases key with ⟨k1, o, k2⟩ | ⟨o, k1, k2⟩
    · have := f35 y l 0 (l.length + 1) o 0 [] (fun _ _ _ => k2) (fun _ _ h => by simp at h)
      unfold f35r0 f35r1 f35r2 at this
      rw [e, e1] at this
      rw [k1]
      exact this
    · have := f35 y l 1 0 [] (l.length + 1) o (fun _ _ h => by simp at h) (fun _ _ _ => k2)
      unfold f35r0 f35r1 f35r2 at this
      rw [e, e1] at this
      rw [k1]
      exact this
theorem g36 (y : Bool) (l : List (El sR)) : ACalls Try.prog 36 [AV.sw 0 2] [AObj.rows y sR l] (wRes l) [] [] := by
  unfold wRes wK wS wE
  cases hg : wG l with
  | false =>
    have hg' : ¬ (1 ≤ l.length ∧ l.length ≤ 4) := of_decide_eq_false hg
    by_cases h0 : l.length = 0
    · have e : ilt (nlen (lenR sR l)) 1 = true := by rw [ilt_d]; exact decide_eq_true (by unfold nlen lenR; omega)
      have := f36 y l 0 0 [] 0 [] (fun h => by rw [e] at h; simp at h) (fun h => by rw [e] at h; simp at h)
      unfold f36r0 f36r1 f36r2 at this
      rw [e] at this
      exact this
    · have e : ilt (nlen (lenR sR l)) 1 = false := by rw [ilt_d]; exact decide_eq_false (by unfold nlen lenR; omega)
      have e1 : ilt 4 (nlen (lenR sR l)) = true := by rw [ilt_d]; exact decide_eq_true (by unfold nlen lenR; omega)
      have := f36 y l 0 0 [] 0 [] (fun _ h => by rw [e1] at h; simp at h) (fun _ h => by rw [e1] at h; simp at h)
      unfold f36r0 f36r1 f36r2 at this
      rw [e, e1] at this
      exact this
  | true =>
    have hg' : 1 ≤ l.length ∧ l.length ≤ 4 := of_decide_eq_true hg
    have e : ilt (nlen (lenR sR l)) 1 = false := by rw [ilt_d]; exact decide_eq_false (by unfold nlen lenR; omega)
    have e1 : ilt 4 (nlen (lenR sR l)) = false := by rw [ilt_d]; exact decide_eq_false (by unfold nlen lenR; omega)
    have key := l36 y l hg'.2 l.length 0 [] (by omega) rfl
    rw [List.drop_zero] at key
    rcases key with ⟨k1, o, k2⟩ | ⟨o, k1, k2⟩
    · have := f36 y l 0 (l.length + 1) o 0 [] (fun _ _ _ => k2) (fun _ _ h => by simp at h)
      unfold f36r0 f36r1 f36r2 at this
      rw [e, e1] at this
      rw [k1]
      exact this
    · have := f36 y l 1 0 [] (l.length + 1) o (fun _ _ h => by simp at h) (fun _ _ _ => k2)
      unfold f36r0 f36r1 f36r2 at this
      rw [e, e1] at this
      rw [k1]
      exact this
end Go.Proofs.Ytffoldigaififaa.Sk

set_option maxRecDepth 100000
set_option linter.all false
set_option maxHeartbeats 4000000
/- Read's contract. -/
namespace Go.Proofs.Ytffoldigaififaa.Sk
open Go.Abs
def rdA (raw : ByteArray) (a : Int) (i : Nat) : Int := unwV a (numV (ssub raw (i : Int) ((i + 4 : Nat) : Int)))
def rdB (raw : ByteArray) (a : Int) (i : Nat) : Int := unwV (rdA raw a i) (numV (ssub raw ((i + 4 : Nat) : Int) ((i + 8 : Nat) : Int)))
def rdP (a b : Int) : Bool := decide (a < 0 ∨ b ≤ a)
def rdF (raw : ByteArray) (a : Int) : Nat → Nat → List (El sR) → Option (List (El sR))
  | 0, _, acc => some acc
  | j + 1, i, acc => bif rdP (rdA raw a i) (rdB raw a i) then none else rdF raw a j (i + 8) (acc ++ [(rdA raw a i, rdB raw a i)])
theorem adn {i : Nat} (k : Nat) (h : i ≤ 1000) (hk : k ≤ 100) : iadd .i64 (i : Int) (k : Int) = ((i + k : Nat) : Int) := by unfold iadd; rw [w_i64_in (by omega)]; omega
theorem l37 (v : Bool) (k : Int) (u : List Int) (raw : ByteArray) (a : Int) (hr : raw.size ≤ 32) : ∀ (j i : Nat) (acc : List (El sR)), raw.size = i + 8 * j → acc.length ≤ i →
    (rdF raw a j i acc = none ∧ ∃ o, L37L v k u raw a (j + 1) (i : Int) acc = some (0, o, [])) ∨ (∃ o, rdF raw a j i acc = some o ∧ L37L v k u raw a (j + 1) (i : Int) acc = some (1, [], o))
  | 0, i, acc, h, _ => by
    have e0 : ilt (i : Int) (slen raw) = false := by rw [ilt_d]; exact decide_eq_false (by unfold slen; omega)
    rw [L37LK]; unfold L37B; rw [e0]; exact .inr ⟨acc, rfl, rfl⟩
  | j + 1, i, acc, h, ha => by
    have e0 : ilt (i : Int) (slen raw) = true := by rw [ilt_d]; exact decide_eq_true (by unfold slen; omega)
    have a4 := adn (i := i) 4 (by omega) (by omega)
    have a44 := adn (i := i + 4) 4 (by omega) (by omega)
    have a8 := adn (i := i) 8 (by omega) (by omega)
    have i1 : inS raw (i : Int) = true := decide_eq_true ⟨by omega, by omega, by omega⟩
    have i2 : inS raw ((i + 4 : Nat) : Int) = true := decide_eq_true ⟨by omega, by omega, by omega⟩
    rw [L37LK]; unfold L37B
    rw [e0, show iadd .i64 (i : Int) 4 = ((i + 4 : Nat) : Int) from a4, show iadd .i64 ((i + 4 : Nat) : Int) 4 = ((i + 8 : Nat) : Int) from a44, show iadd .i64 (i : Int) 8 = ((i + 8 : Nat) : Int) from a8, decide_eq_true i1, decide_eq_true i2]
    unfold rdF
    rw [show unwV a (numV (ssub raw (i : Int) ((i + 4 : Nat) : Int))) = rdA raw a i from rfl, show unwV (rdA raw a i) (numV (ssub raw ((i + 4 : Nat) : Int) ((i + 8 : Nat) : Int))) = rdB raw a i from rfl]
    cases h1 : ilt (rdA raw a i) 0 with
    | true =>
      rw [ilt_d, decide_eq_true_eq] at h1
      rw [show rdP (rdA raw a i) (rdB raw a i) = true from decide_eq_true (.inl h1)]
      exact .inl ⟨rfl, acc, rfl⟩
    | false =>
      rw [ilt_d, decide_eq_false_iff_not] at h1
      cases h2 : ile (rdB raw a i) (rdA raw a i) with
      | true =>
        rw [ile_d, decide_eq_true_eq] at h2
        rw [show rdP (rdA raw a i) (rdB raw a i) = true from decide_eq_true (.inr h2)]
        exact .inl ⟨rfl, acc, rfl⟩
      | false =>
        rw [ile_d, decide_eq_false_iff_not] at h2
        rw [show rdP (rdA raw a i) (rdB raw a i) = false from decide_eq_false (by omega)]
        rw [decide_eq_true (show fitN (addN (lenR sR acc) (lenR sR [(rdA raw a i, rdB raw a i)])) 16 from by unfold fitN addN lenR; simp only [List.length_cons, List.length_nil]; omega)]
        exact l37 v k u raw a hr j (i + 8) (acc ++ [(rdA raw a i, rdB raw a i)]) (by omega) (by rw [List.length_append]; simp only [List.length_cons, List.length_nil]; omega)
theorem l38 (v : Bool) (k : Int) (u : List Int) (raw : ByteArray) (a : Int) (hr : raw.size ≤ 32) : ∀ (j i : Nat) (acc : List (El sR)), raw.size = i + 8 * j → acc.length ≤ i →
    (rdF raw a j i acc = none ∧ ∃ o, L38L v k u raw a (j + 1) (slen raw) (i : Int) acc = some (0, o, [])) ∨ (∃ o, rdF raw a j i acc = some o ∧ L38L v k u raw a (j + 1) (slen raw) (i : Int) acc = some (1, [], o))
  | 0, i, acc, h, _ => by
    have e0 : ilt (i : Int) (slen raw) = false := by rw [ilt_d]; exact decide_eq_false (by unfold slen; omega)
    rw [L38LK]; unfold L38B; rw [e0]; exact .inr ⟨acc, rfl, rfl⟩
  | j + 1, i, acc, h, ha => by
    have e0 : ilt (i : Int) (slen raw) = true := by rw [ilt_d]; exact decide_eq_true (by unfold slen; omega)
    have a4 := adn (i := i) 4 (by omega) (by omega)
    have a44 := adn (i := i + 4) 4 (by omega) (by omega)
    have a8 := adn (i := i) 8 (by omega) (by omega)
    have i1 : inS raw (i : Int) = true := decide_eq_true ⟨by omega, by omega, by omega⟩
    have i2 : inS raw ((i + 4 : Nat) : Int) = true := decide_eq_true ⟨by omega, by omega, by omega⟩
    have j1 := inS_is4 i1
    have j2 := inS_is4 i2
    rw [show iadd .i64 (i : Int) 4 = ((i + 4 : Nat) : Int) from a4] at j1
    rw [show iadd .i64 ((i + 4 : Nat) : Int) 4 = ((i + 8 : Nat) : Int) from a44] at j2
    have s1 : ssub raw (i : Int) ((i + 4 : Nat) : Int) = ssub raw (i : Int) ((i + 4 : Nat) : Int) := rfl
    rw [L38LK]; unfold L38B
    rw [e0, show iadd .i64 (i : Int) 4 = ((i + 4 : Nat) : Int) from a4, show iadd .i64 (i : Int) 8 = ((i + 8 : Nat) : Int) from a8]
    rw [decide_eq_true j1.1, decide_eq_true j1.2, decide_eq_true j2.1, decide_eq_true j2.2]
    unfold rdF
    rw [← unw_run (a := a) (numV_bd (ssub raw (i : Int) ((i + 4 : Nat) : Int))), show unwV a (numV (ssub raw (i : Int) ((i + 4 : Nat) : Int))) = rdA raw a i from rfl, ← unw_run (a := rdA raw a i) (numV_bd (ssub raw ((i + 4 : Nat) : Int) ((i + 8 : Nat) : Int))), show unwV (rdA raw a i) (numV (ssub raw ((i + 4 : Nat) : Int) ((i + 8 : Nat) : Int))) = rdB raw a i from rfl]
    cases h2 : ile (rdB raw a i) (rdA raw a i) with
    | true =>
      rw [ile_d, decide_eq_true_eq] at h2
      rw [show rdP (rdA raw a i) (rdB raw a i) = true from decide_eq_true (.inr h2)]
      exact .inl ⟨rfl, acc, rfl⟩
    | false =>
      rw [ile_d, decide_eq_false_iff_not] at h2
      cases h1 : ilt (rdA raw a i) 0 with
      | true =>
        rw [ilt_d, decide_eq_true_eq] at h1
        rw [show rdP (rdA raw a i) (rdB raw a i) = true from decide_eq_true (.inl h1)]
        exact .inl ⟨rfl, acc, rfl⟩
      | false =>
        rw [ilt_d, decide_eq_false_iff_not] at h1
        rw [show rdP (rdA raw a i) (rdB raw a i) = false from decide_eq_false (by omega)]
        rw [decide_eq_true (show fitN (addN (lenR sR acc) (lenR sR [(rdA raw a i, rdB raw a i)])) 16 from by unfold fitN addN lenR; simp only [List.length_cons, List.length_nil]; omega)]
        exact l38 v k u raw a hr j (i + 8) (acc ++ [(rdA raw a i, rdB raw a i)]) (by omega) (by rw [List.length_append]; simp only [List.length_cons, List.length_nil]; omega)
end Go.Proofs.Ytffoldigaififaa.Sk

set_option maxRecDepth 100000
set_option linter.all false
set_option maxHeartbeats 4000000
namespace Go.Proofs.Ytffoldigaififaa.Sk
open Go.Abs
def rN (raw : ByteArray) : Bool := decide (raw.size % 8 = 0 ∧ 0 < raw.size ∧ raw.size ≤ 32)
def rdE (k : Int) (raw : ByteArray) (a : Int) : Int := bif ine k 5 then 7 else bif rN raw then (match rdF raw a (raw.size / 8) 0 [] with | some _ => 0 | none => 2) else 5
def rdL (k : Int) (raw : ByteArray) (a : Int) : List (El sR) := bif ine k 5 then [] else bif rN raw then (match rdF raw a (raw.size / 8) 0 [] with | some l => l | none => []) else []
theorem ine_f {a b : Int} (h : a = b) : ine a b = false := by simp [ine, h]
theorem ine_t {a b : Int} (h : a ≠ b) : ine a b = true := by simp [ine, h]
theorem ieq_f {a b : Int} (h : a ≠ b) : ieq a b = false := by simp [ieq, h]
theorem ieq_t {a b : Int} (h : a = b) : ieq a b = true := by simp [ieq, h]
theorem g37 (v : Bool) (k : Int) (u : List Int) (raw : ByteArray) (a : Int) : ACalls Try.prog 37 [AV.agg [AV.v (.int .i64 k), AV.sw 0 1, AV.v (Value.string raw)], AV.v (.int .i64 a)] [AObj.ints 0 v IntKind.u32 u] (AV.tup [AV.sw 1 2, AV.v (.int .i64 (rdE k raw a))]) [] [AObj.rows true sR (rdL k raw a)] := by
  unfold rdE rdL
  cases hk : ine k 5 with
  | true =>
    have := f37 v k u raw a 0 0 [] 0 [] (fun h => by rw [hk] at h; simp at h) (fun h => by rw [hk] at h; simp at h)
    unfold f37r0 f37r1 at this
    rw [hk] at this
    exact this
  | false =>
    have hm : irem (slen raw) 8 = ((raw.size % 8 : Nat) : Int) := by unfold irem slen; rw [Int.tmod_eq_emod_of_nonneg (by omega)]; omega
    cases hn : rN raw with
    | false =>
      have hn' : ¬ (raw.size % 8 = 0 ∧ 0 < raw.size ∧ raw.size ≤ 32) := of_decide_eq_false hn
      by_cases h0 : raw.size = 0
      · have e0 : ieq (slen raw) 0 = true := ieq_t (by unfold slen; omega)
        have := f37 v k u raw a 0 0 [] 0 [] (fun _ h => by rw [e0] at h; simp at h) (fun _ h => by rw [e0] at h; simp at h)
        unfold f37r0 f37r1 at this
        rw [hk, e0] at this
        exact this
      · have e0 : ieq (slen raw) 0 = false := ieq_f (by unfold slen; omega)
        by_cases h1 : 32 < raw.size
        · have e1 : ilt 32 (slen raw) = true := by rw [ilt_d]; exact decide_eq_true (by unfold slen; omega)
          have := f37 v k u raw a 0 0 [] 0 [] (fun _ _ h => by rw [e1] at h; simp at h) (fun _ _ h => by rw [e1] at h; simp at h)
          unfold f37r0 f37r1 at this
          rw [hk, e0, e1] at this
          exact this
        · have e1 : ilt 32 (slen raw) = false := by rw [ilt_d]; exact decide_eq_false (by unfold slen; omega)
          have e2 : ine (irem (slen raw) 8) 0 = true := ine_t (by rw [hm]; omega)
          have := f37 v k u raw a 0 0 [] 0 [] (fun _ _ _ h => by rw [e2] at h; simp at h) (fun _ _ _ h => by rw [e2] at h; simp at h)
          unfold f37r0 f37r1 at this
          rw [hk, e0, e1, e2] at this
          exact this
    | true =>
      have hn' : raw.size % 8 = 0 ∧ 0 < raw.size ∧ raw.size ≤ 32 := of_decide_eq_true hn
      have e0 : ieq (slen raw) 0 = false := ieq_f (by unfold slen; omega)
      have e1 : ilt 32 (slen raw) = false := by rw [ilt_d]; exact decide_eq_false (by unfold slen; omega)
      have e2 : ine (irem (slen raw) 8) 0 = false := ine_f (by rw [hm]; omega)
      rcases l37 v k u raw a hn'.2.2 (raw.size / 8) 0 [] (by omega) (by simp) with ⟨k1, o, k2⟩ | ⟨o, k1, k2⟩
      · have := f37 v k u raw a 0 (raw.size / 8 + 1) o 0 [] (fun _ _ _ _ _ => k2) (fun _ _ _ _ h => by simp at h)
        unfold f37r0 f37r1 at this
        rw [hk, e0, e1, e2] at this
        rw [k1]
        exact this
      · have := f37 v k u raw a 1 0 [] (raw.size / 8 + 1) o (fun _ _ _ _ h => by simp at h) (fun _ _ _ _ _ => k2)
        unfold f37r0 f37r1 at this
        rw [hk, e0, e1, e2] at this
        rw [k1]
        exact this
theorem g38 (v : Bool) (k : Int) (u : List Int) (raw : ByteArray) (a : Int) : ACalls Try.prog 38 [AV.agg [AV.v (.int .i64 k), AV.sw 0 1, AV.v (Value.string raw)], AV.v (.int .i64 a)] [AObj.ints 0 v IntKind.u32 u] (AV.tup [AV.sw 1 2, AV.v (.int .i64 (rdE k raw a))]) [] [AObj.rows true sR (rdL k raw a)] := by
  unfold rdE rdL
  cases hk : ine k 5 with
  | true =>
    have := f38 v k u raw a 0 0 [] 0 [] 0 0 [] 0 [] 0 0 [] 0 [] 0 0 [] 0 [] (by intros; simp_all) (by intros; simp_all) (by intros; simp_all) (by intros; simp_all) (by intros; simp_all) (by intros; simp_all) (by intros; simp_all) (by intros; simp_all)
    unfold f38r0 f38r1 at this
    rw [hk] at this
    exact this
  | false =>
    cases hn : rN raw with
    | false =>
      have hn' : ¬ (raw.size % 8 = 0 ∧ 0 < raw.size ∧ raw.size ≤ 32) := of_decide_eq_false hn
      have e1 : ine (slen raw) 8 = true := ine_t (by unfold slen; omega)
      have e2 : ine (slen raw) 16 = true := ine_t (by unfold slen; omega)
      have e3 : ine (slen raw) 24 = true := ine_t (by unfold slen; omega)
      have e4 : ine (slen raw) 32 = true := ine_t (by unfold slen; omega)
      have := f38 v k u raw a 0 0 [] 0 [] 0 0 [] 0 [] 0 0 [] 0 [] 0 0 [] 0 [] (by intros; simp_all) (by intros; simp_all) (by intros; simp_all) (by intros; simp_all) (by intros; simp_all) (by intros; simp_all) (by intros; simp_all) (by intros; simp_all)
      unfold f38r0 f38r1 at this
      rw [hk, e1, e2, e3, e4] at this
      exact this
    | true =>
      have hn' : raw.size % 8 = 0 ∧ 0 < raw.size ∧ raw.size ≤ 32 := of_decide_eq_true hn
      rcases l38 v k u raw a hn'.2.2 (raw.size / 8) 0 [] (by omega) (by simp) with ⟨k1, o, k2⟩ | ⟨o, k1, k2⟩
      · have := f38 v k u raw a 0 (raw.size / 8 + 1) o 0 [] 0 (raw.size / 8 + 1) o 0 [] 0 (raw.size / 8 + 1) o 0 [] 0 (raw.size / 8 + 1) o 0 [] (by intros; exact k2) (by intros; simp_all) (by intros; exact k2) (by intros; simp_all) (by intros; exact k2) (by intros; simp_all) (by intros; exact k2) (by intros; simp_all)
        unfold f38r0 f38r1 at this
        rw [hk] at this
        rw [k1]
        have e4 : ine (slen raw) 8 = true → ine (slen raw) 16 = true → ine (slen raw) 24 = true → ine (slen raw) 32 = false := fun h1 h2 h3 => by
          simp only [ine, bne_iff_ne, ne_eq] at h1 h2 h3
          exact ine_f (by unfold slen at *; omega)
        cases h1 : ine (slen raw) 8 <;> cases h2 : ine (slen raw) 16 <;> cases h3 : ine (slen raw) 24 <;> rw [h1, h2, h3] at this <;> first | exact this | (rw [e4 h1 h2 h3] at this; exact this)
      · have := f38 v k u raw a 1 0 [] (raw.size / 8 + 1) o 1 0 [] (raw.size / 8 + 1) o 1 0 [] (raw.size / 8 + 1) o 1 0 [] (raw.size / 8 + 1) o (by intros; simp_all) (by intros; exact k2) (by intros; simp_all) (by intros; exact k2) (by intros; simp_all) (by intros; exact k2) (by intros; simp_all) (by intros; exact k2)
        unfold f38r0 f38r1 at this
        rw [hk] at this
        rw [k1]
        have e4 : ine (slen raw) 8 = true → ine (slen raw) 16 = true → ine (slen raw) 24 = true → ine (slen raw) 32 = false := fun h1 h2 h3 => by
          simp only [ine, bne_iff_ne, ne_eq] at h1 h2 h3
          exact ine_f (by unfold slen at *; omega)
        cases h1 : ine (slen raw) 8 <;> cases h2 : ine (slen raw) 16 <;> cases h3 : ine (slen raw) 24 <;> rw [h1, h2, h3] at this <;> first | exact this | (rw [e4 h1 h2 h3] at this; exact this)
end Go.Proofs.Ytffoldigaififaa.Sk

set_option maxRecDepth 100000
set_option linter.all false
set_option maxHeartbeats 4000000
set_option linter.unusedSimpArgs false
set_option linter.unusedVariables false
namespace Go.Proofs.Ytffoldigaififaa.Sk
open Go.Abs
theorem l26 (x y : Bool) (l : List (El sR)) (hl : l.length ≤ 100000) : ∀ (j i : Nat), i + j = l.length → L26L x y l l (j + 1) (i : Int) = some 1
  | 0, i, h => by
    have e0 : ilt (i : Int) (nlen (lenR sR l)) = false := by rw [ilt_d]; exact decide_eq_false (by unfold nlen lenR; omega)
    rw [L26LK]; unfold L26B; rw [e0]; rfl
  | j + 1, i, h => by
    have hi : i < l.length := by omega
    have e0 : ilt (i : Int) (nlen (lenR sR l)) = true := by rw [ilt_d]; exact decide_eq_true (by unfold nlen lenR; omega)
    rw [L26LK]; unfold L26B
    rw [e0, (inR hi).1, (inR hi).2, ad1 (by omega), ieq_t rfl, ieq_t rfl]
    exact l26 x y l hl j (i + 1) (by omega)
theorem g26 (x y : Bool) (l : List (El sR)) (h : smR l = true) : ACalls Try.prog 26 [AV.sw 0 2, AV.sw 1 2] [AObj.rows x sR l, AObj.rows y sR l] (AV.v (.bool true)) [] [] := by
  have hl : l.length ≤ 100000 := of_decide_eq_true h
  have k := l26 x y l hl l.length 0 (by omega)
  have e : ine (nlen (lenR sR l)) (nlen (lenR sR l)) = false := ine_f rfl
  have := f26 x y l l 1 0 (l.length + 1) (fun _ h => by simp at h) (fun _ _ => k)
  unfold f26r0 at this
  rw [e] at this
  exact this
theorem k35 (y : Bool) (l : List (El sR)) : ACalls Try.prog 35 [AV.sw 0 2] [AObj.rows y sR l] (AV.tup [AV.agg [AV.v (.int .i64 (wK l)), AV.v (Value.slice none 0 0), AV.v (Value.string (wS l))], AV.v (.int .i64 (wE l))]) [] [] := g35 y l
theorem k36 (y : Bool) (l : List (El sR)) : ACalls Try.prog 36 [AV.sw 0 2] [AObj.rows y sR l] (AV.tup [AV.agg [AV.v (.int .i64 (wK l)), AV.v (Value.slice none 0 0), AV.v (Value.string (wS l))], AV.v (.int .i64 (wE l))]) [] [] := g36 y l
theorem f6_1 (k : Int) (raw : ByteArray) (a : Int) (l : List (El sR)) (u : List Int)  (s0 : inC 0 (imin (nlen (lenR sR l)) 8) (nlen (lenR sR l))) (s1 : leN (0 + (subN (imin (nlen (lenR sR l)) 8) 0)) (lenR sR l)) (s2 : inC 0 (imin (slen raw) 60) (slen raw)) (s3 : (smR (rdL k (ssub raw 0 (imin (slen raw) 60)) a)) = true) : ACalls Try.prog 6 [AV.sw 0 2, AV.agg [AV.v (.int .i64 k), AV.sw 1 1, AV.v (Value.string raw)], AV.v (.int .i64 a)] [AObj.rows false sR l, AObj.ints 0 false IntKind.u32 u] (AV.v (Value.bool true)) [] [] :=
  ACalls.nb (res := AV.v (Value.bool true)) (.of_out [Orc.call [3] (AV.tup [AV.agg [AV.v (.int .i64 (wK (subR sR l 0 (subN (imin (nlen (lenR sR l)) 8) 0)))), AV.v (Value.slice none 0 0), AV.v (Value.string (wS (subR sR l 0 (subN (imin (nlen (lenR sR l)) 8) 0))))], AV.v (.int .i64 (wE (subR sR l 0 (subN (imin (nlen (lenR sR l)) 8) 0))))]) [] [], Orc.call [3] (AV.tup [AV.agg [AV.v (.int .i64 (wK (subR sR l 0 (subN (imin (nlen (lenR sR l)) 8) 0)))), AV.v (Value.slice none 0 0), AV.v (Value.string (wS (subR sR l 0 (subN (imin (nlen (lenR sR l)) 8) 0))))], AV.v (.int .i64 (wE (subR sR l 0 (subN (imin (nlen (lenR sR l)) 8) 0))))]) [] [], Orc.call [1] (AV.tup [AV.sw 1 2, AV.v (.int .i64 (rdE k (ssub raw 0 (imin (slen raw) 60)) a))]) [] [AObj.rows true sR (rdL k (ssub raw 0 (imin (slen raw) 60)) a)], Orc.call [1] (AV.tup [AV.sw 1 2, AV.v (.int .i64 (rdE k (ssub raw 0 (imin (slen raw) 60)) a))]) [] [AObj.rows true sR (rdL k (ssub raw 0 (imin (slen raw) 60)) a)], Orc.br true, Orc.br true, Orc.br true, Orc.br true, Orc.call [6, 7] (AV.v (Value.bool true)) [] [], Orc.br true, Orc.br true, Orc.call [] (AV.v (Value.bool true)) [] []] [0, 1] [Mixed Try.prog, inC 0 (imin (nlen (lenR sR l)) 8) (nlen (lenR sR l)), leN (0 + (subN (imin (nlen (lenR sR l)) 8) 0)) (lenR sR l), inC 0 (imin (slen raw) 60) (slen raw), ACalls Try.prog 35 [AV.sw 0 2] [AObj.rows false sR (subR sR l 0 (subN (imin (nlen (lenR sR l)) 8) 0))] (AV.tup [AV.agg [AV.v (.int .i64 (wK (subR sR l 0 (subN (imin (nlen (lenR sR l)) 8) 0)))), AV.v (Value.slice none 0 0), AV.v (Value.string (wS (subR sR l 0 (subN (imin (nlen (lenR sR l)) 8) 0))))], AV.v (.int .i64 (wE (subR sR l 0 (subN (imin (nlen (lenR sR l)) 8) 0))))]) [] [], ACalls Try.prog 36 [AV.sw 0 2] [AObj.rows false sR (subR sR l 0 (subN (imin (nlen (lenR sR l)) 8) 0))] (AV.tup [AV.agg [AV.v (.int .i64 (wK (subR sR l 0 (subN (imin (nlen (lenR sR l)) 8) 0)))), AV.v (Value.slice none 0 0), AV.v (Value.string (wS (subR sR l 0 (subN (imin (nlen (lenR sR l)) 8) 0))))], AV.v (.int .i64 (wE (subR sR l 0 (subN (imin (nlen (lenR sR l)) 8) 0))))]) [] [], ACalls Try.prog 37 [AV.agg [AV.v (.int .i64 k), AV.sw 0 1, AV.v (Value.string (ssub raw 0 (imin (slen raw) 60)))], AV.v (.int .i64 a)] [AObj.ints 0 false IntKind.u32 u] (AV.tup [AV.sw 1 2, AV.v (.int .i64 (rdE k (ssub raw 0 (imin (slen raw) 60)) a))]) [] [AObj.rows true sR (rdL k (ssub raw 0 (imin (slen raw) 60)) a)], ACalls Try.prog 38 [AV.agg [AV.v (.int .i64 k), AV.sw 0 1, AV.v (Value.string (ssub raw 0 (imin (slen raw) 60)))], AV.v (.int .i64 a)] [AObj.ints 0 false IntKind.u32 u] (AV.tup [AV.sw 1 2, AV.v (.int .i64 (rdE k (ssub raw 0 (imin (slen raw) 60)) a))]) [] [AObj.rows true sR (rdL k (ssub raw 0 (imin (slen raw) 60)) a)], isB (ieq (wK (subR sR l 0 (subN (imin (nlen (lenR sR l)) 8) 0))) (wK (subR sR l 0 (subN (imin (nlen (lenR sR l)) 8) 0)))) true, isB (seqS (wS (subR sR l 0 (subN (imin (nlen (lenR sR l)) 8) 0))) (wS (subR sR l 0 (subN (imin (nlen (lenR sR l)) 8) 0)))) true, isB true true, isB (ieq (wE (subR sR l 0 (subN (imin (nlen (lenR sR l)) 8) 0))) (wE (subR sR l 0 (subN (imin (nlen (lenR sR l)) 8) 0)))) true, ACalls Try.prog 26 [AV.sw 0 2, AV.sw 1 2] [AObj.rows true sR (rdL k (ssub raw 0 (imin (slen raw) 60)) a), AObj.rows true sR (rdL k (ssub raw 0 (imin (slen raw) 60)) a)] (AV.v (Value.bool true)) [] [], isB true true, isB (ieq (rdE k (ssub raw 0 (imin (slen raw) 60)) a) (rdE k (ssub raw 0 (imin (slen raw) 60)) a)) true, ACalls Try.prog 20 [] [] (AV.v (Value.bool true)) [] []] Try.func6 (by kernel_rfl) (by kernel_rfl) (.cons (by show _ = _; kernel_rfl) (.cons (s0) (.cons (s1) (.cons (s2) (.cons (by apply k35) (.cons (by apply k36) (.cons (by apply g37) (.cons (by apply g38) (.cons (rf_ieq _) (.cons (rf_seqS _) (.cons (by show _ = _; kernel_rfl) (.cons (rf_ieq _) (.cons (by apply g26 <;> (first | exact (s3))) (.cons (by show _ = _; kernel_rfl) (.cons (rf_ieq _) (.cons (by apply f20) .nil)))))))))))))))))
theorem f6 (k : Int) (raw : ByteArray) (a : Int) (l : List (El sR)) (u : List Int) (s0 : inC 0 (imin (nlen (lenR sR l)) 8) (nlen (lenR sR l))) (s1 : leN (0 + (subN (imin (nlen (lenR sR l)) 8) 0)) (lenR sR l)) (s2 : inC 0 (imin (slen raw) 60) (slen raw)) (s3 : (smR (rdL k (ssub raw 0 (imin (slen raw) 60)) a)) = true) : ACalls Try.prog 6 [AV.sw 0 2, AV.agg [AV.v (.int .i64 k), AV.sw 1 1, AV.v (Value.string raw)], AV.v (.int .i64 a)] [AObj.rows false sR l, AObj.ints 0 false IntKind.u32 u] (AV.v (Value.bool true)) [] [] := (f6_1 k raw a l u s0 s1 s2 s3)
end Go.Proofs.Ytffoldigaififaa.Sk

set_option linter.all false
namespace Go.Proofs.Ytffoldigaififaa.Sk
open Go.Abs
theorem rdF_len {raw : ByteArray} {a : Int} : ∀ {j i : Nat} {acc o : List (El sR)}, rdF raw a j i acc = some o → o.length ≤ acc.length + j
  | 0, i, acc, o, h => by simp [rdF] at h; subst h; omega
  | j + 1, i, acc, o, h => by
    rw [rdF] at h
    cases hp : rdP (rdA raw a i) (rdB raw a i) with
    | true => rw [hp] at h; simp at h
    | false =>
      rw [hp] at h
      have := rdF_len h
      rw [List.length_append] at this
      simp only [List.length_cons, List.length_nil] at this
      omega
theorem rdL_sm (k : Int) (raw : ByteArray) (a : Int) : smR (rdL k raw a) = true := by
  refine decide_eq_true ?_
  unfold rdL
  cases ine k 5 with
  | true => simp
  | false =>
    cases hn : rN raw with
    | false => simp
    | true =>
      have hn' : raw.size % 8 = 0 ∧ 0 < raw.size ∧ raw.size ≤ 32 := of_decide_eq_true hn
      simp only [cond_false, cond_true]
      cases h : rdF raw a (raw.size / 8) 0 [] with
      | none => simp
      | some o => have := rdF_len h; simp only [List.length_nil] at this; simp only; omega
theorem law6 (l : List (El sR)) (k : Int) (u : List Int) (raw : ByteArray) (a : Int) : ACalls Try.prog 6 [AV.sw 0 2, AV.agg [AV.v (.int .i64 k), AV.sw 1 1, AV.v (Value.string raw)], AV.v (.int .i64 a)] [AObj.rows false sR l, AObj.ints 0 false IntKind.u32 u] (AV.v (Value.bool true)) [] [] :=
  f6 k raw a l u (by unfold inC imin nlen; omega) (by unfold leN subN imin nlen; omega) (by unfold inC imin slen; omega) (rdL_sm _ _ _)
theorem law_codes (l0 : List (El sR)) (a1 : Int) (l2 : List Int) (a3 : ByteArray) (a4 : Int) {p0 p1 p2 p3 p4 : Prop} (w0 : p0) (w1 : p1) (w2 : p2) (w3 : p3) (w4 : p4) : ACalls Try.prog 6 [AV.sw 0 2, AV.agg [AV.v (.int .i64 a1), AV.sw 1 1, AV.v (Value.string a3)], AV.v (.int .i64 a4)] [AObj.rows false sR l0, AObj.ints 0 false IntKind.u32 l2] (AV.v (Value.bool true)) [] [] := law6 l0 a1 l2 a3 a4
end Go.Proofs.Ytffoldigaififaa.Sk
