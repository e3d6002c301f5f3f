import Derived.Test.YtnejcdinieaemaaDoorAbsO
import Derived.Laws.BitsLemmas
import Derived.Shelf.Strings.Builder1
import Derived.Test.YtnejcdinieaemaaDoorProg
import Derived.Shelf.Small.Strs
import Derived.Shelf.Strconv.Itoa0
import Derived.Shelf.Strconv.Itoa1
import Derived.Shelf.LaysM
import Derived.Shelf.Strconv.Itoa2
import Derived.Shelf.Strconv.Itoa3
import Derived.Shelf.Strconv.Itoa4
import Derived.Shelf.Strings.Search1
import Derived.Shelf.Strings.Prefix
import Derived.Shelf.Strings.OnBuilder
import Derived.WalkKit
import Derived.Test.YtnejcdinieaemaaDoorAbsWf
/- Numbers in groups of seven bits, in plain lists. -/
set_option linter.unusedVariables false
set_option linter.unusedSimpArgs false
namespace Go.Proofs.YtnejcdinieaemaaDoor.Code
open Go.Abs
/-- all groups but the last one; the last one -/
def hiN (x : Nat) : List Int := if x < 128 then [] else ((x % 128 + 128 : Nat) : Int) :: hiN (x / 128)
termination_by x
decreasing_by omega
def laN (x : Nat) : Nat := if x < 128 then x else laN (x / 128)
termination_by x
decreasing_by omega
theorem hiN_lt {x : Nat} (h : x < 128) : hiN x = [] := by rw [hiN, if_pos h]
theorem hiN_ge {x : Nat} (h : 128 ≤ x) : hiN x = ((x % 128 + 128 : Nat) : Int) :: hiN (x / 128) := by rw [hiN, if_neg (by omega)]
theorem laN_lt {x : Nat} (h : x < 128) : laN x = x := by rw [laN, if_pos h]
theorem laN_ge {x : Nat} (h : 128 ≤ x) : laN x = laN (x / 128) := by rw [laN, if_neg (by omega)]
theorem laN_128 : ∀ (n x : Nat), x ≤ n → laN x < 128
  | n, x, h => by
    by_cases hx : x < 128
    · rw [laN_lt hx]; exact hx
    · rw [laN_ge (by omega)]
      exact match n, h with
        | 0, h => by omega
        | n + 1, h => laN_128 n (x / 128) (by omega)
theorem hiN_len : ∀ (k x : Nat), x < 128 ^ (k + 1) → (hiN x).length ≤ k
  | k, x, h => by
    by_cases hx : x < 128
    · rw [hiN_lt hx]; simp
    · rw [hiN_ge (by omega)]
      exact match k, h with
        | 0, h => by simp at h; omega
        | k + 1, h => by
          have := hiN_len k (x / 128) (by rw [Nat.pow_succ] at h; omega)
          simp; omega
/-- a number's bytes -/
def vb (x : Int) : List Int := hiN x.toNat ++ [(laN x.toNat : Int)]
def hiX (x : Int) : List Int := hiN x.toNat
def laX (x : Int) : Int := laN x.toNat
def u64B (x : Int) : Bool := decide (0 ≤ x ∧ x < 18446744073709551616)
theorem u64B_iff {x : Int} : u64B x = true ↔ 0 ≤ x ∧ x < 18446744073709551616 := by simp [u64B]
theorem hiX_len {x : Int} (h : u64B x = true) : (hiX x).length ≤ 9 := by
  rw [u64B_iff] at h
  exact hiN_len 9 _ (by omega)
theorem vb_len {x : Int} (h : u64B x = true) : (vb x).length ≤ 10 := by
  have := hiX_len h
  unfold hiX at this; unfold vb; simp; omega
theorem vb_eq (x : Int) : vb x = hiX x ++ [laX x] := rfl
theorem hiX_lt {x : Int} (h : 0 ≤ x ∧ x < 128) : hiX x = [] ∧ laX x = x := by
  unfold hiX laX; rw [hiN_lt (by omega), laN_lt (by omega)]; exact ⟨rfl, by omega⟩
theorem hiX_ge {x : Int} (h : 128 ≤ x) : hiX x = (x % 128 + 128) :: hiX (x / 128) ∧ laX x = laX (x / 128) := by
  unfold hiX laX; rw [hiN_ge (by omega), laN_ge (by omega)]
  obtain ⟨n, rfl⟩ := Int.eq_ofNat_of_zero_le (show 0 ≤ x by omega)
  refine ⟨?_, by congr 2⟩
  congr 1
theorem vb_lt {x : Int} (h : 0 ≤ x ∧ x < 128) : vb x = [x] := by rw [vb_eq, (hiX_lt h).1, (hiX_lt h).2]; rfl
theorem vb_ge {x : Int} (h : 128 ≤ x) : vb x = (x % 128 + 128) :: vb (x / 128) := by rw [vb_eq, vb_eq, (hiX_ge h).1, (hiX_ge h).2]; rfl
theorem laX_in (x : Int) : 0 ≤ laX x ∧ laX x < 128 := by
  have := laN_128 x.toNat x.toNat (Nat.le_refl _)
  unfold laX; omega
-- the words
theorem ishr7 {x : Int} : ishr .u64 x 7 = x / 128 := by
  unfold ishr; simp [IntKind.bits]
theorem or128 : ∀ v : Nat, v < 128 → ior .u8 (v : Int) 128 = ((v + 128 : Nat) : Int) := by decide +kernel
theorem or128' : ∀ v : Nat, v < 256 → 128 ≤ v → ior .u8 (v : Int) 128 = (v : Int) := by decide +kernel
theorem orb {x : Int} (h : 0 ≤ x) : ior .u8 (icv .u8 x) 128 = x % 128 + 128 := by
  unfold icv; rw [w_u8]
  have h1 := Int.emod_nonneg x (b := 256) (by omega)
  have h2 := Int.emod_lt_of_pos x (b := 256) (by omega)
  obtain ⟨v, hv⟩ := Int.eq_ofNat_of_zero_le h1
  rw [hv]
  by_cases h3 : v < 128
  · rw [or128 v h3]; omega
  · rw [or128' v (by omega) (by omega)]; omega
theorem icvl {x : Int} (h : 0 ≤ x ∧ x < 128) : icv .u8 x = x := by unfold icv; rw [w_u8]; omega
end Go.Proofs.YtnejcdinieaemaaDoor.Code

/- The words of signed numbers and of groups. -/
namespace Go.Proofs.YtnejcdinieaemaaDoor.Code
open Go.Abs
theorem xor0 {a : Int} (h : u64B a = true) : ixor .u64 a 0 = a := by
  rw [u64B_iff] at h
  unfold ixor bits
  have e : (BitVec.ofInt IntKind.u64.bits a).toNat = a.toNat := by
    rw [BitVec.toNat_ofInt]; simp only [IntKind.bits]; omega
  simp only [BitVec.toNat_xor, e]
  rw [show (BitVec.ofInt IntKind.u64.bits 0).toNat = 0 from rfl, Nat.xor_zero]
  rw [w_u64_in (by omega)]; omega
theorem xor1 {a : Int} (h : u64B a = true) : ixor .u64 a 18446744073709551615 = 18446744073709551615 - a := by
  rw [u64B_iff] at h
  unfold ixor bits
  have e : (BitVec.ofInt IntKind.u64.bits a).toNat = a.toNat := by
    rw [BitVec.toNat_ofInt]; simp only [IntKind.bits]; omega
  have e2 : (BitVec.ofInt IntKind.u64.bits a ^^^ BitVec.ofInt IntKind.u64.bits 18446744073709551615) = ~~~ (BitVec.ofInt IntKind.u64.bits a) := by
    rw [show (BitVec.ofInt IntKind.u64.bits 18446744073709551615 : BitVec IntKind.u64.bits) = BitVec.allOnes IntKind.u64.bits from rfl]
    exact BitVec.xor_allOnes
  have e3 : (~~~ (BitVec.ofInt IntKind.u64.bits a)).toNat = 18446744073709551615 - a.toNat := by
    rw [BitVec.toNat_not, e]; rfl
  show IntKind.u64.wrap ((BitVec.ofInt IntKind.u64.bits a ^^^ BitVec.ofInt IntKind.u64.bits 18446744073709551615).toNat : Int) = _
  rw [e2, e3, w_u64_in (by omega)]; omega
theorem xor0i {a : Int} (h : 0 ≤ a ∧ a < 9223372036854775808) : ixor .i64 a 0 = a := by
  unfold ixor bits
  have e : (BitVec.ofInt IntKind.i64.bits a).toNat = a.toNat := by
    rw [BitVec.toNat_ofInt]; simp only [IntKind.bits]; omega
  show IntKind.i64.wrap ((BitVec.ofInt IntKind.i64.bits a ^^^ BitVec.ofInt IntKind.i64.bits 0).toNat : Int) = _
  rw [BitVec.toNat_xor, e, show (BitVec.ofInt IntKind.i64.bits 0).toNat = 0 from rfl, Nat.xor_zero]
  rw [w_i64_in (by omega)]; omega
theorem xor1i {a : Int} (h : 0 ≤ a ∧ a < 9223372036854775808) : ixor .i64 a (-1) = -1 - a := by
  unfold ixor bits
  have e : (BitVec.ofInt IntKind.i64.bits a).toNat = a.toNat := by
    rw [BitVec.toNat_ofInt]; simp only [IntKind.bits]; omega
  have e2 : (BitVec.ofInt IntKind.i64.bits a ^^^ BitVec.ofInt IntKind.i64.bits (-1)) = ~~~ (BitVec.ofInt IntKind.i64.bits a) := by
    rw [show (BitVec.ofInt IntKind.i64.bits (-1) : BitVec IntKind.i64.bits) = BitVec.allOnes IntKind.i64.bits from rfl]
    exact BitVec.xor_allOnes
  have e3 : (~~~ (BitVec.ofInt IntKind.i64.bits a)).toNat = 18446744073709551615 - a.toNat := by
    rw [BitVec.toNat_not, e]; rfl
  show IntKind.i64.wrap ((BitVec.ofInt IntKind.i64.bits a ^^^ BitVec.ofInt IntKind.i64.bits (-1)).toNat : Int) = _
  rw [e2, e3, w_i64]; omega
/-- a signed number again -/
def uz (x : Int) : Int := if x % 2 = 0 then x / 2 else -(x / 2) - 1
theorem uz_code {x : Int} (h : u64B x = true) : ixor .i64 (icv .i64 (ishr .u64 x 1)) (isub .i64 0 (icv .i64 (iand .u64 x 1))) = uz x := by
  rw [u64B_iff] at h
  have e1 : ishr .u64 x 1 = x / 2 := by unfold ishr; simp [IntKind.bits]
  have e2 : iand .u64 x 1 = x % 2 := iand_mask .u64 1 (by decide) x
  rw [e1, e2]
  have e3 : icv .i64 (x / 2) = x / 2 := by unfold icv; rw [w_i64_in (by omega)]
  rw [e3]
  unfold uz
  split
  · rename_i h0; rw [h0, show isub .i64 0 (icv .i64 0) = 0 from rfl, xor0i (by omega)]
  · rw [show x % 2 = 1 by omega, show isub .i64 0 (icv .i64 1) = -1 from rfl, xor1i (by omega)]; omega
theorem uz_ref {x : Int} (h : u64B x = true) : (bif ieq (irem x 2) 0 then icv .i64 (iquo .u64 x 2) else isub .i64 (isub .i64 0 (icv .i64 (iquo .u64 x 2))) 1) = uz x := by
  rw [u64B_iff] at h
  have e1 : irem x 2 = x % 2 := by unfold irem; rw [Int.tmod_eq_emod_of_nonneg (by omega)]
  have e2 : iquo .u64 x 2 = x / 2 := by unfold iquo; rw [Int.tdiv_eq_ediv_of_nonneg (by omega), w_u64_in (by omega)]
  have e3 : icv .i64 (x / 2) = x / 2 := by unfold icv; rw [w_i64_in (by omega)]
  rw [e1, e2, e3]
  unfold uz; rw [cond_if]; simp only [ieq_d, decide_eq_true_eq]
  split
  · rfl
  · unfold isub; rw [w_i64_in (x := 0 - x / 2) (by omega), w_i64_in (by omega)]; omega
/-- a signed number without its sign -/
def zz (x : Int) : Int := if 0 ≤ x then 2 * x else -2 * x - 1
def i64B (x : Int) : Bool := decide (-9223372036854775808 ≤ x ∧ x ≤ 9223372036854775807)
theorem i64B_iff {x : Int} : i64B x = true ↔ -9223372036854775808 ≤ x ∧ x ≤ 9223372036854775807 := by simp [i64B]
theorem zz_u64 {x : Int} (h : i64B x = true) : u64B (zz x) = true := by
  rw [i64B_iff] at h; rw [u64B_iff]; unfold zz; split <;> omega
theorem zz_code {x : Int} (h : i64B x = true) : ixor .u64 (ishl .u64 (icv .u64 x) 1) (icv .u64 (ishr .i64 x 63)) = zz x := by
  rw [i64B_iff] at h
  have e1 : ishl .u64 (icv .u64 x) 1 = 2 * x % 18446744073709551616 := by
    unfold ishl icv; rw [w_u64, w_u64]; simp [IntKind.bits]; omega
  have e2 : ishr .i64 x 63 = if 0 ≤ x then 0 else -1 := by
    unfold ishr; simp [IntKind.bits]; split <;> omega
  rw [e1, e2]
  unfold zz
  split
  · rw [show icv .u64 0 = 0 from rfl, xor0 (by rw [u64B_iff]; omega)]; omega
  · rw [show icv .u64 (-1) = 18446744073709551615 from rfl, xor1 (by rw [u64B_iff]; omega)]; omega
theorem zz_ref {x : Int} (h : i64B x = true) : (bif ile 0 x then imul .u64 2 (icv .u64 x) else iadd .u64 (imul .u64 2 (icv .u64 (isub .i64 0 (iadd .i64 x 1)))) 1) = zz x := by
  rw [i64B_iff] at h
  unfold zz; rw [cond_if]; simp only [ile_d, decide_eq_true_eq]
  split
  · unfold imul icv; rw [w_u64_in (x := x) (by omega), w_u64_in (by omega)]
  · unfold iadd imul icv isub
    rw [w_i64_in (x := x + 1) (by omega), w_i64_in (by omega), w_u64_in (x := 0 - (x + 1)) (by omega), w_u64_in (x := 2 * _) (by omega), w_u64_in (by omega)]; omega
theorem uz_zz {x : Int} : uz (zz x) = x := by unfold uz zz; split <;> split <;> omega
theorem or_add (i : Nat) {x y : Int} (hx : 0 ≤ x) (hxi : x < 2 ^ i) (hx64 : x < 18446744073709551616) (hy : 0 ≤ y) (hyi : y % 2 ^ i = 0) (hy64 : y < 18446744073709551616) : ior .u64 x y = x + y := by
  have hk : ∀ n : Int, 0 ≤ n → n < 2 ^ 64 → IntKind.wrap .u64 n = n := fun n h0 h1 => w_u64_in ⟨h0, by omega⟩
  have h := bits_join .u64 64 (by decide) hk i y x hy hyi (by omega) hx hxi (by omega)
  obtain ⟨a, rfl⟩ := Int.eq_ofNat_of_zero_le hx
  obtain ⟨c, rfl⟩ := Int.eq_ofNat_of_zero_le hy
  unfold ior
  rw [(bits_nat .u64 64 (by decide) hk c a (by omega) (by omega)).2] at h
  rw [(bits_nat .u64 64 (by decide) hk a c (by omega) (by omega)).2, Nat.or_comm, h]
  omega
end Go.Proofs.YtnejcdinieaemaaDoor.Code

/- A number out of bytes, in plain lists. -/
set_option linter.unusedVariables false
set_option linter.unusedSimpArgs false
namespace Go.Proofs.YtnejcdinieaemaaDoor.Code
open Go.Abs
/-- the number, how many bytes it takes, the error -/
def numG : List Int → Nat → Int → Int × Int × Int
  | [], _, _ => (0, 0, 3)
  | c :: s, i, x => if i = 9 ∧ 1 < c then (0, 0, 5) else if 128 ≤ c then numG s (i + 1) (x + c % 128 * 128 ^ i) else if c = 0 ∧ 0 < i then (0, 0, 5) else (x + c * 128 ^ i, i + 1, 0)
def byB (m : List Int) : Bool := m.all fun c => decide (0 ≤ c ∧ c ≤ 255)
theorem byB_iff {m : List Int} : byB m = true ↔ ∀ c ∈ m, 0 ≤ c ∧ c ≤ 255 := by simp [byB]
theorem ten {i : Nat} (h : i ≤ 9) : i = 0 ∨ i = 1 ∨ i = 2 ∨ i = 3 ∨ i = 4 ∨ i = 5 ∨ i = 6 ∨ i = 7 ∨ i = 8 ∨ i = 9 := by omega
theorem p7 (i : Nat) : (128 : Int) ^ i = 2 ^ (7 * i) := by rw [Int.pow_mul]; rfl
/-- the next group -/
theorem grp {x c : Int} {i : Nat} (hi : i ≤ 9) (hx : 0 ≤ x ∧ x < 128 ^ i) (hc : 0 ≤ c ∧ c < 128) (h9 : i = 9 → c ≤ 1) :
    0 ≤ c * 128 ^ i ∧ c * 128 ^ i < 18446744073709551616 ∧ x + c * 128 ^ i < 128 ^ (i + 1) ∧ 0 ≤ x + c * 128 ^ i ∧ x + c * 128 ^ i < 18446744073709551616 ∧ x < 18446744073709551616 := by
  rcases ten hi with rfl | rfl | rfl | rfl | rfl | rfl | rfl | rfl | rfl | rfl <;> simp at * <;> omega
theorem orG {x c : Int} {i : Nat} (hi : i ≤ 9) (hx : 0 ≤ x ∧ x < 128 ^ i) (hc : 0 ≤ c ∧ c < 128) (h9 : i = 9 → c ≤ 1) :
    ior .u64 x (ishl .u64 (icv .u64 c) (imul .i64 7 i)) = x + c * 128 ^ i := by
  have g := grp hi hx hc h9
  have e : ishl .u64 (icv .u64 c) (imul .i64 7 i) = c * 128 ^ i := by
    unfold ishl icv imul
    rw [w_u64_in (x := c) (by omega), w_i64_in (by omega), show min (7 * (i : Int)).toNat IntKind.u64.bits = 7 * i from by simp [IntKind.bits]; omega, ← p7, w_u64_in (by omega)]
  rw [e]
  refine or_add (7 * i) hx.1 (by rw [← p7]; exact hx.2) g.2.2.2.2.2 g.1 ?_ g.2.1
  rw [← p7, Int.mul_emod_left]
theorem refG {x c : Int} {i : Nat} (hi : i ≤ 9) (hx : 0 ≤ x ∧ x < 128 ^ i) (hc : 0 ≤ c ∧ c ≤ 255) (h9 : i = 9 → c ≤ 1) :
    iadd .u64 x (imul .u64 (irem (icv .u64 c) 128) (128 ^ i)) = x + c % 128 * 128 ^ i := by
  have g := grp (c := c % 128) hi hx (by omega) (by omega)
  unfold iadd imul irem icv
  rw [w_u64_in (x := c) (by omega), Int.tmod_eq_emod_of_nonneg (by omega), w_u64_in (x := c % 128 * 128 ^ i) (by omega), w_u64_in (by omega)]
theorem refP {i : Nat} (hi : i ≤ 8) : imul .u64 (128 ^ i) 128 = 128 ^ (i + 1) := by
  have h1 : (128 : Int) ^ i ≤ 128 ^ 8 := by
    rcases ten (i := i) (by omega) with rfl | rfl | rfl | rfl | rfl | rfl | rfl | rfl | rfl | rfl <;> simp at *
  have h0 : 0 ≤ (128 : Int) ^ i := Int.pow_nonneg (by omega)
  unfold imul; rw [Int.pow_succ, w_u64_in]; omega
theorem and127 {c : Int} (hc : 0 ≤ c ∧ c ≤ 255) : iand .u8 c 127 = c % 128 := iand_mask .u8 7 (by decide) c
/-- what is known of it -/
theorem numG_spec : ∀ (s : List Int) (i : Nat) (x : Int), byB s = true → i ≤ 9 → 0 ≤ x ∧ x < 128 ^ i →
    ((numG s i x).2.2 = 0 ∨ (numG s i x).2.2 = 3 ∨ (numG s i x).2.2 = 5) ∧ 0 ≤ (numG s i x).1 ∧ (numG s i x).1 < 18446744073709551616 ∧
      ((numG s i x).2.2 = 0 → (i : Int) + 1 ≤ (numG s i x).2.1 ∧ (numG s i x).2.1 ≤ i + s.length) ∧ ((numG s i x).2.2 ≠ 0 → (numG s i x).1 = 0)
  | [], i, x, hs, hi, hx => by simp [numG]
  | c :: s, i, x, hs, hi, hx => by
    rw [byB_iff] at hs
    have hc := hs c (by simp)
    rw [numG]
    by_cases h1 : i = 9 ∧ 1 < c
    · rw [if_pos h1]; simp
    rw [if_neg h1]
    by_cases h2 : 128 ≤ c
    · rw [if_pos h2]
      have g := grp (c := c % 128) hi hx (by omega) (by omega)
      have := numG_spec s (i + 1) _ (byB_iff.2 fun d hd => hs d (by simp [hd])) (by omega) ⟨g.2.2.2.1, g.2.2.1⟩
      refine ⟨this.1, this.2.1, this.2.2.1, fun h => ?_, this.2.2.2.2⟩
      have := this.2.2.2.1 h
      simp only [List.length_cons]; omega
    rw [if_neg h2]
    by_cases h3 : c = 0 ∧ 0 < i
    · rw [if_pos h3]; simp
    rw [if_neg h3]
    have g := grp (c := c) hi hx (by omega) (by omega)
    exact ⟨.inl rfl, g.2.2.2.1, g.2.2.2.2.1, fun _ => by simp only [List.length_cons]; omega, fun h => absurd rfl h⟩
end Go.Proofs.YtnejcdinieaemaaDoor.Code

/- The library's builder, told at this program (contracts of the library's own texts). -/
set_option linter.all false
namespace Go.Proofs
open Go.Shelf
def Tryd.laysB_ren : Go.Shelf.Ren := ⟨fun | 166 => 29 | 167 => 68 | 168 => 69 | 169 => 30 | 240 => 56 | 276 => 74 | 242 => 81 | 278 => 90 | n => n, fun | 9 => 9 | 3 => 3 | 4 => 4 | 0 => 0 | 20 => 20 | 72 => 56 | 70 => 54 | 37 => 30 | 75 => 58 | 80 => 61 | 76 => 59 | 127 => 95 | 164 => 119 | 5 => 5 | 21 => 21 | n => n, fun | n => n⟩
theorem Tryd.laysB240 : Go.Proofs.Lays.n240 Tryd.prog Tryd.laysB_ren := {
  mixed := by kernel_rfl
  f240 := Tryd.func56.trans (congrArg some (by kernel_rfl))
  f276 := Tryd.func74.trans (congrArg some (by kernel_rfl))
  t0 := Tryd.underlying0
  a0 := Tryd.isAgg0
  z0 := Tryd.sizeOf0
  v0 := Tryd.zeroValue0
  t4 := Tryd.underlying4
  a4 := Tryd.isAgg4
  z4 := Tryd.sizeOf4
  v4 := Tryd.zeroValue4
  t9 := Tryd.underlying9
  a9 := Tryd.isAgg9
  z9 := Tryd.sizeOf9
  v9 := Tryd.zeroValue9
  t20 := Tryd.underlying20
  a20 := Tryd.isAgg20
  z20 := Tryd.sizeOf20
  v20 := Tryd.zeroValue20
  t70 := Tryd.underlying54
  a70 := Tryd.isAgg54
  z70 := Tryd.sizeOf54
  v70 := Tryd.zeroValue54
  t72 := Tryd.underlying56
  a72 := Tryd.isAgg56
  z72 := Tryd.sizeOf56
  v72 := Tryd.zeroValue56
  t164 := Tryd.underlying119
  a164 := Tryd.isAgg119
  z164 := Tryd.sizeOf119
  v164 := Tryd.zeroValue119 }
theorem Tryd.laysB166 : Go.Proofs.Lays.n166 Tryd.prog Tryd.laysB_ren := {
  mixed := by kernel_rfl
  f166 := Tryd.func29.trans (congrArg some (by kernel_rfl))
  f240 := Tryd.func56.trans (congrArg some (by kernel_rfl))
  f276 := Tryd.func74.trans (congrArg some (by kernel_rfl))
  t0 := Tryd.underlying0
  a0 := Tryd.isAgg0
  z0 := Tryd.sizeOf0
  v0 := Tryd.zeroValue0
  t3 := Tryd.underlying3
  a3 := Tryd.isAgg3
  z3 := Tryd.sizeOf3
  v3 := Tryd.zeroValue3
  t4 := Tryd.underlying4
  a4 := Tryd.isAgg4
  z4 := Tryd.sizeOf4
  v4 := Tryd.zeroValue4
  t9 := Tryd.underlying9
  a9 := Tryd.isAgg9
  z9 := Tryd.sizeOf9
  v9 := Tryd.zeroValue9
  t20 := Tryd.underlying20
  a20 := Tryd.isAgg20
  z20 := Tryd.sizeOf20
  v20 := Tryd.zeroValue20
  t37 := Tryd.underlying30
  a37 := Tryd.isAgg30
  z37 := Tryd.sizeOf30
  v37 := Tryd.zeroValue30
  t70 := Tryd.underlying54
  a70 := Tryd.isAgg54
  z70 := Tryd.sizeOf54
  v70 := Tryd.zeroValue54
  t72 := Tryd.underlying56
  a72 := Tryd.isAgg56
  z72 := Tryd.sizeOf56
  v72 := Tryd.zeroValue56
  t75 := Tryd.underlying58
  a75 := Tryd.isAgg58
  z75 := Tryd.sizeOf58
  v75 := Tryd.zeroValue58
  t164 := Tryd.underlying119
  a164 := Tryd.isAgg119
  z164 := Tryd.sizeOf119
  v164 := Tryd.zeroValue119 }
theorem Tryd.laysB167 : Go.Proofs.Lays.n167 Tryd.prog Tryd.laysB_ren := {
  mixed := by kernel_rfl
  f167 := Tryd.func68.trans (congrArg some (by kernel_rfl))
  f240 := Tryd.func56.trans (congrArg some (by kernel_rfl))
  f276 := Tryd.func74.trans (congrArg some (by kernel_rfl))
  t0 := Tryd.underlying0
  a0 := Tryd.isAgg0
  z0 := Tryd.sizeOf0
  v0 := Tryd.zeroValue0
  t4 := Tryd.underlying4
  a4 := Tryd.isAgg4
  z4 := Tryd.sizeOf4
  v4 := Tryd.zeroValue4
  t5 := Tryd.underlying5
  a5 := Tryd.isAgg5
  z5 := Tryd.sizeOf5
  v5 := Tryd.zeroValue5
  t9 := Tryd.underlying9
  a9 := Tryd.isAgg9
  z9 := Tryd.sizeOf9
  v9 := Tryd.zeroValue9
  t20 := Tryd.underlying20
  a20 := Tryd.isAgg20
  z20 := Tryd.sizeOf20
  v20 := Tryd.zeroValue20
  t37 := Tryd.underlying30
  a37 := Tryd.isAgg30
  z37 := Tryd.sizeOf30
  v37 := Tryd.zeroValue30
  t70 := Tryd.underlying54
  a70 := Tryd.isAgg54
  z70 := Tryd.sizeOf54
  v70 := Tryd.zeroValue54
  t72 := Tryd.underlying56
  a72 := Tryd.isAgg56
  z72 := Tryd.sizeOf56
  v72 := Tryd.zeroValue56
  t75 := Tryd.underlying58
  a75 := Tryd.isAgg58
  z75 := Tryd.sizeOf58
  v75 := Tryd.zeroValue58
  t164 := Tryd.underlying119
  a164 := Tryd.isAgg119
  z164 := Tryd.sizeOf119
  v164 := Tryd.zeroValue119 }
theorem Tryd.laysB169 : Go.Proofs.Lays.n169 Tryd.prog Tryd.laysB_ren := {
  mixed := by kernel_rfl
  f169 := Tryd.func30.trans (congrArg some (by kernel_rfl))
  t0 := Tryd.underlying0
  a0 := Tryd.isAgg0
  z0 := Tryd.sizeOf0
  v0 := Tryd.zeroValue0
  t3 := Tryd.underlying3
  a3 := Tryd.isAgg3
  z3 := Tryd.sizeOf3
  v3 := Tryd.zeroValue3
  t9 := Tryd.underlying9
  a9 := Tryd.isAgg9
  z9 := Tryd.sizeOf9
  v9 := Tryd.zeroValue9
  t37 := Tryd.underlying30
  a37 := Tryd.isAgg30
  z37 := Tryd.sizeOf30
  v37 := Tryd.zeroValue30
  t70 := Tryd.underlying54
  a70 := Tryd.isAgg54
  z70 := Tryd.sizeOf54
  v70 := Tryd.zeroValue54
  t72 := Tryd.underlying56
  a72 := Tryd.isAgg56
  z72 := Tryd.sizeOf56
  v72 := Tryd.zeroValue56
  t127 := Tryd.underlying95
  a127 := Tryd.isAgg95
  z127 := Tryd.sizeOf95
  v127 := Tryd.zeroValue95 }
theorem Tryd.Builder_ExtraB : Builder.Extra Tryd.prog Tryd.laysB_ren := {
  sizeBuilder := by kernel_rfl
  liesBuilder := by kernel_rfl
  t5 := Tryd.underlying5
  a5 := Tryd.isAgg5
  z5 := Tryd.sizeOf5
  v5 := Tryd.zeroValue5
  infoByte := by kernel_rfl
  cellsByte := by kernel_rfl
  sizeByte := by kernel_rfl
  neB5 := by decide }
end Go.Proofs

/-
  DERIVED: THE SHELF's CONTRACTS AT THIS DUMP, IN PLAIN WORDS (tools/lay-plain.mjs out of 'TrydShelf.lean', which tools/lay-shelf.mjs wrote): THE SAME DECLARATIONS UNDER THE SAME NAMES: 'import', 'namespace', 'open', 'def', 'theorem' AND NOTHING ELSE: no command of the shelf's: FOR A HAND-IN. Each laying: the table of numbers ('.._ren') and one theorem, a field a fact of the dump's own or the kernel's comparison; each contract: ONE APPLICATION.
-/
namespace Go.Proofs
open Go.Shelf
def Tryd.lays169_ren : Go.Shelf.Ren := ⟨fun | 169 => 30 | n => n, fun | 70 => 54 | 9 => 9 | 0 => 0 | 72 => 56 | 37 => 30 | 127 => 95 | 3 => 3 | 5 => 5 | n => n, fun | n => n⟩
theorem Tryd.lays169 : Go.Proofs.Lays.n169 Tryd.prog Tryd.lays169_ren := {
  mixed := by kernel_rfl
  f169 := Tryd.func30.trans (congrArg some (by kernel_rfl))
  t0 := Tryd.underlying0
  a0 := Tryd.isAgg0
  z0 := Tryd.sizeOf0
  v0 := Tryd.zeroValue0
  t3 := Tryd.underlying3
  a3 := Tryd.isAgg3
  z3 := Tryd.sizeOf3
  v3 := Tryd.zeroValue3
  t9 := Tryd.underlying9
  a9 := Tryd.isAgg9
  z9 := Tryd.sizeOf9
  v9 := Tryd.zeroValue9
  t37 := Tryd.underlying30
  a37 := Tryd.isAgg30
  z37 := Tryd.sizeOf30
  v37 := Tryd.zeroValue30
  t70 := Tryd.underlying54
  a70 := Tryd.isAgg54
  z70 := Tryd.sizeOf54
  v70 := Tryd.zeroValue54
  t72 := Tryd.underlying56
  a72 := Tryd.isAgg56
  z72 := Tryd.sizeOf56
  v72 := Tryd.zeroValue56
  t127 := Tryd.underlying95
  a127 := Tryd.isAgg95
  z127 := Tryd.sizeOf95
  v127 := Tryd.zeroValue95 }
theorem Tryd.Builder_Extra_169 : Builder.Extra Tryd.prog Tryd.lays169_ren := {
  sizeBuilder := by kernel_rfl
  liesBuilder := by kernel_rfl
  t5 := Tryd.underlying5
  a5 := Tryd.isAgg5
  z5 := Tryd.sizeOf5
  v5 := Tryd.zeroValue5
  infoByte := by kernel_rfl
  cellsByte := by kernel_rfl
  sizeByte := by kernel_rfl
  neB5 := by decide }
open Go.RowKit in
/-- (*strings.Builder).String: "String returns the accumulated string.": OF A BUILDER THAT HOLDS AT LEAST ONE BYTE. ✋ THE MODEL FREEZES THOSE BYTES IN THE BUFFER (unsafe.String): a later write INTO them ends the model's run without an answer; a later append BEHIND them goes on. The statement's order of evaluation is drawn: one draw. (LAID: no walk: one application.) -/
theorem Tryd.Builder_String (B b : Nat) (l : List UInt8) (w : World) (h : Lib.IsBuilder 56 5 B b (Lib.byteCells l) w) (h0 : l ≠ []) :
    Calls Tryd.prog 30 #[.pointer (some ⟨b, 0, none⟩)] w fun e w' => e = .returned (.string ⟨l.toArray⟩) ∧ Below B w w' := Any.Builder_String Tryd.lays169 Tryd.Builder_Extra_169 B b l w h h0
open Go.RowKit in
/-- (*strings.Builder).String OF A BUILDER THAT HOLDS NO BYTE: the empty string. (Its buffer is nil, or a row of which it has taken nothing yet; where that row has NO capacity the model lays one new block for unsafe.SliceData's 'some address'.) One draw. (LAID: no walk: one application.) -/
theorem Tryd.Builder_String_empty (B b : Nat) (w : World) (h : Lib.IsBuilder 56 5 B b [] w) (hBw : B ≤ w.heap.size) :
    Calls Tryd.prog 30 #[.pointer (some ⟨b, 0, none⟩)] w fun e w' => e = .returned (.string ⟨#[]⟩) ∧ Below B w w' := Any.Builder_String_empty Tryd.lays169 Tryd.Builder_Extra_169 B b w h hBw
open Go.RowKit in
/-- (*strings.Builder).String: "String returns the accumulated string.": WHATEVER THE BUILDER HOLDS. (LAID: no walk: one application.) -/
theorem Tryd.Builder_String_any (B b : Nat) (l : List UInt8) (w : World) (h : Lib.IsBuilder 56 5 B b (Lib.byteCells l) w) (hBw : B ≤ w.heap.size) :
    Calls Tryd.prog 30 #[.pointer (some ⟨b, 0, none⟩)] w fun e w' => e = .returned (.string ⟨l.toArray⟩) ∧ Below B w w' := Any.Builder_String_any Tryd.lays169 Tryd.Builder_Extra_169 B b l w h hBw
def Tryd.lays137_ren : Go.Shelf.Ren := ⟨fun | 137 => 63 | 217 => 77 | 266 => 87 | n => n, fun | 9 => 9 | 5 => 5 | 3 => 3 | n => n, fun | n => n⟩
theorem Tryd.lays137 : Go.Proofs.Lays.n137 Tryd.prog Tryd.lays137_ren := {
  mixed := by kernel_rfl
  f137 := Tryd.func63.trans (congrArg some (by kernel_rfl))
  f217 := Tryd.func77.trans (congrArg some (by kernel_rfl))
  f266 := Tryd.func87.trans (congrArg some (by kernel_rfl))
  t3 := Tryd.underlying3
  a3 := Tryd.isAgg3
  z3 := Tryd.sizeOf3
  v3 := Tryd.zeroValue3
  t5 := Tryd.underlying5
  a5 := Tryd.isAgg5
  z5 := Tryd.sizeOf5
  v5 := Tryd.zeroValue5
  t9 := Tryd.underlying9
  a9 := Tryd.isAgg9
  z9 := Tryd.sizeOf9
  v9 := Tryd.zeroValue9 }
open Go.RowKit in
/-- strings.IndexByte: "IndexByte returns the index of the first instance of c in s, or -1 if c is not present in s.": IT RETURNS 'Lib.indexByte s c'; the world is as it was. (LAID: no walk: one application.) -/
theorem Tryd.strings_IndexByte (s : ByteArray) (c : Int) (w : World) :
    Calls Tryd.prog 63 #[.string s, .int .u8 c] w fun e w' => e = .returned (.int .i64 (Lib.indexByte s.data.toList c.toNat.toUInt8)) ∧ w' = w := Any.strings_IndexByte Tryd.lays137 s c w
def Tryd.lays129_ren : Go.Shelf.Ren := ⟨fun | 129 => 83 | n => n, fun | 53 => 67 | 3 => 3 | 4 => 4 | 46 => 100 | 5 => 5 | 9 => 9 | n => n, fun | n => n⟩
theorem Tryd.lays129 : Go.Proofs.Lays.n129 Tryd.prog Tryd.lays129_ren := {
  mixed := by kernel_rfl
  f129 := Tryd.func83.trans (congrArg some (by kernel_rfl))
  t3 := Tryd.underlying3
  a3 := Tryd.isAgg3
  z3 := Tryd.sizeOf3
  v3 := Tryd.zeroValue3
  t4 := Tryd.underlying4
  a4 := Tryd.isAgg4
  z4 := Tryd.sizeOf4
  v4 := Tryd.zeroValue4
  t5 := Tryd.underlying5
  a5 := Tryd.isAgg5
  z5 := Tryd.sizeOf5
  v5 := Tryd.zeroValue5
  t9 := Tryd.underlying9
  a9 := Tryd.isAgg9
  z9 := Tryd.sizeOf9
  v9 := Tryd.zeroValue9
  t46 := Tryd.underlying100
  a46 := Tryd.isAgg100
  z46 := Tryd.sizeOf100
  v46 := Tryd.zeroValue100
  t53 := Tryd.underlying67
  a53 := Tryd.isAgg67
  z53 := Tryd.sizeOf67
  v53 := Tryd.zeroValue67 }
/-- bits.Len64: "Len64 returns the minimum number of bits required to represent x; the result is 0 for x == 0.": IT RETURNS 'Lib.bitLen x'; the world is as it was. ('h0', 'h1': x is a uint64.) (LAID: no walk: one application.) -/
theorem Tryd.bits_Len64 (x : Int) (w : World) (h0 : 0 ≤ x) (h1 : x ≤ 18446744073709551615) :
    Calls Tryd.prog 83 #[.int .u64 x] w fun e w' => e = .returned (.int .i64 (Lib.bitLen x.toNat)) ∧ w' = w := Any.bits_Len64 Tryd.lays129 x w h0 h1
def Tryd.lays317_ren : Go.Shelf.Ren := ⟨fun | 317 => 82 | n => n, fun | 3 => 3 | 46 => 100 | n => n, fun | n => n⟩
theorem Tryd.lays317 : Go.Proofs.Lays.n317 Tryd.prog Tryd.lays317_ren := {
  mixed := by kernel_rfl
  f317 := Tryd.func82.trans (congrArg some (by kernel_rfl))
  t3 := Tryd.underlying3
  a3 := Tryd.isAgg3
  z3 := Tryd.sizeOf3
  v3 := Tryd.zeroValue3
  t46 := Tryd.underlying100
  a46 := Tryd.isAgg100
  z46 := Tryd.sizeOf100
  v46 := Tryd.zeroValue100 }
open Go.Lib in
/-- internal/strconv.log10Pow2: "log10Pow2(x) returns ⌊log₁₀ 2**x⌋ = ⌊x * log₁₀ 2⌋.": '(x * 78913) >> 18', at an x up to 64 (a length in bits). The world is as it was. (LAID: no walk: one application.) -/
theorem Tryd.internal_strconv_log10Pow2 (x : Nat) (h : x ≤ 64) (w : World) :
    Calls Tryd.prog 82 #[.int .i64 x] w fun e w' => e = .returned (.int .i64 (Lib.l10 x)) ∧ w' = w := Any.internal_strconv_log10Pow2 Tryd.lays317 x h w
def Tryd.lays318_ren : Go.Shelf.Ren := ⟨fun | 318 => 84 | n => n, fun | 3 => 3 | 4 => 4 | n => n, fun | n => n⟩
theorem Tryd.lays318 : Go.Proofs.Lays.n318 Tryd.prog Tryd.lays318_ren := {
  mixed := by kernel_rfl
  f318 := Tryd.func84.trans (congrArg some (by kernel_rfl))
  t3 := Tryd.underlying3
  a3 := Tryd.isAgg3
  z3 := Tryd.sizeOf3
  v3 := Tryd.zeroValue3
  t4 := Tryd.underlying4
  a4 := Tryd.isAgg4
  z4 := Tryd.sizeOf4
  v4 := Tryd.zeroValue4 }
open Go.Lib in
/-- internal/strconv.bool2: "bool2 converts b to an integer: 1 for true, 0 for false." The world is as it was. (LAID: no walk: one application.) -/
theorem Tryd.internal_strconv_bool2_int (b : Bool) (w : World) :
    Calls Tryd.prog 84 #[.bool b] w fun e w' => e = .returned (.int .i64 (if b then 1 else 0)) ∧ w' = w := Any.internal_strconv_bool2_int Tryd.lays318 b w
def Tryd.lays283_ren : Go.Shelf.Ren := ⟨fun | 283 => 70 | n => n, fun | 3 => 3 | 9 => 9 | 4 => 4 | n => n, fun | n => n⟩
theorem Tryd.lays283 : Go.Proofs.Lays.n283 Tryd.prog Tryd.lays283_ren := {
  mixed := by kernel_rfl
  f283 := Tryd.func70.trans (congrArg some (by kernel_rfl))
  t3 := Tryd.underlying3
  a3 := Tryd.isAgg3
  z3 := Tryd.sizeOf3
  v3 := Tryd.zeroValue3
  t4 := Tryd.underlying4
  a4 := Tryd.isAgg4
  z4 := Tryd.sizeOf4
  v4 := Tryd.zeroValue4
  t9 := Tryd.underlying9
  a9 := Tryd.isAgg9
  z9 := Tryd.sizeOf9
  v9 := Tryd.zeroValue9 }
open Go.Lib in
/-- internal/strconv.small: "small returns the string for an i with 0 <= i < nSmalls.": i's decimal numeral. The world is as it was. (LAID: no walk: one application.) -/
theorem Tryd.internal_strconv_small (i : Nat) (h : i < 100) (w : World) :
    Calls Tryd.prog 70 #[.int .i64 i] w fun e w' => e = .returned (.string ⟨(Lib.decDigits i).toArray⟩) ∧ w' = w := Any.internal_strconv_small Tryd.lays283 i h w
def Tryd.laysM284_ren : Go.Shelf.Ren := ⟨fun | 284 => 71 | 129 => 83 | 317 => 82 | 318 => 84 | n => n, fun | 53 => 67 | 3 => 3 | 212 => 128 | 0 => 0 | 4 => 4 | 46 => 100 | 5 => 5 | 9 => 9 | n => n, fun | 17 => 0 | n => n⟩
theorem Tryd.laysM284 : Go.Proofs.LaysM.n284 Tryd.prog Tryd.laysM284_ren := {
  mixed := by kernel_rfl
  f129 := Tryd.func83.trans (congrArg some (by kernel_rfl))
  f284 := Tryd.func71.trans (congrArg some (by kernel_rfl))
  f317 := Tryd.func82.trans (congrArg some (by kernel_rfl))
  f318 := Tryd.func84.trans (congrArg some (by kernel_rfl))
  t0 := Tryd.underlying0
  a0 := Tryd.isAgg0
  z0 := Tryd.sizeOf0
  v0 := Tryd.zeroValue0
  t3 := Tryd.underlying3
  a3 := Tryd.isAgg3
  z3 := Tryd.sizeOf3
  v3 := Tryd.zeroValue3
  t4 := Tryd.underlying4
  a4 := Tryd.isAgg4
  z4 := Tryd.sizeOf4
  v4 := Tryd.zeroValue4
  t5 := Tryd.underlying5
  a5 := Tryd.isAgg5
  z5 := Tryd.sizeOf5
  v5 := Tryd.zeroValue5
  t9 := Tryd.underlying9
  a9 := Tryd.isAgg9
  z9 := Tryd.sizeOf9
  v9 := Tryd.zeroValue9
  t46 := Tryd.underlying100
  a46 := Tryd.isAgg100
  z46 := Tryd.sizeOf100
  v46 := Tryd.zeroValue100
  t53 := Tryd.underlying67
  a53 := Tryd.isAgg67
  z53 := Tryd.sizeOf67
  v53 := Tryd.zeroValue67
  t212 := Tryd.underlying128
  a212 := Tryd.isAgg128
  z212 := Tryd.sizeOf128
  v212 := Tryd.zeroValue128
  g17 := by kernel_rfl
  i0 := by kernel_rfl
  i3 := by kernel_rfl
  i4 := by kernel_rfl
  i5 := by kernel_rfl
  i9 := by kernel_rfl
  i46 := by kernel_rfl
  i53 := by kernel_rfl
  i212 := by kernel_rfl
  m17 := by kernel_rfl }
open Go.Lib in
/-- internal/strconv.numDigits, at a d that is not 0: THE NUMBER OF d's DECIMAL DIGITS. The world is as it was. (LAID: no walk: one application.) -/
theorem Tryd.internal_strconv_numDigits (u : Nat) (h1 : 1 ≤ u) (h2 : u < 18446744073709551616) (w : World) (htab : Lib.TabIs Tryd.prog w "internal/strconv.uint64pow10" .u64 Lib.pow10Tab) :
    Calls Tryd.prog 71 #[.int .u64 u] w fun e w' => e = .returned (.int .i64 (Lib.nDigits u)) ∧ w' = w := Any.internal_strconv_numDigits Tryd.laysM284 u h1 h2 w htab
def Tryd.lays285_ren : Go.Shelf.Ren := ⟨fun | 285 => 72 | n => n, fun | 37 => 30 | 53 => 67 | 3 => 3 | 4 => 4 | 51 => 129 | 9 => 9 | 5 => 5 | 0 => 0 | n => n, fun | n => n⟩
theorem Tryd.lays285 : Go.Proofs.Lays.n285 Tryd.prog Tryd.lays285_ren := {
  mixed := by kernel_rfl
  f285 := Tryd.func72.trans (congrArg some (by kernel_rfl))
  t0 := Tryd.underlying0
  a0 := Tryd.isAgg0
  z0 := Tryd.sizeOf0
  v0 := Tryd.zeroValue0
  t3 := Tryd.underlying3
  a3 := Tryd.isAgg3
  z3 := Tryd.sizeOf3
  v3 := Tryd.zeroValue3
  t4 := Tryd.underlying4
  a4 := Tryd.isAgg4
  z4 := Tryd.sizeOf4
  v4 := Tryd.zeroValue4
  t5 := Tryd.underlying5
  a5 := Tryd.isAgg5
  z5 := Tryd.sizeOf5
  v5 := Tryd.zeroValue5
  t9 := Tryd.underlying9
  a9 := Tryd.isAgg9
  z9 := Tryd.sizeOf9
  v9 := Tryd.zeroValue9
  t37 := Tryd.underlying30
  a37 := Tryd.isAgg30
  z37 := Tryd.sizeOf30
  v37 := Tryd.zeroValue30
  t51 := Tryd.underlying129
  a51 := Tryd.isAgg129
  z51 := Tryd.sizeOf129
  v51 := Tryd.zeroValue129
  t53 := Tryd.underlying67
  a53 := Tryd.isAgg67
  z53 := Tryd.sizeOf67
  v53 := Tryd.zeroValue67 }
open Go.RowKit Go.Sort Go.Lib in
/-- internal/strconv.formatBase10: "formatBase10 formats the decimal representation of u into a. The caller is responsible for ensuring that a is big enough to hold u. If a is too big, leading zeros will be filled in as needed.": THE ROW HOLDS u's DIGITS ('FmtInv .. 0 ..': every place t holds 'dg u (len - 1 - t)'); all else is as it was but for the count of draws. (LAID: no walk: one application.) -/
theorem Tryd.internal_strconv_formatBase10 (blk off cap : Nat) (u : Nat) (d : Array UInt8) (w : World) (hH : Holds (fun (b : UInt8) => Value.int .u8 (b.toNat : Int)) w blk off d) (hu : u < 10 ^ d.size) (hu64 : u < 18446744073709551616) (hsz : d.size < 4611686018427387904) :
    Calls Tryd.prog 72 #[.slice (some ⟨blk, off, none⟩) d.size cap, .int .u64 u] w fun e w' =>
      e = .returned (.tuple #[]) ∧ ∃ (n v' : Nat) (dk : Array UInt8), w' = (putRow (fun (b : UInt8) => Value.int .u8 (b.toNat : Int)) w blk off dk).drewN n ∧ FmtInv d.size u 0 v' dk := Any.internal_strconv_formatBase10 Tryd.lays285 blk off cap u d w hH hu hu64 hsz
def Tryd.laysM246_ren : Go.Shelf.Ren := ⟨fun | 246 => 54 | 283 => 70 | 284 => 71 | 285 => 72 | 286 => 73 | 129 => 83 | 317 => 82 | 318 => 84 | 319 => 85 | 320 => 86 | 337 => 91 | 338 => 92 | n => n, fun | 2 => 2 | 3 => 3 | 9 => 9 | 4 => 4 | 171 => 114 | 0 => 0 | 53 => 67 | 37 => 30 | 5 => 5 | 173 => 117 | 212 => 128 | 51 => 129 | 20 => 20 | 213 => 130 | 46 => 100 | 232 => 134 | 233 => 135 | n => n, fun | 17 => 0 | 18 => 2 | 19 => 3 | n => n⟩
theorem Tryd.laysM246 : Go.Proofs.LaysM.n246 Tryd.prog Tryd.laysM246_ren := {
  mixed := by kernel_rfl
  f129 := Tryd.func83.trans (congrArg some (by kernel_rfl))
  f246 := Tryd.func54.trans (congrArg some (by kernel_rfl))
  f283 := Tryd.func70.trans (congrArg some (by kernel_rfl))
  f284 := Tryd.func71.trans (congrArg some (by kernel_rfl))
  f285 := Tryd.func72.trans (congrArg some (by kernel_rfl))
  f286 := Tryd.func73.trans (congrArg some (by kernel_rfl))
  f317 := Tryd.func82.trans (congrArg some (by kernel_rfl))
  f318 := Tryd.func84.trans (congrArg some (by kernel_rfl))
  f319 := Tryd.func85.trans (congrArg some (by kernel_rfl))
  f320 := Tryd.func86.trans (congrArg some (by kernel_rfl))
  f337 := Tryd.func91.trans (congrArg some (by kernel_rfl))
  f338 := Tryd.func92.trans (congrArg some (by kernel_rfl))
  t0 := Tryd.underlying0
  a0 := Tryd.isAgg0
  z0 := Tryd.sizeOf0
  v0 := Tryd.zeroValue0
  t2 := Tryd.underlying2
  a2 := Tryd.isAgg2
  z2 := Tryd.sizeOf2
  v2 := Tryd.zeroValue2
  t3 := Tryd.underlying3
  a3 := Tryd.isAgg3
  z3 := Tryd.sizeOf3
  v3 := Tryd.zeroValue3
  t4 := Tryd.underlying4
  a4 := Tryd.isAgg4
  z4 := Tryd.sizeOf4
  v4 := Tryd.zeroValue4
  t5 := Tryd.underlying5
  a5 := Tryd.isAgg5
  z5 := Tryd.sizeOf5
  v5 := Tryd.zeroValue5
  t9 := Tryd.underlying9
  a9 := Tryd.isAgg9
  z9 := Tryd.sizeOf9
  v9 := Tryd.zeroValue9
  t20 := Tryd.underlying20
  a20 := Tryd.isAgg20
  z20 := Tryd.sizeOf20
  v20 := Tryd.zeroValue20
  t37 := Tryd.underlying30
  a37 := Tryd.isAgg30
  z37 := Tryd.sizeOf30
  v37 := Tryd.zeroValue30
  t46 := Tryd.underlying100
  a46 := Tryd.isAgg100
  z46 := Tryd.sizeOf100
  v46 := Tryd.zeroValue100
  t51 := Tryd.underlying129
  a51 := Tryd.isAgg129
  z51 := Tryd.sizeOf129
  v51 := Tryd.zeroValue129
  t53 := Tryd.underlying67
  a53 := Tryd.isAgg67
  z53 := Tryd.sizeOf67
  v53 := Tryd.zeroValue67
  t171 := Tryd.underlying114
  a171 := Tryd.isAgg114
  z171 := Tryd.sizeOf114
  v171 := Tryd.zeroValue114
  t173 := Tryd.underlying117
  a173 := Tryd.isAgg117
  z173 := Tryd.sizeOf117
  v173 := Tryd.zeroValue117
  t212 := Tryd.underlying128
  a212 := Tryd.isAgg128
  z212 := Tryd.sizeOf128
  v212 := Tryd.zeroValue128
  t213 := Tryd.underlying130
  a213 := Tryd.isAgg130
  z213 := Tryd.sizeOf130
  t232 := Tryd.underlying134
  a232 := Tryd.isAgg134
  z232 := Tryd.sizeOf134
  v232 := Tryd.zeroValue134
  t233 := Tryd.underlying135
  a233 := Tryd.isAgg135
  z233 := Tryd.sizeOf135
  v233 := Tryd.zeroValue135
  g17 := by kernel_rfl
  g18 := by kernel_rfl
  g19 := by kernel_rfl
  i0 := by kernel_rfl
  i2 := by kernel_rfl
  i3 := by kernel_rfl
  i4 := by kernel_rfl
  i5 := by kernel_rfl
  i9 := by kernel_rfl
  i20 := by kernel_rfl
  i37 := by kernel_rfl
  i46 := by kernel_rfl
  i51 := by kernel_rfl
  i53 := by kernel_rfl
  i171 := by kernel_rfl
  i173 := by kernel_rfl
  i212 := by kernel_rfl
  i232 := by kernel_rfl
  i233 := by kernel_rfl
  m17 := by kernel_rfl
  m18 := by kernel_rfl
  m19 := by kernel_rfl }
open Go.RowKit Go.Sort Go.Lib in
/-- internal/strconv.FormatInt: "FormatInt returns the string representation of i in the given base": AT BASE 10: i's decimal numeral, for every int64. The world behind the call: the world before it, new blocks behind the heap, draws. (LAID: no walk: one application.) -/
theorem Tryd.internal_strconv_FormatInt_10 (n : Int) (h0 : -9223372036854775808 ≤ n) (h1 : n ≤ 9223372036854775807) (w : World) (htab : Lib.TabIs Tryd.prog w "internal/strconv.uint64pow10" .u64 Lib.pow10Tab) :
    Calls Tryd.prog 54 #[.int .i64 n, .int .i64 10] w fun e w' => e = .returned (.string ⟨(Lib.itoa n).toArray⟩) ∧ ∃ k os, w' = grow (w.drewN k) os := Any.internal_strconv_FormatInt_10 Tryd.laysM246 n h0 h1 w htab
def Tryd.lays246_ren : Go.Shelf.Ren := ⟨fun | 246 => 54 | 283 => 70 | 284 => 71 | 285 => 72 | 286 => 73 | 129 => 83 | 317 => 82 | 318 => 84 | 319 => 85 | 320 => 86 | 337 => 91 | 338 => 92 | n => n, fun | 2 => 2 | 3 => 3 | 9 => 9 | 4 => 4 | 171 => 114 | 0 => 0 | 53 => 67 | 37 => 30 | 5 => 5 | 173 => 117 | 212 => 128 | 51 => 129 | 20 => 20 | 213 => 130 | 46 => 100 | 232 => 134 | 233 => 135 | n => n, fun | 17 => 0 | 18 => 2 | 19 => 3 | n => n⟩
theorem Tryd.lays246 : Go.Proofs.Lays.n246 Tryd.prog Tryd.lays246_ren := {
  mixed := by kernel_rfl
  f129 := Tryd.func83.trans (congrArg some (by kernel_rfl))
  f246 := Tryd.func54.trans (congrArg some (by kernel_rfl))
  f283 := Tryd.func70.trans (congrArg some (by kernel_rfl))
  f284 := Tryd.func71.trans (congrArg some (by kernel_rfl))
  f285 := Tryd.func72.trans (congrArg some (by kernel_rfl))
  f286 := Tryd.func73.trans (congrArg some (by kernel_rfl))
  f317 := Tryd.func82.trans (congrArg some (by kernel_rfl))
  f318 := Tryd.func84.trans (congrArg some (by kernel_rfl))
  f319 := Tryd.func85.trans (congrArg some (by kernel_rfl))
  f320 := Tryd.func86.trans (congrArg some (by kernel_rfl))
  f337 := Tryd.func91.trans (congrArg some (by kernel_rfl))
  f338 := Tryd.func92.trans (congrArg some (by kernel_rfl))
  t0 := Tryd.underlying0
  a0 := Tryd.isAgg0
  z0 := Tryd.sizeOf0
  v0 := Tryd.zeroValue0
  t2 := Tryd.underlying2
  a2 := Tryd.isAgg2
  z2 := Tryd.sizeOf2
  v2 := Tryd.zeroValue2
  t3 := Tryd.underlying3
  a3 := Tryd.isAgg3
  z3 := Tryd.sizeOf3
  v3 := Tryd.zeroValue3
  t4 := Tryd.underlying4
  a4 := Tryd.isAgg4
  z4 := Tryd.sizeOf4
  v4 := Tryd.zeroValue4
  t5 := Tryd.underlying5
  a5 := Tryd.isAgg5
  z5 := Tryd.sizeOf5
  v5 := Tryd.zeroValue5
  t9 := Tryd.underlying9
  a9 := Tryd.isAgg9
  z9 := Tryd.sizeOf9
  v9 := Tryd.zeroValue9
  t20 := Tryd.underlying20
  a20 := Tryd.isAgg20
  z20 := Tryd.sizeOf20
  v20 := Tryd.zeroValue20
  t37 := Tryd.underlying30
  a37 := Tryd.isAgg30
  z37 := Tryd.sizeOf30
  v37 := Tryd.zeroValue30
  t46 := Tryd.underlying100
  a46 := Tryd.isAgg100
  z46 := Tryd.sizeOf100
  v46 := Tryd.zeroValue100
  t51 := Tryd.underlying129
  a51 := Tryd.isAgg129
  z51 := Tryd.sizeOf129
  v51 := Tryd.zeroValue129
  t53 := Tryd.underlying67
  a53 := Tryd.isAgg67
  z53 := Tryd.sizeOf67
  v53 := Tryd.zeroValue67
  t171 := Tryd.underlying114
  a171 := Tryd.isAgg114
  z171 := Tryd.sizeOf114
  v171 := Tryd.zeroValue114
  t173 := Tryd.underlying117
  a173 := Tryd.isAgg117
  z173 := Tryd.sizeOf117
  v173 := Tryd.zeroValue117
  t212 := Tryd.underlying128
  a212 := Tryd.isAgg128
  z212 := Tryd.sizeOf128
  v212 := Tryd.zeroValue128
  t213 := Tryd.underlying130
  a213 := Tryd.isAgg130
  z213 := Tryd.sizeOf130
  t232 := Tryd.underlying134
  a232 := Tryd.isAgg134
  z232 := Tryd.sizeOf134
  v232 := Tryd.zeroValue134
  t233 := Tryd.underlying135
  a233 := Tryd.isAgg135
  z233 := Tryd.sizeOf135
  v233 := Tryd.zeroValue135
  g17 := by kernel_rfl
  g18 := by kernel_rfl
  g19 := by kernel_rfl }
open Go.RowKit Go.Sort Go.Lib in
/-- THE ROAD WITHOUT THE TABLE: 0 <= i < 100: two constants are read, nothing is laid: no premise on the world, and the world is as it was. (LAID: no walk: one application.) -/
theorem Tryd.internal_strconv_FormatInt_10_small (i : Nat) (hi : i < 100) (w : World) :
    Calls Tryd.prog 54 #[.int .i64 i, .int .i64 10] w fun e w' => e = .returned (.string ⟨(Lib.decDigits i).toArray⟩) ∧ w' = w := Any.internal_strconv_FormatInt_10_small Tryd.lays246 i hi w
def Tryd.laysM173_ren : Go.Shelf.Ren := ⟨fun | 173 => 25 | 246 => 54 | 283 => 70 | 284 => 71 | 285 => 72 | 286 => 73 | 129 => 83 | 317 => 82 | 318 => 84 | 319 => 85 | 320 => 86 | 337 => 91 | 338 => 92 | n => n, fun | 2 => 2 | 3 => 3 | 9 => 9 | 4 => 4 | 171 => 114 | 0 => 0 | 53 => 67 | 37 => 30 | 5 => 5 | 173 => 117 | 212 => 128 | 51 => 129 | 20 => 20 | 213 => 130 | 46 => 100 | 232 => 134 | 233 => 135 | n => n, fun | 17 => 0 | 18 => 2 | 19 => 3 | n => n⟩
theorem Tryd.laysM173 : Go.Proofs.LaysM.n173 Tryd.prog Tryd.laysM173_ren := {
  mixed := by kernel_rfl
  f129 := Tryd.func83.trans (congrArg some (by kernel_rfl))
  f173 := Tryd.func25.trans (congrArg some (by kernel_rfl))
  f246 := Tryd.func54.trans (congrArg some (by kernel_rfl))
  f283 := Tryd.func70.trans (congrArg some (by kernel_rfl))
  f284 := Tryd.func71.trans (congrArg some (by kernel_rfl))
  f285 := Tryd.func72.trans (congrArg some (by kernel_rfl))
  f286 := Tryd.func73.trans (congrArg some (by kernel_rfl))
  f317 := Tryd.func82.trans (congrArg some (by kernel_rfl))
  f318 := Tryd.func84.trans (congrArg some (by kernel_rfl))
  f319 := Tryd.func85.trans (congrArg some (by kernel_rfl))
  f320 := Tryd.func86.trans (congrArg some (by kernel_rfl))
  f337 := Tryd.func91.trans (congrArg some (by kernel_rfl))
  f338 := Tryd.func92.trans (congrArg some (by kernel_rfl))
  t0 := Tryd.underlying0
  a0 := Tryd.isAgg0
  z0 := Tryd.sizeOf0
  v0 := Tryd.zeroValue0
  t2 := Tryd.underlying2
  a2 := Tryd.isAgg2
  z2 := Tryd.sizeOf2
  v2 := Tryd.zeroValue2
  t3 := Tryd.underlying3
  a3 := Tryd.isAgg3
  z3 := Tryd.sizeOf3
  v3 := Tryd.zeroValue3
  t4 := Tryd.underlying4
  a4 := Tryd.isAgg4
  z4 := Tryd.sizeOf4
  v4 := Tryd.zeroValue4
  t5 := Tryd.underlying5
  a5 := Tryd.isAgg5
  z5 := Tryd.sizeOf5
  v5 := Tryd.zeroValue5
  t9 := Tryd.underlying9
  a9 := Tryd.isAgg9
  z9 := Tryd.sizeOf9
  v9 := Tryd.zeroValue9
  t20 := Tryd.underlying20
  a20 := Tryd.isAgg20
  z20 := Tryd.sizeOf20
  v20 := Tryd.zeroValue20
  t37 := Tryd.underlying30
  a37 := Tryd.isAgg30
  z37 := Tryd.sizeOf30
  v37 := Tryd.zeroValue30
  t46 := Tryd.underlying100
  a46 := Tryd.isAgg100
  z46 := Tryd.sizeOf100
  v46 := Tryd.zeroValue100
  t51 := Tryd.underlying129
  a51 := Tryd.isAgg129
  z51 := Tryd.sizeOf129
  v51 := Tryd.zeroValue129
  t53 := Tryd.underlying67
  a53 := Tryd.isAgg67
  z53 := Tryd.sizeOf67
  v53 := Tryd.zeroValue67
  t171 := Tryd.underlying114
  a171 := Tryd.isAgg114
  z171 := Tryd.sizeOf114
  v171 := Tryd.zeroValue114
  t173 := Tryd.underlying117
  a173 := Tryd.isAgg117
  z173 := Tryd.sizeOf117
  v173 := Tryd.zeroValue117
  t212 := Tryd.underlying128
  a212 := Tryd.isAgg128
  z212 := Tryd.sizeOf128
  v212 := Tryd.zeroValue128
  t213 := Tryd.underlying130
  a213 := Tryd.isAgg130
  z213 := Tryd.sizeOf130
  t232 := Tryd.underlying134
  a232 := Tryd.isAgg134
  z232 := Tryd.sizeOf134
  v232 := Tryd.zeroValue134
  t233 := Tryd.underlying135
  a233 := Tryd.isAgg135
  z233 := Tryd.sizeOf135
  v233 := Tryd.zeroValue135
  g17 := by kernel_rfl
  g18 := by kernel_rfl
  g19 := by kernel_rfl
  i0 := by kernel_rfl
  i2 := by kernel_rfl
  i3 := by kernel_rfl
  i4 := by kernel_rfl
  i5 := by kernel_rfl
  i9 := by kernel_rfl
  i20 := by kernel_rfl
  i37 := by kernel_rfl
  i46 := by kernel_rfl
  i51 := by kernel_rfl
  i53 := by kernel_rfl
  i171 := by kernel_rfl
  i173 := by kernel_rfl
  i212 := by kernel_rfl
  i232 := by kernel_rfl
  i233 := by kernel_rfl
  m17 := by kernel_rfl
  m18 := by kernel_rfl
  m19 := by kernel_rfl }
open Go.RowKit Go.Sort Go.Lib in
/-- strconv.FormatInt: "FormatInt returns the string representation of i in the given base": AT BASE 10: i's decimal numeral, for every int64. (LAID: no walk: one application.) -/
theorem Tryd.strconv_FormatInt_10 (n : Int) (h0 : -9223372036854775808 ≤ n) (h1 : n ≤ 9223372036854775807) (w : World) (htab : Lib.TabIs Tryd.prog w "internal/strconv.uint64pow10" .u64 Lib.pow10Tab) :
    Calls Tryd.prog 25 #[.int .i64 n, .int .i64 10] w fun e w' => e = .returned (.string ⟨(Lib.itoa n).toArray⟩) ∧ ∃ k os, w' = grow (w.drewN k) os := Any.strconv_FormatInt_10 Tryd.laysM173 n h0 h1 w htab
def Tryd.lays173_ren : Go.Shelf.Ren := ⟨fun | 173 => 25 | 246 => 54 | 283 => 70 | 284 => 71 | 285 => 72 | 286 => 73 | 129 => 83 | 317 => 82 | 318 => 84 | 319 => 85 | 320 => 86 | 337 => 91 | 338 => 92 | n => n, fun | 2 => 2 | 3 => 3 | 9 => 9 | 4 => 4 | 171 => 114 | 0 => 0 | 53 => 67 | 37 => 30 | 5 => 5 | 173 => 117 | 212 => 128 | 51 => 129 | 20 => 20 | 213 => 130 | 46 => 100 | 232 => 134 | 233 => 135 | n => n, fun | 17 => 0 | 18 => 2 | 19 => 3 | n => n⟩
theorem Tryd.lays173 : Go.Proofs.Lays.n173 Tryd.prog Tryd.lays173_ren := {
  mixed := by kernel_rfl
  f129 := Tryd.func83.trans (congrArg some (by kernel_rfl))
  f173 := Tryd.func25.trans (congrArg some (by kernel_rfl))
  f246 := Tryd.func54.trans (congrArg some (by kernel_rfl))
  f283 := Tryd.func70.trans (congrArg some (by kernel_rfl))
  f284 := Tryd.func71.trans (congrArg some (by kernel_rfl))
  f285 := Tryd.func72.trans (congrArg some (by kernel_rfl))
  f286 := Tryd.func73.trans (congrArg some (by kernel_rfl))
  f317 := Tryd.func82.trans (congrArg some (by kernel_rfl))
  f318 := Tryd.func84.trans (congrArg some (by kernel_rfl))
  f319 := Tryd.func85.trans (congrArg some (by kernel_rfl))
  f320 := Tryd.func86.trans (congrArg some (by kernel_rfl))
  f337 := Tryd.func91.trans (congrArg some (by kernel_rfl))
  f338 := Tryd.func92.trans (congrArg some (by kernel_rfl))
  t0 := Tryd.underlying0
  a0 := Tryd.isAgg0
  z0 := Tryd.sizeOf0
  v0 := Tryd.zeroValue0
  t2 := Tryd.underlying2
  a2 := Tryd.isAgg2
  z2 := Tryd.sizeOf2
  v2 := Tryd.zeroValue2
  t3 := Tryd.underlying3
  a3 := Tryd.isAgg3
  z3 := Tryd.sizeOf3
  v3 := Tryd.zeroValue3
  t4 := Tryd.underlying4
  a4 := Tryd.isAgg4
  z4 := Tryd.sizeOf4
  v4 := Tryd.zeroValue4
  t5 := Tryd.underlying5
  a5 := Tryd.isAgg5
  z5 := Tryd.sizeOf5
  v5 := Tryd.zeroValue5
  t9 := Tryd.underlying9
  a9 := Tryd.isAgg9
  z9 := Tryd.sizeOf9
  v9 := Tryd.zeroValue9
  t20 := Tryd.underlying20
  a20 := Tryd.isAgg20
  z20 := Tryd.sizeOf20
  v20 := Tryd.zeroValue20
  t37 := Tryd.underlying30
  a37 := Tryd.isAgg30
  z37 := Tryd.sizeOf30
  v37 := Tryd.zeroValue30
  t46 := Tryd.underlying100
  a46 := Tryd.isAgg100
  z46 := Tryd.sizeOf100
  v46 := Tryd.zeroValue100
  t51 := Tryd.underlying129
  a51 := Tryd.isAgg129
  z51 := Tryd.sizeOf129
  v51 := Tryd.zeroValue129
  t53 := Tryd.underlying67
  a53 := Tryd.isAgg67
  z53 := Tryd.sizeOf67
  v53 := Tryd.zeroValue67
  t171 := Tryd.underlying114
  a171 := Tryd.isAgg114
  z171 := Tryd.sizeOf114
  v171 := Tryd.zeroValue114
  t173 := Tryd.underlying117
  a173 := Tryd.isAgg117
  z173 := Tryd.sizeOf117
  v173 := Tryd.zeroValue117
  t212 := Tryd.underlying128
  a212 := Tryd.isAgg128
  z212 := Tryd.sizeOf128
  v212 := Tryd.zeroValue128
  t213 := Tryd.underlying130
  a213 := Tryd.isAgg130
  z213 := Tryd.sizeOf130
  t232 := Tryd.underlying134
  a232 := Tryd.isAgg134
  z232 := Tryd.sizeOf134
  v232 := Tryd.zeroValue134
  t233 := Tryd.underlying135
  a233 := Tryd.isAgg135
  z233 := Tryd.sizeOf135
  v233 := Tryd.zeroValue135
  g17 := by kernel_rfl
  g18 := by kernel_rfl
  g19 := by kernel_rfl }
open Go.RowKit Go.Sort Go.Lib in
/-- THE ROAD WITHOUT THE TABLE: 0 <= i < 100. (LAID: no walk: one application.) -/
theorem Tryd.strconv_FormatInt_10_small (i : Nat) (hi : i < 100) (w : World) :
    Calls Tryd.prog 25 #[.int .i64 i, .int .i64 10] w fun e w' => e = .returned (.string ⟨(Lib.decDigits i).toArray⟩) ∧ w' = w := Any.strconv_FormatInt_10_small Tryd.lays173 i hi w
def Tryd.lays217_ren : Go.Shelf.Ren := ⟨fun | 217 => 77 | 266 => 87 | n => n, fun | 9 => 9 | 5 => 5 | 3 => 3 | n => n, fun | n => n⟩
theorem Tryd.lays217 : Go.Proofs.Lays.n217 Tryd.prog Tryd.lays217_ren := {
  mixed := by kernel_rfl
  f217 := Tryd.func77.trans (congrArg some (by kernel_rfl))
  f266 := Tryd.func87.trans (congrArg some (by kernel_rfl))
  t3 := Tryd.underlying3
  a3 := Tryd.isAgg3
  z3 := Tryd.sizeOf3
  v3 := Tryd.zeroValue3
  t5 := Tryd.underlying5
  a5 := Tryd.isAgg5
  z5 := Tryd.sizeOf5
  v5 := Tryd.zeroValue5
  t9 := Tryd.underlying9
  a9 := Tryd.isAgg9
  z9 := Tryd.sizeOf9
  v9 := Tryd.zeroValue9 }
open Go.RowKit Go.Lib in
/-- internal/stringslite.IndexByte (what strings.IndexByte calls): IT RETURNS 'Lib.indexByte s c'; the world is as it was. (LAID: no walk: one application.) -/
theorem Tryd.stringslite_IndexByte (s : ByteArray) (c : Int) (w : World) :
    Calls Tryd.prog 77 #[.string s, .int .u8 c] w fun e w' => e = .returned (.int .i64 (Lib.indexByte s.data.toList c.toNat.toUInt8)) ∧ w' = w := Any.stringslite_IndexByte Tryd.lays217 s c w
def Tryd.lays206_ren : Go.Shelf.Ren := ⟨fun | 206 => 88 | n => n, fun | 9 => 9 | 4 => 4 | 3 => 3 | n => n, fun | n => n⟩
theorem Tryd.lays206 : Go.Proofs.Lays.n206 Tryd.prog Tryd.lays206_ren := {
  mixed := by kernel_rfl
  f206 := Tryd.func88.trans (congrArg some (by kernel_rfl))
  t3 := Tryd.underlying3
  a3 := Tryd.isAgg3
  z3 := Tryd.sizeOf3
  v3 := Tryd.zeroValue3
  t4 := Tryd.underlying4
  a4 := Tryd.isAgg4
  z4 := Tryd.sizeOf4
  v4 := Tryd.zeroValue4
  t9 := Tryd.underlying9
  a9 := Tryd.isAgg9
  z9 := Tryd.sizeOf9
  v9 := Tryd.zeroValue9 }
open Go.RowKit Go.Lib in
/-- internal/stringslite.HasPrefix (what strings.HasPrefix calls). (LAID: no walk: one application.) -/
theorem Tryd.stringslite_HasPrefix (s p : ByteArray) (w : World) :
    Calls Tryd.prog 88 #[.string s, .string p] w fun e w' => e = .returned (.bool (Lib.hasPrefix s.data.toList p.data.toList)) ∧ w' = w := Any.stringslite_HasPrefix Tryd.lays206 s p w
def Tryd.lays99_ren : Go.Shelf.Ren := ⟨fun | 99 => 78 | 206 => 88 | n => n, fun | 9 => 9 | 4 => 4 | 3 => 3 | n => n, fun | n => n⟩
theorem Tryd.lays99 : Go.Proofs.Lays.n99 Tryd.prog Tryd.lays99_ren := {
  mixed := by kernel_rfl
  f99 := Tryd.func78.trans (congrArg some (by kernel_rfl))
  f206 := Tryd.func88.trans (congrArg some (by kernel_rfl))
  t3 := Tryd.underlying3
  a3 := Tryd.isAgg3
  z3 := Tryd.sizeOf3
  v3 := Tryd.zeroValue3
  t4 := Tryd.underlying4
  a4 := Tryd.isAgg4
  z4 := Tryd.sizeOf4
  v4 := Tryd.zeroValue4
  t9 := Tryd.underlying9
  a9 := Tryd.isAgg9
  z9 := Tryd.sizeOf9
  v9 := Tryd.zeroValue9 }
open Go.RowKit Go.Lib in
/-- strings.HasPrefix: "HasPrefix reports whether the string s begins with prefix.": IT RETURNS 'Lib.hasPrefix s prefix'; the world is as it was. (LAID: no walk: one application.) -/
theorem Tryd.strings_HasPrefix (s p : ByteArray) (w : World) :
    Calls Tryd.prog 78 #[.string s, .string p] w fun e w' => e = .returned (.bool (Lib.hasPrefix s.data.toList p.data.toList)) ∧ w' = w := Any.strings_HasPrefix Tryd.lays99 s p w
def Tryd.lays207_ren : Go.Shelf.Ren := ⟨fun | 207 => 80 | n => n, fun | 9 => 9 | 4 => 4 | 3 => 3 | n => n, fun | n => n⟩
theorem Tryd.lays207 : Go.Proofs.Lays.n207 Tryd.prog Tryd.lays207_ren := {
  mixed := by kernel_rfl
  f207 := Tryd.func80.trans (congrArg some (by kernel_rfl))
  t3 := Tryd.underlying3
  a3 := Tryd.isAgg3
  z3 := Tryd.sizeOf3
  v3 := Tryd.zeroValue3
  t4 := Tryd.underlying4
  a4 := Tryd.isAgg4
  z4 := Tryd.sizeOf4
  v4 := Tryd.zeroValue4
  t9 := Tryd.underlying9
  a9 := Tryd.isAgg9
  z9 := Tryd.sizeOf9
  v9 := Tryd.zeroValue9 }
open Go.RowKit Go.Lib in
/-- internal/stringslite.HasSuffix (what strings.HasSuffix calls). (LAID: no walk: one application.) -/
theorem Tryd.stringslite_HasSuffix (s p : ByteArray) (w : World) (hs : s.size ≤ 9223372036854775807) :
    Calls Tryd.prog 80 #[.string s, .string p] w fun e w' => e = .returned (.bool (Lib.hasSuffix s.data.toList p.data.toList)) ∧ w' = w := Any.stringslite_HasSuffix Tryd.lays207 s p w hs
def Tryd.lays208_ren : Go.Shelf.Ren := ⟨fun | 208 => 89 | 206 => 88 | n => n, fun | 9 => 9 | 4 => 4 | 3 => 3 | n => n, fun | n => n⟩
theorem Tryd.lays208 : Go.Proofs.Lays.n208 Tryd.prog Tryd.lays208_ren := {
  mixed := by kernel_rfl
  f206 := Tryd.func88.trans (congrArg some (by kernel_rfl))
  f208 := Tryd.func89.trans (congrArg some (by kernel_rfl))
  t3 := Tryd.underlying3
  a3 := Tryd.isAgg3
  z3 := Tryd.sizeOf3
  v3 := Tryd.zeroValue3
  t4 := Tryd.underlying4
  a4 := Tryd.isAgg4
  z4 := Tryd.sizeOf4
  v4 := Tryd.zeroValue4
  t9 := Tryd.underlying9
  a9 := Tryd.isAgg9
  z9 := Tryd.sizeOf9
  v9 := Tryd.zeroValue9 }
open Go.RowKit Go.Lib in
/-- internal/stringslite.TrimPrefix (what strings.TrimPrefix calls). (LAID: no walk: one application.) -/
theorem Tryd.stringslite_TrimPrefix (s p : ByteArray) (w : World) :
    Calls Tryd.prog 89 #[.string s, .string p] w fun e w' => e = .returned (.string ⟨(Lib.trimPrefix s.data.toList p.data.toList).toArray⟩) ∧ w' = w := Any.stringslite_TrimPrefix Tryd.lays208 s p w
def Tryd.lays101_ren : Go.Shelf.Ren := ⟨fun | 101 => 79 | 208 => 89 | 206 => 88 | n => n, fun | 9 => 9 | 4 => 4 | 3 => 3 | n => n, fun | n => n⟩
theorem Tryd.lays101 : Go.Proofs.Lays.n101 Tryd.prog Tryd.lays101_ren := {
  mixed := by kernel_rfl
  f101 := Tryd.func79.trans (congrArg some (by kernel_rfl))
  f206 := Tryd.func88.trans (congrArg some (by kernel_rfl))
  f208 := Tryd.func89.trans (congrArg some (by kernel_rfl))
  t3 := Tryd.underlying3
  a3 := Tryd.isAgg3
  z3 := Tryd.sizeOf3
  v3 := Tryd.zeroValue3
  t4 := Tryd.underlying4
  a4 := Tryd.isAgg4
  z4 := Tryd.sizeOf4
  v4 := Tryd.zeroValue4
  t9 := Tryd.underlying9
  a9 := Tryd.isAgg9
  z9 := Tryd.sizeOf9
  v9 := Tryd.zeroValue9 }
open Go.RowKit Go.Lib in
/-- strings.TrimPrefix: "TrimPrefix returns s without the provided leading prefix string. If s doesn't start with prefix, s is returned unchanged.": IT RETURNS 'Lib.trimPrefix s prefix'; the world is as it was. (LAID: no walk: one application.) -/
theorem Tryd.strings_TrimPrefix (s p : ByteArray) (w : World) :
    Calls Tryd.prog 79 #[.string s, .string p] w fun e w' => e = .returned (.string ⟨(Lib.trimPrefix s.data.toList p.data.toList).toArray⟩) ∧ w' = w := Any.strings_TrimPrefix Tryd.lays101 s p w
def Tryd.lays209_ren : Go.Shelf.Ren := ⟨fun | 209 => 66 | 207 => 80 | n => n, fun | 9 => 9 | 4 => 4 | 3 => 3 | n => n, fun | n => n⟩
theorem Tryd.lays209 : Go.Proofs.Lays.n209 Tryd.prog Tryd.lays209_ren := {
  mixed := by kernel_rfl
  f207 := Tryd.func80.trans (congrArg some (by kernel_rfl))
  f209 := Tryd.func66.trans (congrArg some (by kernel_rfl))
  t3 := Tryd.underlying3
  a3 := Tryd.isAgg3
  z3 := Tryd.sizeOf3
  v3 := Tryd.zeroValue3
  t4 := Tryd.underlying4
  a4 := Tryd.isAgg4
  z4 := Tryd.sizeOf4
  v4 := Tryd.zeroValue4
  t9 := Tryd.underlying9
  a9 := Tryd.isAgg9
  z9 := Tryd.sizeOf9
  v9 := Tryd.zeroValue9 }
open Go.RowKit Go.Lib in
/-- internal/stringslite.TrimSuffix (what strings.TrimSuffix calls). (LAID: no walk: one application.) -/
theorem Tryd.stringslite_TrimSuffix (s p : ByteArray) (w : World) (hs : s.size ≤ 9223372036854775807) :
    Calls Tryd.prog 66 #[.string s, .string p] w fun e w' => e = .returned (.string ⟨(Lib.trimSuffix s.data.toList p.data.toList).toArray⟩) ∧ w' = w := Any.stringslite_TrimSuffix Tryd.lays209 s p w hs
def Tryd.lays102_ren : Go.Shelf.Ren := ⟨fun | 102 => 49 | 209 => 66 | 207 => 80 | n => n, fun | 9 => 9 | 4 => 4 | 3 => 3 | n => n, fun | n => n⟩
theorem Tryd.lays102 : Go.Proofs.Lays.n102 Tryd.prog Tryd.lays102_ren := {
  mixed := by kernel_rfl
  f102 := Tryd.func49.trans (congrArg some (by kernel_rfl))
  f207 := Tryd.func80.trans (congrArg some (by kernel_rfl))
  f209 := Tryd.func66.trans (congrArg some (by kernel_rfl))
  t3 := Tryd.underlying3
  a3 := Tryd.isAgg3
  z3 := Tryd.sizeOf3
  v3 := Tryd.zeroValue3
  t4 := Tryd.underlying4
  a4 := Tryd.isAgg4
  z4 := Tryd.sizeOf4
  v4 := Tryd.zeroValue4
  t9 := Tryd.underlying9
  a9 := Tryd.isAgg9
  z9 := Tryd.sizeOf9
  v9 := Tryd.zeroValue9 }
open Go.RowKit Go.Lib in
/-- strings.TrimSuffix: "TrimSuffix returns s without the provided trailing suffix string. If s doesn't end with suffix, s is returned unchanged.": IT RETURNS 'Lib.trimSuffix s suffix'; the world is as it was. (LAID: no walk: one application.) -/
theorem Tryd.strings_TrimSuffix (s p : ByteArray) (w : World) (hs : s.size ≤ 9223372036854775807) :
    Calls Tryd.prog 49 #[.string s, .string p] w fun e w' => e = .returned (.string ⟨(Lib.trimSuffix s.data.toList p.data.toList).toArray⟩) ∧ w' = w := Any.strings_TrimSuffix Tryd.lays102 s p w hs
end Go.Proofs

/- numbers with a blank ahead of each. -/
set_option linter.all false
namespace Go.Proofs.YtnejcdinieaemaaDoor.Tr
open Go.Shelf Go.RowKit Go.Proofs
/-- how a number is told, as a contract of the function that tells it -/
def Fmt (fmt : Int → List UInt8) (S : Int → Prop) (w0 : World) : Prop :=
  ∀ W, Below w0.heap.size w0 W → ∀ x, S x → Calls Tryd.prog 25 #[.int .i64 x, .int .i64 10] W fun e W' => e = .returned (.string ⟨(fmt x).toArray⟩) ∧ Below W.heap.size W W'
def numL (fmt : Int → List UInt8) : List Int → List UInt8
  | [] => []
  | x :: l => 32 :: fmt x ++ numL fmt l
theorem numL_snoc (fmt : Int → List UInt8) : ∀ (l : List Int) (x : Int), numL fmt (l ++ [x]) = numL fmt l ++ 32 :: fmt x
  | [], x => by simp [numL]
  | y :: l, x => by simp [numL, numL_snoc fmt l x]
theorem numL_len {fmt : Int → List UInt8} : ∀ {l : List Int}, (∀ x ∈ l, (fmt x).length ≤ 20) → (numL fmt l).length ≤ 21 * l.length
  | [], _ => by simp [numL]
  | x :: l, h => by
    have := numL_len (l := l) (fun y hy => h y (List.mem_cons_of_mem _ hy))
    have := h x (List.mem_cons_self ..)
    simp [numL]; omega
theorem own_below {W W' : World} {B e size n : Nat} {v : Value} {xs : List Value} (h : W.ownsRow B e size v n xs) (hb : Below W.heap.size W W') : W'.ownsRow B e size v n xs := by
  obtain ⟨h1, h2⟩ := h
  rcases h2 with ⟨rfl, rfl⟩ | ⟨g, cap, cur, rfl, h3, hg, h4⟩
  · exact ⟨h1, .inl ⟨rfl, rfl⟩⟩
  · exact ⟨h1, .inr ⟨g, cap, cur, rfl, h3, (hb.block g (Array.getElem?_eq_some_iff.1 hg).1).trans hg, h4⟩⟩
theorem at_below {W W' : World} {T e : TypeId} {B b : Nat} {p : Value} {bs : List Value} (h : Lib.BuilderAt T e B b p bs W) (hb : Below W.heap.size W W') : Lib.BuilderAt T e B b p bs W' := by
  obtain ⟨h1, v, hv, ho, hn⟩ := h
  exact ⟨h1, v, (hb.block b (Array.getElem?_eq_some_iff.1 hv).1).trans hv, own_below ho hb, hn⟩
theorem bld_below {W W' : World} {T e : TypeId} {B b : Nat} {bs : List Value} (h : Lib.IsBuilder T e B b bs W) (hb : Below W.heap.size W W') : Lib.IsBuilder T e B b bs W' :=
  h.elim (fun h => .inl (at_below h hb)) (fun h => .inr (at_below h hb))
set_option maxHeartbeats 4000000 in
set_option maxRecDepth 100000 in
theorem numbers_c {fmt : Int → List UInt8} {S : Int → Prop} (a : Option Addr) (bk o c : Nat) (l : List Int) (w : World) (hF : Fmt fmt S w) (hS : ∀ x ∈ l, S x ∧ (fmt x).length ≤ 20)
    (hcells : ∀ (j : Nat) x, l[j]? = some x → w.cell? ⟨bk, o + j, none⟩ = some (.int .i64 x)) (ha : l ≠ [] → a = some ⟨bk, o, none⟩ ∧ bk < w.heap.size) (hN : l.length ≤ 100000) (hcap : l.length ≤ c) :
    Calls Tryd.prog 26 #[.slice a l.length c] w fun e w' => e = .returned (.string ⟨(numL fmt l).toArray⟩) ∧ Below w.heap.size w w' := by
  have e25 : ∀ args w, (callFunc 25 args).run Tryd.prog w = .ok (.enter 25 args) w := enters_of Tryd.func25 (by kernel_rfl) rfl
  have e29 : ∀ args w, (callFunc 29 args).run Tryd.prog w = .ok (.enter 29 args) w := enters_of Tryd.func29 (by kernel_rfl) rfl
  have e30 : ∀ args w, (callFunc 30 args).run Tryd.prog w = .ok (.enter 30 args) w := enters_of Tryd.func30 (by kernel_rfl) rfl
  go_enter Tryd.func26, Tryd.ntmps26
  go_wp2_with fail
  have H0 := Any.hidJ (Lib.fresh_isBuilder 56 5 w)
  have B0 := Any.hidJ ((Below.refl w.heap.size w).alloc (Nat.le_refl _) (.cells #[.pointer none, .slice none 0 0] 56))
  go_loopw [8] (fun i wr => ∃ k : Nat, k ≤ l.length ∧ i = .int .i64 k ∧ Hid (Lib.IsBuilder 56 5 w.heap.size w.heap.size (Lib.byteCells (numL fmt (l.take k))) wr) ∧ Hid (Below w.heap.size w wr)) (fun i _ => l.length - (intOf i).toNat)
  case atStart => exact ⟨0, Nat.zero_le _, rfl, H0, B0⟩
  case round =>
    obtain ⟨k, hk, rfl, HB, HW⟩ := hrel
    by_cases hkn : k < l.length
    · obtain ⟨x, hx⟩ : ∃ x, l[k]? = some x := ⟨l[k], List.getElem?_eq_getElem hkn⟩
      have hxm : x ∈ l := List.mem_of_getElem? hx
      obtain ⟨rfl, hbk⟩ := ha (fun e => by rw [e] at hkn; simp at hkn)
      have hc : wr.cell? ⟨bk, o + k, none⟩ = some (.int .i64 x) := by
        rw [HW.out.cell (p := ⟨bk, o + k, none⟩) hbk]; exact hcells k x hx
      have hBw : w.heap.size ≤ wr.heap.size := HW.out.size
      have hS1 := hS x hxm
      have hlt : (numL fmt (l.take k)).length ≤ 21 * k := by
        have := numL_len (fmt := fmt) (l := l.take k) (fun y hy => (hS y (List.mem_of_mem_take hy)).2)
        simp at this; omega
      have hW2 : ∀ {W : World}, Below wr.heap.size wr W → Below w.heap.size w W := fun hb => HW.out.trans (hb.mono hBw)
      go_wp2_with (first
        | (go_at_call 25; refine (hF wr HW.out x hS1.1).mono ?_; rintro e w1 ⟨rfl, hb1⟩)
        | (go_at_call 29
           refine (Any.Builder_WriteString Tryd.laysB166 Tryd.Builder_ExtraB w.heap.size w.heap.size _ _ w1 (bld_below HB.out hb1) ?hlen (Nat.le_trans hBw hb1.size)).mono ?_
           case hlen => simp [Lib.byteCells, ByteArray.size]; omega
           rintro e w2 ⟨rfl, hA2, hb2⟩))
      have hWn : Below w.heap.size w w2 := (HW.out.trans (hb1.mono hBw)).trans hb2
      have hnext : Lib.byteCells (numL fmt (l.take k)) ++ Lib.strCells ((⟨#[32]⟩ : ByteArray) ++ ⟨(fmt x).toArray⟩) = Lib.byteCells (numL fmt (l.take (k + 1))) := by
        rw [List.take_add_one, hx, Option.toList_some, numL_snoc, Lib.strCells_eq, ← Lib.byteCells_append]
        simp
      rw [hnext] at hA2
      exact ⟨⟨k + 1, by omega, by simp, Any.hidJ (Or.inr hA2), Any.hidJ hWn⟩, by simp [intOf]; omega⟩
    · have hke : k = l.length := by omega
      subst hke
      rw [List.take_length] at HB
      go_wp2_with (first
        | (go_at_call 30; refine (Any.Builder_String_any Tryd.laysB169 Tryd.Builder_ExtraB w.heap.size w.heap.size (numL fmt l) wr HB.out HW.out.size).mono ?_; rintro e w1 ⟨rfl, hb1⟩))
      go_ret
      exact ⟨rfl, HW.out.trans hb1⟩
/-- one digit -/
def dig (x : Int) : List UInt8 := [UInt8.ofNat (48 + x.toNat)]
theorem fmt_small (w : World) : Fmt dig (fun x => 0 ≤ x ∧ x < 10) w := fun W _ x hx => by
  have h := Tryd.strconv_FormatInt_10_small x.toNat (by omega) W
  rw [show ((x.toNat : Nat) : Int) = x by omega, Lib.decDigits_one (by omega)] at h
  refine h.mono ?_
  rintro e w' ⟨rfl, rfl⟩
  exact ⟨rfl, Below.refl _ _⟩
end Go.Proofs.YtnejcdinieaemaaDoor.Tr

/- Numbers, told over the abstract heap. -/
set_option linter.all false
namespace Go.Abs
open Go.RowKit
/-- what leaves all blocks as they were leaves the relation as it was -/
theorem went_below {P : Program} {σ : Sg} {h : List AObj} {w w' : World} (hr : RelH P σ h w) (hf : Full σ h) (hb : Below w.heap.size w w') : Went P σ h w σ h w' := by
  refine ⟨⟨hr.lt, fun b o hd ho hl => ?_, hr.inj, hr.wfo⟩, hf, ⟨hb.os, hb.tape, hb.output, hb.size, fun r h1 _ => hb.block r h1⟩, fun r h => .inl h, fun r h => .inl h⟩
  exact (hr.blk b o hd ho hl).heap_eq (fun hc => hb.block _ (hr.img_lt ⟨b, o, hd, ho, hl, hc, rfl⟩))
/-- a call that gives a text and leaves all as it was -/
theorem ACalls.text {P : Program} {f : FuncId} {args : List AV} {s : ByteArray} (hc : Callable P f) (h : ∀ (σ : Sg) (W : World), Calls P f (denL σ args).toArray W fun e w' => e = .returned (.string s) ∧ Below W.heap.size W w') : ACalls P f args [] (.v (.string s)) [] [] :=
  ⟨hc, fun σ W hf hr hw => (h σ W).mono fun e w' ⟨h1, h2⟩ => ⟨[], rfl, h1, trivial, by rw [Sg.more_nil]; exact went_below hr hf h2⟩⟩
end Go.Abs
namespace Go.Proofs.YtnejcdinieaemaaDoor.Tr
open Go.Abs Go.RowKit
def fS (x : Int) : ByteArray := ⟨(dig x).toArray⟩
def nS (l : List Int) : ByteArray := ⟨(numL dig l).toArray⟩
def smX (x : Int) : Bool := decide (0 ≤ x ∧ x < 10)
def smL (l : List Int) : Bool := decide (l.length ≤ 1000) && l.all smX
theorem g25 (x : Int) (h : smX x = true) : ACalls Tryd.prog 25 [.v (.int .i64 x), .v (.int .i64 10)] [] (.v (.string (fS x))) [] [] :=
  .text ⟨_, rfl, by kernel_rfl, by kernel_rfl⟩ fun σ W => fmt_small W W (Below.refl _ _) x (of_decide_eq_true h)
theorem g26 (w : Bool) (l : List Int) (h : smL l = true) : ACalls Tryd.prog 26 [.sw 0 1] [.ints 0 w .i64 l] (.v (.string (nS l))) [] [] := by
  unfold smL at h
  rw [Bool.and_eq_true, decide_eq_true_eq, List.all_eq_true] at h
  obtain ⟨h1, h2⟩ := h
  have h3 : ∀ x ∈ l, 0 ≤ x ∧ x < 10 := fun x hx => of_decide_eq_true (h2 x hx)
  refine ⟨⟨_, rfl, by kernel_rfl, by kernel_rfl⟩, fun σ W hf hr hw => ?_⟩
  have hd : σ.dom 0 := hw.1.1
  have hb := hr.blk 0 _ hd rfl rfl
  have hlen : (σ.loc 0).len = l.length := hb.len.symm
  have ha : (denL σ [.sw 0 1]).toArray = #[.slice ((σ.loc 0).base 0) l.length ((σ.loc 0).cap)] := by simp [denL, den, hlen]
  rw [ha]
  refine (numbers_c (fmt := dig) (S := fun x => 0 ≤ x ∧ x < 10) _ (σ.at_ 0) (σ.loc 0).off (σ.loc 0).cap l W (fmt_small W) (fun x hx => ⟨h3 x hx, by simp [dig]⟩) (fun j x hx => ?_) (fun hne => ?_) (by omega) (by have := hb.le; omega)).mono fun e w' ⟨q1, q2⟩ => ⟨[], rfl, q1, trivial, by rw [Sg.more_nil]; exact went_below hr hf q2⟩
  · exact blk_cell hr hd (o := .ints 0 w .i64 l) rfl rfl rfl (by simp [denO, hx])
  · have hl : 0 < l.length := List.length_pos_iff.2 hne
    have hc : 0 < (σ.loc 0).cap := by have := hb.le; omega
    have hnil : (σ.loc 0).nil = false := by
      cases hq : (σ.loc 0).nil with
      | false => rfl
      | true => have := hb.nil hq; omega
    exact ⟨by simp [Loc.base, hnil], hr.img_lt ⟨0, _, hd, rfl, rfl, hc, rfl⟩⟩
end Go.Proofs.YtnejcdinieaemaaDoor.Tr

set_option maxRecDepth 100000
set_option linter.all false
set_option maxHeartbeats 4000000
set_option linter.unusedSimpArgs false
set_option linter.unusedVariables false
namespace Go.Proofs.YtnejcdinieaemaaDoor.Tr
open Go.Abs
theorem f31_1  : ACalls Tryd.prog 31 [] [] (AV.agg [AV.v (Value.string (bs [])), AV.v (Value.string (bs [119, 101, 110, 116])), AV.v (Value.string (bs [108, 111, 115, 116])), AV.v (Value.string (bs [116, 111, 108, 100])), AV.v (Value.string (bs [104, 101, 97, 114, 100])), AV.v (Value.string (bs [115, 116, 97, 108, 101])), AV.v (Value.string (bs [103, 111, 110, 101])), AV.v (Value.string (bs [102, 105, 114, 101, 100])), AV.v (Value.string (bs [109, 111, 118, 101, 100]))]) [] [] :=
  ACalls.nb (res := AV.agg [AV.v (Value.string (bs [])), AV.v (Value.string (bs [119, 101, 110, 116])), AV.v (Value.string (bs [108, 111, 115, 116])), AV.v (Value.string (bs [116, 111, 108, 100])), AV.v (Value.string (bs [104, 101, 97, 114, 100])), AV.v (Value.string (bs [115, 116, 97, 108, 101])), AV.v (Value.string (bs [103, 111, 110, 101])), AV.v (Value.string (bs [102, 105, 114, 101, 100])), AV.v (Value.string (bs [109, 111, 118, 101, 100]))]) (.of_out [] [] [] Tryd.func31 (by kernel_rfl) (by kernel_rfl) .nil)
theorem f31 : ACalls Tryd.prog 31 [] [] (AV.agg [AV.v (Value.string (bs [])), AV.v (Value.string (bs [119, 101, 110, 116])), AV.v (Value.string (bs [108, 111, 115, 116])), AV.v (Value.string (bs [116, 111, 108, 100])), AV.v (Value.string (bs [104, 101, 97, 114, 100])), AV.v (Value.string (bs [115, 116, 97, 108, 101])), AV.v (Value.string (bs [103, 111, 110, 101])), AV.v (Value.string (bs [102, 105, 114, 101, 100])), AV.v (Value.string (bs [109, 111, 118, 101, 100]))]) [] [] := (f31_1 )
theorem f11a_1  : ACalls Tryd.prog 11 [AV.v (.int .i64 1)] [] (AV.v (Value.string (bs [119, 101, 110, 116]))) [] [] :=
  ACalls.nb (res := AV.v (Value.string (bs [119, 101, 110, 116]))) (.of_out [Orc.call [] (AV.agg [AV.v (Value.string (bs [])), AV.v (Value.string (bs [119, 101, 110, 116])), AV.v (Value.string (bs [108, 111, 115, 116])), AV.v (Value.string (bs [116, 111, 108, 100])), AV.v (Value.string (bs [104, 101, 97, 114, 100])), AV.v (Value.string (bs [115, 116, 97, 108, 101])), AV.v (Value.string (bs [103, 111, 110, 101])), AV.v (Value.string (bs [102, 105, 114, 101, 100])), AV.v (Value.string (bs [109, 111, 118, 101, 100]))]) [] [], Orc.br false, Orc.br false] [] [ACalls Tryd.prog 31 [] [] (AV.agg [AV.v (Value.string (bs [])), AV.v (Value.string (bs [119, 101, 110, 116])), AV.v (Value.string (bs [108, 111, 115, 116])), AV.v (Value.string (bs [116, 111, 108, 100])), AV.v (Value.string (bs [104, 101, 97, 114, 100])), AV.v (Value.string (bs [115, 116, 97, 108, 101])), AV.v (Value.string (bs [103, 111, 110, 101])), AV.v (Value.string (bs [102, 105, 114, 101, 100])), AV.v (Value.string (bs [109, 111, 118, 101, 100]))]) [] [], isB false false, isB false false, inB 1 9] Tryd.func11 (by kernel_rfl) (by kernel_rfl) (.cons (by apply f31) (.cons (by show _ = _; kernel_rfl) (.cons (by show _ = _; kernel_rfl) (.cons (by first | decide | simp [nz, nn, inB, ltN, leN, eqN, eqZ, inC, zOk, growN, fitN]) .nil)))))
theorem f11a : ACalls Tryd.prog 11 [AV.v (.int .i64 1)] [] (AV.v (Value.string (bs [119, 101, 110, 116]))) [] [] := (f11a_1 )
theorem f8a_1  : ACalls Tryd.prog 8 [AV.agg [AV.v (.int .i64 5), AV.v (.int .i64 1), AV.v (.int .i64 0), AV.v (.int .i64 3), AV.v (.int .i64 1), AV.v (.int .i64 2)]] [] (AV.v (Value.string (bs [53, 32, 119, 101, 110, 116, 32, 48, 32, 51, 32, 49, 32, 50, 10]))) [] [] :=
  ACalls.nb (res := AV.v (Value.string (bs [53, 32, 119, 101, 110, 116, 32, 48, 32, 51, 32, 49, 32, 50, 10]))) (.of_out [Orc.call [] (AV.v (Value.string (bs [119, 101, 110, 116]))) [] [], Orc.br false, Orc.call [] (AV.v (Value.string (bs [53]))) [] [], Orc.call [1] (AV.v (Value.string (bs [32, 48, 32, 51, 32, 49, 32, 50]))) [] []] [] [ACalls Tryd.prog 11 [AV.v (.int .i64 1)] [] (AV.v (Value.string (bs [119, 101, 110, 116]))) [] [], isB false false, Mixed Tryd.prog, ACalls Tryd.prog 25 [AV.v (.int .i64 5), AV.v (.int .i64 10)] [] (AV.v (Value.string (bs [53]))) [] [], sfit (bs [53]) (bs [32]), sfit (bs [53, 32]) (bs [119, 101, 110, 116]), ACalls Tryd.prog 26 [AV.sw 0 1] [AObj.ints 0 true .i64 [0, 3, 1, 2]] (AV.v (Value.string (bs [32, 48, 32, 51, 32, 49, 32, 50]))) [] [], sfit (bs [53, 32, 119, 101, 110, 116]) (bs [32, 48, 32, 51, 32, 49, 32, 50]), sfit (bs [53, 32, 119, 101, 110, 116, 32, 48, 32, 51, 32, 49, 32, 50]) (bs [10])] Tryd.func8 (by kernel_rfl) (by kernel_rfl) (.cons (by apply f11a) (.cons (by show _ = _; kernel_rfl) (.cons (by show _ = _; kernel_rfl) (.cons (by apply g25 <;> (first | (simp [nz, nn, inB, ltN]; done) | decide)) (.cons (by first | decide | simp [nz, nn, inB, ltN, leN, eqN, eqZ, inC, zOk, growN, fitN]) (.cons (by first | decide | simp [nz, nn, inB, ltN, leN, eqN, eqZ, inC, zOk, growN, fitN]) (.cons (by apply g26 <;> (first | (simp [nz, nn, inB, ltN]; done) | decide)) (.cons (by first | decide | simp [nz, nn, inB, ltN, leN, eqN, eqZ, inC, zOk, growN, fitN]) (.cons (by first | decide | simp [nz, nn, inB, ltN, leN, eqN, eqZ, inC, zOk, growN, fitN]) .nil))))))))))
theorem f8a : ACalls Tryd.prog 8 [AV.agg [AV.v (.int .i64 5), AV.v (.int .i64 1), AV.v (.int .i64 0), AV.v (.int .i64 3), AV.v (.int .i64 1), AV.v (.int .i64 2)]] [] (AV.v (Value.string (bs [53, 32, 119, 101, 110, 116, 32, 48, 32, 51, 32, 49, 32, 50, 10]))) [] [] := (f8a_1 )
theorem f13_1  : ACalls Tryd.prog 13 [] [] (AV.v (Value.bool true)) [] [] :=
  ACalls.nb (res := AV.v (Value.bool true)) (.of_out [Orc.call [] (AV.v (Value.string (bs [53, 32, 119, 101, 110, 116, 32, 48, 32, 51, 32, 49, 32, 50, 10]))) [] []] [] [ACalls Tryd.prog 8 [AV.agg [AV.v (.int .i64 5), AV.v (.int .i64 1), AV.v (.int .i64 0), AV.v (.int .i64 3), AV.v (.int .i64 1), AV.v (.int .i64 2)]] [] (AV.v (Value.string (bs [53, 32, 119, 101, 110, 116, 32, 48, 32, 51, 32, 49, 32, 50, 10]))) [] []] Tryd.func13 (by kernel_rfl) (by kernel_rfl) (.cons (by apply f8a) .nil))
theorem f13 : ACalls Tryd.prog 13 [] [] (AV.v (Value.bool true)) [] [] := (f13_1 )
end Go.Proofs.YtnejcdinieaemaaDoor.Tr
