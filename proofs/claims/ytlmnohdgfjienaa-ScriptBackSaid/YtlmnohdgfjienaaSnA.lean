import Derived.Test.YtlmnohdgfjienaaAbsO
import Derived.Laws.BitsLemmas
import Derived.Test.YtlmnohdgfjienaaProg
/- Numbers in groups of seven bits, in plain lists. -/
set_option linter.unusedVariables false
set_option linter.unusedSimpArgs false
namespace Go.Proofs.Ytlmnohdgfjienaa.Code
open Go.Abs
/-- all groups but the last one; the last one -/
def hiN (x : Nat) : List Int := if x < 128 then [] else ((x % 128 + 128 : Nat) : Int) :: hiN (x / 128)
termination_by x
decreasing_by omega
def laN (x : Nat) : Nat := if x < 128 then x else laN (x / 128)
termination_by x
decreasing_by omega
theorem hiN_lt {x : Nat} (h : x < 128) : hiN x = [] := by rw [hiN, if_pos h]
theorem hiN_ge {x : Nat} (h : 128 ≤ x) : hiN x = ((x % 128 + 128 : Nat) : Int) :: hiN (x / 128) := by rw [hiN, if_neg (by omega)]
theorem laN_lt {x : Nat} (h : x < 128) : laN x = x := by rw [laN, if_pos h]
theorem laN_ge {x : Nat} (h : 128 ≤ x) : laN x = laN (x / 128) := by rw [laN, if_neg (by omega)]
theorem laN_128 : ∀ (n x : Nat), x ≤ n → laN x < 128
  | n, x, h => by
    by_cases hx : x < 128
    · rw [laN_lt hx]; exact hx
    · rw [laN_ge (by omega)]
      exact match n, h with
        | 0, h => by omega
        | n + 1, h => laN_128 n (x / 128) (by omega)
theorem hiN_len : ∀ (k x : Nat), x < 128 ^ (k + 1) → (hiN x).length ≤ k
  | k, x, h => by
    by_cases hx : x < 128
    · rw [hiN_lt hx]; simp
    · rw [hiN_ge (by omega)]
      exact match k, h with
        | 0, h => by simp at h; omega
        | k + 1, h => by
          have := hiN_len k (x / 128) (by rw [Nat.pow_succ] at h; omega)
          simp; omega
/-- a number's bytes -/
def vb (x : Int) : List Int := hiN x.toNat ++ [(laN x.toNat : Int)]
def hiX (x : Int) : List Int := hiN x.toNat
def laX (x : Int) : Int := laN x.toNat
def u64B (x : Int) : Bool := decide (0 ≤ x ∧ x < 18446744073709551616)
theorem u64B_iff {x : Int} : u64B x = true ↔ 0 ≤ x ∧ x < 18446744073709551616 := by simp [u64B]
theorem hiX_len {x : Int} (h : u64B x = true) : (hiX x).length ≤ 9 := by
  rw [u64B_iff] at h
  exact hiN_len 9 _ (by omega)
theorem vb_len {x : Int} (h : u64B x = true) : (vb x).length ≤ 10 := by
  have := hiX_len h
  unfold hiX at this; unfold vb; simp; omega
theorem vb_eq (x : Int) : vb x = hiX x ++ [laX x] := rfl
theorem hiX_lt {x : Int} (h : 0 ≤ x ∧ x < 128) : hiX x = [] ∧ laX x = x := by
  unfold hiX laX; rw [hiN_lt (by omega), laN_lt (by omega)]; exact ⟨rfl, by omega⟩
theorem hiX_ge {x : Int} (h : 128 ≤ x) : hiX x = (x % 128 + 128) :: hiX (x / 128) ∧ laX x = laX (x / 128) := by
  unfold hiX laX; rw [hiN_ge (by omega), laN_ge (by omega)]
  obtain ⟨n, rfl⟩ := Int.eq_ofNat_of_zero_le (show 0 ≤ x by omega)
  refine ⟨?_, by congr 2⟩
  congr 1
theorem vb_lt {x : Int} (h : 0 ≤ x ∧ x < 128) : vb x = [x] := by rw [vb_eq, (hiX_lt h).1, (hiX_lt h).2]; rfl
theorem vb_ge {x : Int} (h : 128 ≤ x) : vb x = (x % 128 + 128) :: vb (x / 128) := by rw [vb_eq, vb_eq, (hiX_ge h).1, (hiX_ge h).2]; rfl
theorem laX_in (x : Int) : 0 ≤ laX x ∧ laX x < 128 := by
  have := laN_128 x.toNat x.toNat (Nat.le_refl _)
  unfold laX; omega
-- the words
theorem ishr7 {x : Int} : ishr .u64 x 7 = x / 128 := by
  unfold ishr; simp [IntKind.bits]
theorem or128 : ∀ v : Nat, v < 128 → ior .u8 (v : Int) 128 = ((v + 128 : Nat) : Int) := by decide +kernel
theorem or128' : ∀ v : Nat, v < 256 → 128 ≤ v → ior .u8 (v : Int) 128 = (v : Int) := by decide +kernel
theorem orb {x : Int} (h : 0 ≤ x) : ior .u8 (icv .u8 x) 128 = x % 128 + 128 := by
  unfold icv; rw [w_u8]
  have h1 := Int.emod_nonneg x (b := 256) (by omega)
  have h2 := Int.emod_lt_of_pos x (b := 256) (by omega)
  obtain ⟨v, hv⟩ := Int.eq_ofNat_of_zero_le h1
  rw [hv]
  by_cases h3 : v < 128
  · rw [or128 v h3]; omega
  · rw [or128' v (by omega) (by omega)]; omega
theorem icvl {x : Int} (h : 0 ≤ x ∧ x < 128) : icv .u8 x = x := by unfold icv; rw [w_u8]; omega
end Go.Proofs.Ytlmnohdgfjienaa.Code

/- The words of signed numbers and of groups. -/
namespace Go.Proofs.Ytlmnohdgfjienaa.Code
open Go.Abs
theorem xor0 {a : Int} (h : u64B a = true) : ixor .u64 a 0 = a := by
  rw [u64B_iff] at h
  unfold ixor bits
  have e : (BitVec.ofInt IntKind.u64.bits a).toNat = a.toNat := by
    rw [BitVec.toNat_ofInt]; simp only [IntKind.bits]; omega
  simp only [BitVec.toNat_xor, e]
  rw [show (BitVec.ofInt IntKind.u64.bits 0).toNat = 0 from rfl, Nat.xor_zero]
  rw [w_u64_in (by omega)]; omega
theorem xor1 {a : Int} (h : u64B a = true) : ixor .u64 a 18446744073709551615 = 18446744073709551615 - a := by
  rw [u64B_iff] at h
  unfold ixor bits
  have e : (BitVec.ofInt IntKind.u64.bits a).toNat = a.toNat := by
    rw [BitVec.toNat_ofInt]; simp only [IntKind.bits]; omega
  have e2 : (BitVec.ofInt IntKind.u64.bits a ^^^ BitVec.ofInt IntKind.u64.bits 18446744073709551615) = ~~~ (BitVec.ofInt IntKind.u64.bits a) := by
    rw [show (BitVec.ofInt IntKind.u64.bits 18446744073709551615 : BitVec IntKind.u64.bits) = BitVec.allOnes IntKind.u64.bits from rfl]
    exact BitVec.xor_allOnes
  have e3 : (~~~ (BitVec.ofInt IntKind.u64.bits a)).toNat = 18446744073709551615 - a.toNat := by
    rw [BitVec.toNat_not, e]; rfl
  show IntKind.u64.wrap ((BitVec.ofInt IntKind.u64.bits a ^^^ BitVec.ofInt IntKind.u64.bits 18446744073709551615).toNat : Int) = _
  rw [e2, e3, w_u64_in (by omega)]; omega
theorem xor0i {a : Int} (h : 0 ≤ a ∧ a < 9223372036854775808) : ixor .i64 a 0 = a := by
  unfold ixor bits
  have e : (BitVec.ofInt IntKind.i64.bits a).toNat = a.toNat := by
    rw [BitVec.toNat_ofInt]; simp only [IntKind.bits]; omega
  show IntKind.i64.wrap ((BitVec.ofInt IntKind.i64.bits a ^^^ BitVec.ofInt IntKind.i64.bits 0).toNat : Int) = _
  rw [BitVec.toNat_xor, e, show (BitVec.ofInt IntKind.i64.bits 0).toNat = 0 from rfl, Nat.xor_zero]
  rw [w_i64_in (by omega)]; omega
theorem xor1i {a : Int} (h : 0 ≤ a ∧ a < 9223372036854775808) : ixor .i64 a (-1) = -1 - a := by
  unfold ixor bits
  have e : (BitVec.ofInt IntKind.i64.bits a).toNat = a.toNat := by
    rw [BitVec.toNat_ofInt]; simp only [IntKind.bits]; omega
  have e2 : (BitVec.ofInt IntKind.i64.bits a ^^^ BitVec.ofInt IntKind.i64.bits (-1)) = ~~~ (BitVec.ofInt IntKind.i64.bits a) := by
    rw [show (BitVec.ofInt IntKind.i64.bits (-1) : BitVec IntKind.i64.bits) = BitVec.allOnes IntKind.i64.bits from rfl]
    exact BitVec.xor_allOnes
  have e3 : (~~~ (BitVec.ofInt IntKind.i64.bits a)).toNat = 18446744073709551615 - a.toNat := by
    rw [BitVec.toNat_not, e]; rfl
  show IntKind.i64.wrap ((BitVec.ofInt IntKind.i64.bits a ^^^ BitVec.ofInt IntKind.i64.bits (-1)).toNat : Int) = _
  rw [e2, e3, w_i64]; omega
/-- a signed number again -/
def uz (x : Int) : Int := if x % 2 = 0 then x / 2 else -(x / 2) - 1
theorem uz_code {x : Int} (h : u64B x = true) : ixor .i64 (icv .i64 (ishr .u64 x 1)) (isub .i64 0 (icv .i64 (iand .u64 x 1))) = uz x := by
  rw [u64B_iff] at h
  have e1 : ishr .u64 x 1 = x / 2 := by unfold ishr; simp [IntKind.bits]
  have e2 : iand .u64 x 1 = x % 2 := iand_mask .u64 1 (by decide) x
  rw [e1, e2]
  have e3 : icv .i64 (x / 2) = x / 2 := by unfold icv; rw [w_i64_in (by omega)]
  rw [e3]
  unfold uz
  split
  · rename_i h0; rw [h0, show isub .i64 0 (icv .i64 0) = 0 from rfl, xor0i (by omega)]
  · rw [show x % 2 = 1 by omega, show isub .i64 0 (icv .i64 1) = -1 from rfl, xor1i (by omega)]; omega
/-- a signed number without its sign -/
def zz (x : Int) : Int := if 0 ≤ x then 2 * x else -2 * x - 1
def i64B (x : Int) : Bool := decide (-9223372036854775808 ≤ x ∧ x ≤ 9223372036854775807)
theorem i64B_iff {x : Int} : i64B x = true ↔ -9223372036854775808 ≤ x ∧ x ≤ 9223372036854775807 := by simp [i64B]
theorem zz_u64 {x : Int} (h : i64B x = true) : u64B (zz x) = true := by
  rw [i64B_iff] at h; rw [u64B_iff]; unfold zz; split <;> omega
theorem zz_code {x : Int} (h : i64B x = true) : ixor .u64 (ishl .u64 (icv .u64 x) 1) (icv .u64 (ishr .i64 x 63)) = zz x := by
  rw [i64B_iff] at h
  have e1 : ishl .u64 (icv .u64 x) 1 = 2 * x % 18446744073709551616 := by
    unfold ishl icv; rw [w_u64, w_u64]; simp [IntKind.bits]; omega
  have e2 : ishr .i64 x 63 = if 0 ≤ x then 0 else -1 := by
    unfold ishr; simp [IntKind.bits]; split <;> omega
  rw [e1, e2]
  unfold zz
  split
  · rw [show icv .u64 0 = 0 from rfl, xor0 (by rw [u64B_iff]; omega)]; omega
  · rw [show icv .u64 (-1) = 18446744073709551615 from rfl, xor1 (by rw [u64B_iff]; omega)]; omega
theorem zz_ref {x : Int} (h : i64B x = true) : (bif ile 0 x then imul .u64 2 (icv .u64 x) else iadd .u64 (imul .u64 2 (icv .u64 (isub .i64 0 (iadd .i64 x 1)))) 1) = zz x := by
  rw [i64B_iff] at h
  unfold zz; rw [cond_if]; simp only [ile_d, decide_eq_true_eq]
  split
  · unfold imul icv; rw [w_u64_in (x := x) (by omega), w_u64_in (by omega)]
  · unfold iadd imul icv isub
    rw [w_i64_in (x := x + 1) (by omega), w_i64_in (by omega), w_u64_in (x := 0 - (x + 1)) (by omega), w_u64_in (x := 2 * _) (by omega), w_u64_in (by omega)]; omega
theorem uz_zz {x : Int} : uz (zz x) = x := by unfold uz zz; split <;> split <;> omega
theorem or_add (i : Nat) {x y : Int} (hx : 0 ≤ x) (hxi : x < 2 ^ i) (hx64 : x < 18446744073709551616) (hy : 0 ≤ y) (hyi : y % 2 ^ i = 0) (hy64 : y < 18446744073709551616) : ior .u64 x y = x + y := by
  have hk : ∀ n : Int, 0 ≤ n → n < 2 ^ 64 → IntKind.wrap .u64 n = n := fun n h0 h1 => w_u64_in ⟨h0, by omega⟩
  have h := bits_join .u64 64 (by decide) hk i y x hy hyi (by omega) hx hxi (by omega)
  obtain ⟨a, rfl⟩ := Int.eq_ofNat_of_zero_le hx
  obtain ⟨c, rfl⟩ := Int.eq_ofNat_of_zero_le hy
  unfold ior
  rw [(bits_nat .u64 64 (by decide) hk c a (by omega) (by omega)).2] at h
  rw [(bits_nat .u64 64 (by decide) hk a c (by omega) (by omega)).2, Nat.or_comm, h]
  omega
end Go.Proofs.Ytlmnohdgfjienaa.Code

set_option maxRecDepth 100000

set_option maxHeartbeats 4000000
set_option linter.unusedSimpArgs false
set_option linter.unusedVariables false
namespace Go.Proofs.Ytlmnohdgfjienaa.Code
open Go.Abs Go.Proofs.Ytlmnohdgfjienaa.Code
@[reducible] def kScK0 (m : List Int) (x : Int) := ((appI (subI m 0 m.length) [ior IntKind.u8 (icv IntKind.u8 (getI [x] 0)) 128]).append (hiX (ishr .u64 (getI [x] 0) 7)))
@[reducible] def kScK1 (w : Bool) (m : List Int) (x : Int) := [AObj.ints 0 w IntKind.u8 m, AObj.ints 0 true .u64 [x], AObj.ints 0 true IntKind.u8 (appI (kScK0 m x) [icv IntKind.u8 (laX (ishr .u64 (getI [x] 0) 7))])]
@[reducible] def kScK2 (w : Bool) (m : List Int) (x : Int) := [AObj.ints 0 w IntKind.u8 m, AObj.ints 0 true .u64 [x], AObj.ints 0 true IntKind.u8 (appI (subI m 0 m.length) [icv IntKind.u8 (getI [x] 0)])]
@[reducible] def kScK3 := (AV.v (Value.slice none 0 0))
@[reducible] def kScK4 (m : List Int) (x : Int) := [AObj.ints 0 true IntKind.u8 (m.append (vb (ixor .u64 (ishl .u64 (icv .u64 x) 1) (icv .u64 (ishr .i64 x 63)))))]
theorem f38_1 (w : Bool) (m : List Int)  (s0 : inC 0 (nlen (lenI m)) (nlen (lenI m))) (s1 : inC (nlen (lenI m)) (nlen (lenI m)) (nlen (lenI m))) : ACalls Try.prog 38 [AV.sw 0 1] [AObj.ints 0 w IntKind.u8 m] (AV.sl 0 1 0 0 (subN (nlen (lenI m)) 0) (some (subN (nlen (lenI m)) 0))) [] [] :=
  ACalls.nb (res := AV.sl 0 1 0 0 (subN (nlen (lenI m)) 0) (some (subN (nlen (lenI m)) 0))) (.of_out [] [0] [inC 0 (nlen (lenI m)) (nlen (lenI m)), inC (nlen (lenI m)) (nlen (lenI m)) (nlen (lenI m)), zOk 0 0 (nlen (lenI m)) 0] Try.func38 (by kernel_rfl) (by kernel_rfl) (.cons (s0) (.cons (s1) (.cons (.inl rfl) .nil))))
theorem f38 (w : Bool) (m : List Int) (s0 : inC 0 (nlen (lenI m)) (nlen (lenI m))) (s1 : inC (nlen (lenI m)) (nlen (lenI m)) (nlen (lenI m))) : ACalls Try.prog 38 [AV.sw 0 1] [AObj.ints 0 w IntKind.u8 m] (AV.sl 0 1 0 0 (subN (nlen (lenI m)) 0) (some (subN (nlen (lenI m)) 0))) [] [] := (f38_1 w m s0 s1)
theorem g38 (w : Bool) (m : List Int) : ACalls Try.prog 38 [AV.sw 0 1] [AObj.ints 0 w IntKind.u8 m] (AV.sl 0 1 0 0 m.length (some m.length)) [] [] := by
  have := f38 w m (by unfold inC nlen lenI; omega) (by unfold inC nlen lenI; omega)
  rw [show subN (nlen (lenI m)) 0 = m.length from by unfold subN nlen lenI; omega] at this; exact this
def L15S (w : Bool) (m : List Int) (x6 x10 x11 : Int) (y1 y2 : List Int) : Tm := [some (AV.sw 2 1), none, none, none, some (AV.v (Value.slice none 0 0)), none, some (AV.v (.int .u64 x6)), none, none, some (AV.sw 1 1), some (AV.v (.int .i64 x10)), some (AV.v (.int .i64 x11)), some (AV.b true), none, none, none, some (AV.b true), none, none, none, none, none, none, none, none, none, none, none, none, none, none, none]
def L15H (w : Bool) (m : List Int) (x6 x10 x11 : Int) (y1 y2 : List Int) : List AObj := [AObj.ints 0 w IntKind.u8 m, AObj.ints 0 true .u64 y1, AObj.ints 0 true IntKind.u8 y2]
def L15T (w : Bool) (m : List Int) (o0 o1 o2 : Int) (o3 o4 : List Int) : Tm := [some (AV.sw 2 1), none, none, none, some (AV.v (Value.slice none 0 0)), none, some (AV.v (.int .u64 o0)), none, none, some (AV.sw 1 1), some (AV.v (.int .i64 o1)), some (AV.v (.int .i64 o2)), some (AV.b true), none, none, none, some (AV.b false), none, none, none, none, none, none, none, none, none, none, none, none, none, none, none]
def L15U (w : Bool) (m : List Int) (o0 o1 o2 : Int) (o3 o4 : List Int) : List AObj := [AObj.ints 0 w IntKind.u8 m, AObj.ints 0 true .u64 o3, AObj.ints 0 true IntKind.u8 o4]
theorem L15_1 (w : Bool) (m : List Int) (x6 x10 x11 : Int) (y1 y2 : List Int)  (d0 : (ile 128 x6) = true) (s0 : fitN (addN (lenI y2) (lenI [ior IntKind.u8 (icv IntKind.u8 x6) 128])) 1) {e : AExit} {tm2 : Tm} {h2 : List AObj} (b : ARun Try.prog 2 (.loop (lp Try.f15 1)) (L15S w m  (ishr .u64 x6 7) (x10) (x11) (y1) (appI y2 [ior IntKind.u8 (icv IntKind.u8 x6) 128])) (L15H w m  (ishr .u64 x6 7) (x10) (x11) (y1) (appI y2 [ior IntKind.u8 (icv IntKind.u8 x6) 128])) e tm2 h2) : ARun Try.prog 2 (.loop (lp Try.f15 1)) (L15S w m  x6 x10 x11 y1 y2) (L15H w m  x6 x10 x11 y1 y2) e tm2 h2 :=
  .round [Orc.br true] [0, 4, 6, 9, 10, 11, 12, 16] [0, 1, 4] [isB (ile 128 x6) true, fitN (addN (lenI y2) (lenI [ior IntKind.u8 (icv IntKind.u8 x6) 128])) 1, nn 7] (by kernel_rfl) (.cons d0 (.cons (s0) (.cons (by first | decide | simp [nz, nn, inB, ltN, leN, eqN, eqZ, inC, zOk, growN, fitN]) .nil))) b
theorem L15_2 (w : Bool) (m : List Int) (x6 x10 x11 : Int) (y1 y2 : List Int)  (d0 : (ile 128 x6) = false) : ARun Try.prog 2 (.loop (lp Try.f15 1)) (L15S w m  x6 x10 x11 y1 y2) (L15H w m  x6 x10 x11 y1 y2) (AExit.exit 2) (L15T w m  (x6) (x10) (x11) (y1) (y2)) (L15U w m  (x6) (x10) (x11) (y1) (y2)) :=
  .last [Orc.br false] [0, 4, 6, 9, 10, 11, 12, 16] [0, 1, 2] [isB (ile 128 x6) false] (by kernel_rfl) (.cons d0 .nil)
def L15L (w : Bool) (m : List Int) : Nat → Int → Int → Int → List Int → List Int → Option (Int × Int × Int × List Int × List Int)
  | 0, _, _, _, _, _ => none
  | fuel + 1, x6, x10, x11, y1, y2 => (bif ile 128 x6 then bif decide (fitN (addN (lenI y2) (lenI [ior IntKind.u8 (icv IntKind.u8 x6) 128])) 1) then L15L w m  fuel (ishr .u64 x6 7) (x10) (x11) (y1) (appI y2 [ior IntKind.u8 (icv IntKind.u8 x6) 128]) else none else some (x6, x10, x11, y1, y2))
theorem L15 (w : Bool) (m : List Int) : ∀ (fuel : Nat) (x6 x10 x11 : Int) (y1 y2 : List Int) (o0 o1 o2 : Int) (o3 o4 : List Int) (_ : L15L w m  fuel  x6 x10 x11 y1 y2 = some (o0, o1, o2, o3, o4)), ARun Try.prog 2 (.loop (lp Try.f15 1)) (L15S w m  x6 x10 x11 y1 y2) (L15H w m  x6 x10 x11 y1 y2) (AExit.exit 2) (L15T w m  o0 o1 o2 o3 o4) (L15U w m  o0 o1 o2 o3 o4)
  | 0, _, _, _, _, _, _, _, _, _, _, h => by simp [L15L] at h
  | fuel + 1, x6, x10, x11, y1, y2, o0, o1, o2, o3, o4, h => by
    simp only [L15L] at h
    exact (splitB h (fun d0 h => (chk h (fun s0 h => L15_1 w m  x6 x10 x11 y1 y2 d0 s0 (L15 w m  fuel (ishr .u64 x6 7) (x10) (x11) (y1) (appI y2 [ior IntKind.u8 (icv IntKind.u8 x6) 128]) o0 o1 o2 o3 o4 h)))) (fun d0 h => ((by cases h; exact L15_2 w m  x6 x10 x11 y1 y2 d0))))
theorem l7 (w : Bool) (m : List Int) (x10 x11 : Int) (y1 : List Int) : ∀ (k : Nat) (x : Int) (y2 : List Int), u64B x = true → (hiX x).length = k → y2.length + k ≤ 1000000 →
    L15L w m (k + 1) x x10 x11 y1 y2 = some (laX x, x10, x11, y1, y2 ++ hiX x)
  | k, x, y2, hx, hk, hl => by
    have hx' := u64B_iff.1 hx
    by_cases h : x < 128
    · have := hiX_lt (x := x) (by omega)
      rw [L15L, show ile 128 x = false from by simp only [ile_d, decide_eq_false_iff_not]; omega, this.1, this.2, List.append_nil]; rfl
    · have := hiX_ge (x := x) (by omega)
      rw [this.1] at hk ⊢
      rw [this.2]
      match k, hk, hl with
      | 0, hk, hl => simp at hk
      | k + 1, hk, hl =>
        rw [L15L, show ile 128 x = true from by simp only [ile_d, decide_eq_true_eq]; omega, orb (by omega), ishr7,
          decide_eq_true (show fitN (addN (lenI y2) (lenI [x % 128 + 128])) 1 from by unfold fitN addN lenI; simp only [List.length_singleton]; omega)]
        have ih := l7 w m x10 x11 y1 k (x / 128) (y2 ++ [x % 128 + 128]) (u64B_iff.2 (by omega)) (by simpa using hk) (by simp; omega)
        rw [List.append_assoc] at ih
        exact ih
theorem in7 (w : Bool) (m : List Int) (x x10 x11 : Int) (y1 y2 : List Int) (hx : u64B x = true) (hl : y2.length ≤ 100000) :
    ARun Try.prog 2 (.loop (lp Try.f15 1)) (L15S w m x x10 x11 y1 y2) (L15H w m x x10 x11 y1 y2) (.exit 2) (L15T w m (laX x) x10 x11 y1 (y2 ++ hiX x)) (L15U w m (laX x) x10 x11 y1 (y2 ++ hiX x)) :=
  L15 w m _ x x10 x11 y1 y2 _ _ _ _ _ (l7 w m x10 x11 y1 _ x y2 hx rfl (by have := hiX_len hx; omega))
def f15ar0 (w : Bool) (m : List Int) (x : Int) : List Int := bif ile 128 (getI [x] 0) then appI ((appI (subI m 0 m.length) [ior IntKind.u8 (icv IntKind.u8 (getI [x] 0)) 128]).append (hiX (ishr .u64 (getI [x] 0) 7))) [icv IntKind.u8 (laX (ishr .u64 (getI [x] 0) 7))] else appI (subI m 0 m.length) [icv IntKind.u8 (getI [x] 0)]
theorem f15a_1 (w : Bool) (m : List Int) (x : Int)  (d0 : (ile 128 (getI [x] 0)) = true) (s0 : inB 0 (lenI [x])) (s1 : ltN 0 (lenI [x])) (s2 : ((ile 128 (getI [x] 0)) = true) → leN (Nat.add 0 m.length) (lenI m)) (s3 : ((ile 128 (getI [x] 0)) = true) → growN m.length (addN m.length (lenI [ior IntKind.u8 (icv IntKind.u8 (getI [x] 0)) 128]))) (s4 : ((ile 128 (getI [x] 0)) = true) → fitN (addN m.length (lenI [ior IntKind.u8 (icv IntKind.u8 (getI [x] 0)) 128])) 1) (s5 : ((ile 128 (getI [x] 0)) = true) → u64B (ishr .u64 (getI [x] 0) 7) = true) (s6 : ((ile 128 (getI [x] 0)) = true) → (appI (subI m 0 m.length) [ior IntKind.u8 (icv IntKind.u8 (getI [x] 0)) 128]).length.le 100000) (s7 : ((ile 128 (getI [x] 0)) = true) → fitN (addN (lenI (kScK0 m x)) (lenI [icv IntKind.u8 (laX (ishr .u64 (getI [x] 0) 7))])) 1) : ACalls Try.prog 15 [AV.sw 0 1, AV.sw 1 1] [AObj.ints 0 w IntKind.u8 m, AObj.ints 0 true .u64 [x]] (AV.sw 2 1) [] [AObj.ints 0 true IntKind.u8 (appI (kScK0 m x) [icv IntKind.u8 (laX (ishr .u64 (getI [x] 0) 7))])] :=
  ACalls.nb (res := AV.sw 2 1) (.of_out [Orc.call [0] (AV.sl 0 1 0 0 m.length (some m.length)) [] [], Orc.loop [0, 4, 9, 10, 11] [0, 1] (AExit.exit 0) [some (AV.sw 2 1), none, none, none, some (kScK3), none, none, none, none, none, none, none, none, none, none, none, none, none, none, none, none, none, none, none, none, none, none, none, none, none, none, none] (kScK1 w m x)] [0, 1, 2] [ACalls Try.prog 38 [AV.sw 0 1] [AObj.ints 0 w IntKind.u8 m] (AV.sl 0 1 0 0 m.length (some m.length)) [] [], _] Try.func15 (by kernel_rfl) (by kernel_rfl) (.cons (by apply g38) (.cons (ARun.round (P := Try.prog) (n := 2) (c := lp Try.f15 0) (tm := [some (AV.sl 0 1 0 0 m.length (some m.length)), none, none, none, some (kScK3), none, none, none, none, some (AV.sw 1 1), some (AV.v (.int .i64 (nlen (lenI [x])))), some (AV.v (.int .i64 0)), none, none, none, none, none, none, none, none, none, none, none, none, none, none, none, none, none, none, none, none]) (h := [AObj.ints 0 w IntKind.u8 m, AObj.ints 0 true .u64 [x]]) (tm1 := [some (AV.sw 2 1), none, none, none, some (kScK3), none, none, none, none, some (AV.sw 1 1), some (AV.v (.int .i64 (nlen (lenI [x])))), some (AV.v (.int .i64 1)), none, none, none, none, none, none, none, none, none, none, none, none, none, none, none, none, none, none, none, none]) (h1 := (kScK1 w m x)) [Orc.br true, Orc.peel 1, Orc.br true, Orc.loop [0, 4, 6, 9, 10, 11, 12, 16] [0, 1, 3] (AExit.exit 2) [some (AV.sw 2 1), none, none, none, some (kScK3), none, some (AV.v (.int .u64 (laX (ishr .u64 (getI [x] 0) 7)))), none, none, some (AV.sw 1 1), some (AV.v (.int .i64 (nlen (lenI [x])))), some (AV.v (.int .i64 0)), some (AV.b true), none, none, none, some (AV.b false), none, none, none, none, none, none, none, none, none, none, none, none, none, none, none] [AObj.ints 0 w IntKind.u8 m, AObj.ints 0 true .u64 [x], AObj.ints 0 true IntKind.u8 (kScK0 m x)]] [0, 4, 9, 10, 11] [0, 1, 4] [isB (ilt 0 (nlen (lenI [x]))) true, inB 0 (lenI [x]), ltN 0 (lenI [x]), isB (ile 128 (getI [x] 0)) true, leN (Nat.add 0 m.length) (lenI m), growN m.length (addN m.length (lenI [ior IntKind.u8 (icv IntKind.u8 (getI [x] 0)) 128])), fitN (addN m.length (lenI [ior IntKind.u8 (icv IntKind.u8 (getI [x] 0)) 128])) 1, nn 7, ARun Try.prog 2 (lp Try.f15 1).loop (L15S w m (ishr .u64 (getI [x] 0) 7) (nlen (lenI [x])) 0 [x] (appI (subI m 0 m.length) [ior IntKind.u8 (icv IntKind.u8 (getI [x] 0)) 128])) (L15H w m (ishr .u64 (getI [x] 0) 7) (nlen (lenI [x])) 0 [x] (appI (subI m 0 m.length) [ior IntKind.u8 (icv IntKind.u8 (getI [x] 0)) 128])) (AExit.exit 2) (L15T w m (laX (ishr .u64 (getI [x] 0) 7)) (nlen (lenI [x])) 0 [x] (appI (subI m 0 m.length) [ior IntKind.u8 (icv IntKind.u8 (getI [x] 0)) 128] ++ hiX (ishr .u64 (getI [x] 0) 7))) (L15U w m (laX (ishr .u64 (getI [x] 0) 7)) (nlen (lenI [x])) 0 [x] (appI (subI m 0 m.length) [ior IntKind.u8 (icv IntKind.u8 (getI [x] 0)) 128] ++ hiX (ishr .u64 (getI [x] 0) 7))), fitN (addN (lenI (kScK0 m x)) (lenI [icv IntKind.u8 (laX (ishr .u64 (getI [x] 0) 7))])) 1] (by kernel_rfl) (.cons (by show _ = _; kernel_rfl) (.cons (s0) (.cons (s1) (.cons d0 (.cons (s2 d0) (.cons (s3 d0) (.cons (s4 d0) (.cons (by first | decide | simp [nz, nn, inB, ltN, leN, eqN, eqZ, inC, zOk, growN, fitN]) (.cons (in7 _ _ _ _ _ _ _ (s5 d0) (s6 d0)) (.cons (s7 d0) .nil)))))))))) (ARun.last (id := 0) (P := Try.prog) (n := 2) (c := lp Try.f15 0) (tm := [some (AV.sw 2 1), none, none, none, some (kScK3), none, none, none, none, some (AV.sw 1 1), some (AV.v (.int .i64 (nlen (lenI [x])))), some (AV.v (.int .i64 1)), none, none, none, none, none, none, none, none, none, none, none, none, none, none, none, none, none, none, none, none]) (h := (kScK1 w m x)) (tm1 := [some (AV.sw 2 1), none, none, none, some (kScK3), none, none, none, none, none, none, none, none, none, none, none, none, none, none, none, none, none, none, none, none, none, none, none, none, none, none, none]) (h1 := (kScK1 w m x)) [Orc.br false] [0, 4] [0, 1, 2] [isB (ilt 1 (nlen (lenI [x]))) false] (by kernel_rfl) (.cons (by show _ = _; kernel_rfl) .nil))) .nil)))
theorem f15a_2 (w : Bool) (m : List Int) (x : Int)  (d0 : (ile 128 (getI [x] 0)) = false) (s0 : inB 0 (lenI [x])) (s1 : ltN 0 (lenI [x])) (s8 : ((ile 128 (getI [x] 0)) = false) → leN (Nat.add 0 m.length) (lenI m)) (s9 : ((ile 128 (getI [x] 0)) = false) → growN m.length (addN m.length (lenI [icv IntKind.u8 (getI [x] 0)]))) (s10 : ((ile 128 (getI [x] 0)) = false) → fitN (addN m.length (lenI [icv IntKind.u8 (getI [x] 0)])) 1) : ACalls Try.prog 15 [AV.sw 0 1, AV.sw 1 1] [AObj.ints 0 w IntKind.u8 m, AObj.ints 0 true .u64 [x]] (AV.sw 2 1) [] [AObj.ints 0 true IntKind.u8 (appI (subI m 0 m.length) [icv IntKind.u8 (getI [x] 0)])] :=
  ACalls.nb (res := AV.sw 2 1) (.of_out [Orc.call [0] (AV.sl 0 1 0 0 m.length (some m.length)) [] [], Orc.loop [0, 4, 9, 10, 11] [0, 1] (AExit.exit 0) [some (AV.sw 2 1), none, none, none, some (kScK3), none, none, none, none, none, none, none, none, none, none, none, none, none, none, none, none, none, none, none, none, none, none, none, none, none, none, none] (kScK2 w m x)] [0, 1, 2] [ACalls Try.prog 38 [AV.sw 0 1] [AObj.ints 0 w IntKind.u8 m] (AV.sl 0 1 0 0 m.length (some m.length)) [] [], _] Try.func15 (by kernel_rfl) (by kernel_rfl) (.cons (by apply g38) (.cons (ARun.round (P := Try.prog) (n := 2) (c := lp Try.f15 0) (tm := [some (AV.sl 0 1 0 0 m.length (some m.length)), none, none, none, some (kScK3), none, none, none, none, some (AV.sw 1 1), some (AV.v (.int .i64 (nlen (lenI [x])))), some (AV.v (.int .i64 0)), none, none, none, none, none, none, none, none, none, none, none, none, none, none, none, none, none, none, none, none]) (h := [AObj.ints 0 w IntKind.u8 m, AObj.ints 0 true .u64 [x]]) (tm1 := [some (AV.sw 2 1), none, none, none, some (kScK3), none, none, none, none, some (AV.sw 1 1), some (AV.v (.int .i64 (nlen (lenI [x])))), some (AV.v (.int .i64 1)), none, none, none, none, none, none, none, none, none, none, none, none, none, none, none, none, none, none, none, none]) (h1 := (kScK2 w m x)) [Orc.br true, Orc.peel 1, Orc.br false] [0, 4, 9, 10, 11] [0, 1, 3] [isB (ilt 0 (nlen (lenI [x]))) true, inB 0 (lenI [x]), ltN 0 (lenI [x]), isB (ile 128 (getI [x] 0)) false, leN (Nat.add 0 m.length) (lenI m), growN m.length (addN m.length (lenI [icv IntKind.u8 (getI [x] 0)])), fitN (addN m.length (lenI [icv IntKind.u8 (getI [x] 0)])) 1] (by kernel_rfl) (.cons (by show _ = _; kernel_rfl) (.cons (s0) (.cons (s1) (.cons d0 (.cons (s8 d0) (.cons (s9 d0) (.cons (s10 d0) .nil))))))) (ARun.last (id := 0) (P := Try.prog) (n := 2) (c := lp Try.f15 0) (tm := [some (AV.sw 2 1), none, none, none, some (kScK3), none, none, none, none, some (AV.sw 1 1), some (AV.v (.int .i64 (nlen (lenI [x])))), some (AV.v (.int .i64 1)), none, none, none, none, none, none, none, none, none, none, none, none, none, none, none, none, none, none, none, none]) (h := (kScK2 w m x)) (tm1 := [some (AV.sw 2 1), none, none, none, some (kScK3), none, none, none, none, none, none, none, none, none, none, none, none, none, none, none, none, none, none, none, none, none, none, none, none, none, none, none]) (h1 := (kScK2 w m x)) [Orc.br false] [0, 4] [0, 1, 2] [isB (ilt 1 (nlen (lenI [x]))) false] (by kernel_rfl) (.cons (by show _ = _; kernel_rfl) .nil))) .nil)))
theorem f15a (w : Bool) (m : List Int) (x : Int) (s0 : inB 0 (lenI [x])) (s1 : ltN 0 (lenI [x])) (s2 : ((ile 128 (getI [x] 0)) = true) → leN (Nat.add 0 m.length) (lenI m)) (s3 : ((ile 128 (getI [x] 0)) = true) → growN m.length (addN m.length (lenI [ior IntKind.u8 (icv IntKind.u8 (getI [x] 0)) 128]))) (s4 : ((ile 128 (getI [x] 0)) = true) → fitN (addN m.length (lenI [ior IntKind.u8 (icv IntKind.u8 (getI [x] 0)) 128])) 1) (s5 : ((ile 128 (getI [x] 0)) = true) → u64B (ishr .u64 (getI [x] 0) 7) = true) (s6 : ((ile 128 (getI [x] 0)) = true) → (appI (subI m 0 m.length) [ior IntKind.u8 (icv IntKind.u8 (getI [x] 0)) 128]).length.le 100000) (s7 : ((ile 128 (getI [x] 0)) = true) → fitN (addN (lenI ((appI (subI m 0 m.length) [ior IntKind.u8 (icv IntKind.u8 (getI [x] 0)) 128]).append (hiX (ishr .u64 (getI [x] 0) 7)))) (lenI [icv IntKind.u8 (laX (ishr .u64 (getI [x] 0) 7))])) 1) (s8 : ((ile 128 (getI [x] 0)) = false) → leN (Nat.add 0 m.length) (lenI m)) (s9 : ((ile 128 (getI [x] 0)) = false) → growN m.length (addN m.length (lenI [icv IntKind.u8 (getI [x] 0)]))) (s10 : ((ile 128 (getI [x] 0)) = false) → fitN (addN m.length (lenI [icv IntKind.u8 (getI [x] 0)])) 1) : ACalls Try.prog 15 [AV.sw 0 1, AV.sw 1 1] [AObj.ints 0 w IntKind.u8 m, AObj.ints 0 true .u64 [x]] (AV.sw 2 1) [] [AObj.ints 0 true IntKind.u8 (f15ar0 w m x)] := by
  have h := (ACalls.cond (ile 128 (getI [x] 0)) (fun d0 => (f15a_1 w m x d0 s0 s1 s2 s3 s4 s5 s6 s7)) (fun d0 => (f15a_2 w m x d0 s0 s1 s8 s9 s10)))
  simp only [c_int, c_bool, c_str, c_agg, c_tup, c_fn, c_ifc, c_sl, c_pe, c_ptr, c_rows, c_siter, c_consA, c_consU, c_consO, c_cells, c_ints, c_bools, c_strs, c_same] at h
  exact h
theorem sub_all (m : List Int) : subI m 0 m.length = m := by unfold subI; simp
theorem u7 {x : Int} (h : u64B x = true) : u64B (ishr .u64 x 7) = true := by
  rw [u64B_iff] at h; rw [ishr7, u64B_iff]; omega
theorem app_def (a c : List Int) : a.append c = a ++ c := rfl
theorem one_vb {x : Int} (h : u64B x = true) (p : List Int) : (bif ile 128 x then p ++ [ior .u8 (icv .u8 x) 128] ++ hiX (ishr .u64 x 7) ++ [icv .u8 (laX (ishr .u64 x 7))] else p ++ [icv .u8 x]) = p ++ vb x := by
  rw [u64B_iff] at h
  by_cases h1 : x < 128
  · rw [show ile 128 x = false from by simp only [ile_d, decide_eq_false_iff_not]; omega, vb_lt (by omega), icvl (by omega)]; rfl
  · rw [show ile 128 x = true from by simp only [ile_d, decide_eq_true_eq]; omega, vb_ge (by omega), orb (by omega), ishr7, icvl (laX_in _), vb_eq]
    simp
theorem g15a (w : Bool) (m : List Int) (x : Int) (hx : u64B x = true) (hm : m.length ≤ 50000) : ACalls Try.prog 15 [AV.sw 0 1, AV.sw 1 1] [AObj.ints 0 w IntKind.u8 m, AObj.ints 0 true .u64 [x]] (AV.sw 2 1) [] [AObj.ints 0 true IntKind.u8 (m ++ vb x)] := by
  have hh := hiX_len (u7 hx)
  have e : f15ar0 w m x = m ++ vb x := by
    unfold f15ar0
    simp only [sub_all, appI, app_def, show getI [x] 0 = x from rfl]
    exact one_vb hx m
  rw [← e]
  apply f15a <;> intros <;> (try simp only [sub_all, appI, app_def, show getI [x] 0 = x from rfl]) <;>
    first | exact u7 hx | (simp only [Nat.le_eq, inB, ltN, leN, growN, fitN, addN, lenI, List.length_append, List.length_cons, List.length_nil, Nat.add_eq]; omega)
def f39r0 (w : Bool) (m : List Int) (x : Int) : List Int := m.append (vb (ixor .u64 (ishl .u64 (icv .u64 x) 1) (icv .u64 (ishr .i64 x 63))))
theorem f39_1 (w : Bool) (m : List Int) (x : Int)  (s0 : u64B (ixor .u64 (ishl .u64 (icv .u64 x) 1) (icv .u64 (ishr .i64 x 63))) = true) (s1 : m.length ≤ 50000) : ACalls Try.prog 39 [AV.sw 0 1, AV.v (.int .i64 x)] [AObj.ints 0 w IntKind.u8 m] (AV.sw 1 1) [] (kScK4 m x) :=
  ACalls.nb (res := AV.sw 1 1) (.of_out [Orc.call [0, 1] (AV.sw 2 1) [] (kScK4 m x)] [0, 2] [nn 1, nn 63, ACalls Try.prog 15 [AV.sw 0 1, AV.sw 1 1] [AObj.ints 0 w IntKind.u8 m, AObj.ints 0 true .u64 [ixor .u64 (ishl .u64 (icv .u64 x) 1) (icv .u64 (ishr .i64 x 63))]] (AV.sw 2 1) [] (kScK4 m x)] Try.func39 (by kernel_rfl) (by kernel_rfl) (.cons (by first | decide | simp [nz, nn, inB, ltN, leN, eqN, eqZ, inC, zOk, growN, fitN]) (.cons (by first | decide | simp [nz, nn, inB, ltN, leN, eqN, eqZ, inC, zOk, growN, fitN]) (.cons (by apply g15a <;> (first | exact (s0) | exact (s1))) .nil))))
theorem f39 (w : Bool) (m : List Int) (x : Int) (s0 : u64B (ixor .u64 (ishl .u64 (icv .u64 x) 1) (icv .u64 (ishr .i64 x 63))) = true) (s1 : m.length ≤ 50000) : ACalls Try.prog 39 [AV.sw 0 1, AV.v (.int .i64 x)] [AObj.ints 0 w IntKind.u8 m] (AV.sw 1 1) [] [AObj.ints 0 true IntKind.u8 (f39r0 w m x)] := (f39_1 w m x s0 s1)
theorem g39 (w : Bool) (m : List Int) (x : Int) (hx : i64B x = true) (hm : m.length ≤ 50000) : ACalls Try.prog 39 [AV.sw 0 1, AV.v (.int .i64 x)] [AObj.ints 0 w IntKind.u8 m] (AV.sw 1 1) [] [AObj.ints 0 true IntKind.u8 (m ++ vb (zz x))] := by
  have h := f39 w m x (by rw [zz_code hx]; exact zz_u64 hx) hm
  unfold f39r0 at h; rw [zz_code hx] at h; exact h
def L18S (w : Bool) (m y1 : List Int) (x1 : Int) : Tm := [none, some (AV.v (.int .u64 x1)), none, none, some (AV.v (Value.slice none 0 0)), some (AV.sw 1 1), none, none, none, none, none, none, none, none, none, none, none, none, none, none, none, none, none, none, none]
def L18H (w : Bool) (m y1 : List Int) (x1 : Int) : List AObj := [AObj.ints 0 w IntKind.u8 m, AObj.ints 0 true IntKind.u8 y1]
def L18T (w : Bool) (m : List Int) (o0 : Int) (o1 : List Int) : Tm := [none, some (AV.v (.int .u64 o0)), none, none, some (AV.v (Value.slice none 0 0)), some (AV.sw 1 1), none, none, none, none, none, none, none, none, none, none, none, none, none, none, none, none, none, none, none]
def L18U (w : Bool) (m : List Int) (o0 : Int) (o1 : List Int) : List AObj := [AObj.ints 0 w IntKind.u8 m, AObj.ints 0 true IntKind.u8 o1]
theorem L18_1 (w : Bool) (m y1 : List Int) (x1 : Int)  (d0 : (ilt 127 x1) = true) (s0 : fitN (addN (lenI y1) (lenI [icv IntKind.u8 (iadd .u64 (irem x1 128) 128)])) 1) {e : AExit} {tm2 : Tm} {h2 : List AObj} (b : ARun Try.prog 1 (.loop (lp Try.f18 0)) (L18S w m  (appI y1 [icv IntKind.u8 (iadd .u64 (irem x1 128) 128)]) (iquo .u64 x1 128)) (L18H w m  (appI y1 [icv IntKind.u8 (iadd .u64 (irem x1 128) 128)]) (iquo .u64 x1 128)) e tm2 h2) : ARun Try.prog 1 (.loop (lp Try.f18 0)) (L18S w m  y1 x1) (L18H w m  y1 x1) e tm2 h2 :=
  .round [Orc.br true] [1, 4, 5] [0, 3] [isB (ilt 127 x1) true, nz 128, fitN (addN (lenI y1) (lenI [icv IntKind.u8 (iadd .u64 (irem x1 128) 128)])) 1, nz 128] (by kernel_rfl) (.cons d0 (.cons (by first | decide | simp [nz, nn, inB, ltN, leN, eqN, eqZ, inC, zOk, growN, fitN]) (.cons (s0) (.cons (by first | decide | simp [nz, nn, inB, ltN, leN, eqN, eqZ, inC, zOk, growN, fitN]) .nil)))) b
theorem L18_2 (w : Bool) (m y1 : List Int) (x1 : Int)  (d0 : (ilt 127 x1) = false) : ARun Try.prog 1 (.loop (lp Try.f18 0)) (L18S w m  y1 x1) (L18H w m  y1 x1) (AExit.exit 0) (L18T w m  (x1) (y1)) (L18U w m  (x1) (y1)) :=
  .last [Orc.br false] [1, 4, 5] [0, 1] [isB (ilt 127 x1) false] (by kernel_rfl) (.cons d0 .nil)
def L18L (w : Bool) (m : List Int) : Nat → List Int → Int → Option (Int × List Int)
  | 0, _, _ => none
  | fuel + 1, y1, x1 => (bif ilt 127 x1 then bif decide (fitN (addN (lenI y1) (lenI [icv IntKind.u8 (iadd .u64 (irem x1 128) 128)])) 1) then L18L w m  fuel (appI y1 [icv IntKind.u8 (iadd .u64 (irem x1 128) 128)]) (iquo .u64 x1 128) else none else some (x1, y1))
theorem L18 (w : Bool) (m : List Int) : ∀ (fuel : Nat) (y1 : List Int) (x1 o0 : Int) (o1 : List Int) (_ : L18L w m  fuel  y1 x1 = some (o0, o1)), ARun Try.prog 1 (.loop (lp Try.f18 0)) (L18S w m  y1 x1) (L18H w m  y1 x1) (AExit.exit 0) (L18T w m  o0 o1) (L18U w m  o0 o1)
  | 0, _, _, _, _, h => by simp [L18L] at h
  | fuel + 1, y1, x1, o0, o1, h => by
    simp only [L18L] at h
    exact (splitB h (fun d0 h => (chk h (fun s0 h => L18_1 w m  y1 x1 d0 s0 (L18 w m  fuel (appI y1 [icv IntKind.u8 (iadd .u64 (irem x1 128) 128)]) (iquo .u64 x1 128) o0 o1 h)))) (fun d0 h => ((by cases h; exact L18_2 w m  y1 x1 d0))))
theorem f18_1 (w : Bool) (m : List Int) (x : Int) (v0f : Nat) (v0o0 : Int) (v0o1 : List Int)  (v0h0 : L18L w m v0f (appI [] m) x = some (v0o0, v0o1)) (s0 : fitN (addN 0 (lenI m)) 1) (s1 : fitN (addN (lenI v0o1) (lenI [icv IntKind.u8 v0o0])) 1) : ACalls Try.prog 18 [AV.sw 0 1, AV.v (.int .u64 x)] [AObj.ints 0 w IntKind.u8 m] (AV.sw 1 1) [] [AObj.ints 0 true IntKind.u8 (appI v0o1 [icv IntKind.u8 v0o0])] :=
  ACalls.nb (res := AV.sw 1 1) (.of_out [Orc.loop [1, 4, 5] [0, 2] (AExit.exit 0) [none, some (AV.v (.int .u64 v0o0)), none, none, some (kScK3), some (AV.sw 1 1), none, none, none, none, none, none, none, none, none, none, none, none, none, none, none, none, none, none, none] [AObj.ints 0 w IntKind.u8 m, AObj.ints 0 true IntKind.u8 v0o1]] [0, 3] [fitN (addN 0 (lenI m)) 1, _, fitN (addN (lenI v0o1) (lenI [icv IntKind.u8 v0o0])) 1] Try.func18 (by kernel_rfl) (by kernel_rfl) (.cons (s0) (.cons (L18 _ _ _ _ _ _ _ (v0h0)) (.cons (s1) .nil))))
theorem f18 (w : Bool) (m : List Int) (x : Int) (v0f : Nat) (v0o0 : Int) (v0o1 : List Int) (v0h0 : L18L w m v0f (appI [] m) x = some (v0o0, v0o1)) (s0 : fitN (addN 0 (lenI m)) 1) (s1 : fitN (addN (lenI v0o1) (lenI [icv IntKind.u8 v0o0])) 1) : ACalls Try.prog 18 [AV.sw 0 1, AV.v (.int .u64 x)] [AObj.ints 0 w IntKind.u8 m] (AV.sw 1 1) [] [AObj.ints 0 true IntKind.u8 (appI v0o1 [icv IntKind.u8 v0o0])] := (f18_1 w m x v0f v0o0 v0o1 v0h0 s0 s1)
theorem l8 (w : Bool) (m : List Int) : ∀ (k : Nat) (x : Int) (y : List Int), u64B x = true → (hiX x).length = k → y.length + k ≤ 1000000 →
    L18L w m (k + 1) y x = some (laX x, y ++ hiX x)
  | k, x, y, hx, hk, hl => by
    have hx' := u64B_iff.1 hx
    by_cases h : x < 128
    · have := hiX_lt (x := x) (by omega)
      rw [L18L, show ilt 127 x = false from by simp only [ilt_d, decide_eq_false_iff_not]; omega, this.1, this.2, List.append_nil]; rfl
    · have := hiX_ge (x := x) (by omega)
      rw [this.1] at hk ⊢
      rw [this.2]
      match k, hk, hl with
      | 0, hk, hl => simp at hk
      | k + 1, hk, hl =>
        have e1 : icv .u8 (iadd .u64 (irem x 128) 128) = x % 128 + 128 := by
          unfold icv iadd irem; rw [Int.tmod_eq_emod_of_nonneg (by omega), w_u64_in (by omega), w_u8]; omega
        have e2 : iquo .u64 x 128 = x / 128 := by
          unfold iquo; rw [Int.tdiv_eq_ediv_of_nonneg (by omega), w_u64_in (by omega)]
        rw [L18L, show ilt 127 x = true from by simp only [ilt_d, decide_eq_true_eq]; omega, e1, e2,
          decide_eq_true (show fitN (addN (lenI y) (lenI [x % 128 + 128])) 1 from by unfold fitN addN lenI; simp only [List.length_singleton]; omega)]
        have ih := l8 w m k (x / 128) (y ++ [x % 128 + 128]) (u64B_iff.2 (by omega)) (by simpa using hk) (by simp; omega)
        rw [List.append_assoc] at ih
        exact ih
theorem g18 (w : Bool) (m : List Int) (x : Int) (hx : u64B x = true) (hm : m.length ≤ 50000) : ACalls Try.prog 18 [AV.sw 0 1, AV.v (.int .u64 x)] [AObj.ints 0 w IntKind.u8 m] (AV.sw 1 1) [] [AObj.ints 0 true IntKind.u8 (m ++ vb x)] := by
  have hh := hiX_len hx
  have h := f18 w m x ((hiX x).length + 1) (laX x) (m ++ hiX x) (l8 w m _ x m hx rfl (by omega)) (by unfold fitN addN lenI; omega) (by unfold fitN addN lenI; simp only [List.length_append, List.length_singleton]; omega)
  rw [icvl (laX_in x)] at h
  simpa only [appI, List.append_assoc, ← vb_eq] using h
def f41r0 (x : Int) : Int := bif ile 0 x then imul .u64 2 (icv .u64 x) else iadd .u64 (imul .u64 2 (icv .u64 (isub .i64 0 (iadd .i64 x 1)))) 1
theorem f41_1 (x : Int)  (d0 : (ile 0 x) = true) : ACalls Try.prog 41 [AV.v (.int .i64 x)] [] (AV.v (.int .u64 (imul .u64 2 (icv .u64 x)))) [] [] :=
  ACalls.nb (res := AV.v (.int .u64 (imul .u64 2 (icv .u64 x)))) (.of_out [Orc.br true] [] [isB (ile 0 x) true] Try.func41 (by kernel_rfl) (by kernel_rfl) (.cons d0 .nil))
theorem f41_2 (x : Int)  (d0 : (ile 0 x) = false) : ACalls Try.prog 41 [AV.v (.int .i64 x)] [] (AV.v (.int .u64 (iadd .u64 (imul .u64 2 (icv .u64 (isub .i64 0 (iadd .i64 x 1)))) 1))) [] [] :=
  ACalls.nb (res := AV.v (.int .u64 (iadd .u64 (imul .u64 2 (icv .u64 (isub .i64 0 (iadd .i64 x 1)))) 1))) (.of_out [Orc.br false] [] [isB (ile 0 x) false] Try.func41 (by kernel_rfl) (by kernel_rfl) (.cons d0 .nil))
theorem f41 (x : Int) : ACalls Try.prog 41 [AV.v (.int .i64 x)] [] (AV.v (.int .u64 (f41r0 x))) [] [] := by
  have h := (ACalls.cond (ile 0 x) (fun d0 => (f41_1 x d0)) (fun d0 => (f41_2 x d0)))
  simp only [c_int, c_bool, c_str, c_agg, c_tup, c_fn, c_ifc, c_sl, c_pe, c_ptr, c_rows, c_siter, c_consA, c_consU, c_consO, c_cells, c_ints, c_bools, c_strs, c_same] at h
  exact h
theorem g41 (x : Int) (hx : i64B x = true) : ACalls Try.prog 41 [AV.v (.int .i64 x)] [] (AV.v (.int .u64 (zz x))) [] [] := by
  have h := f41 x
  rw [show f41r0 x = zz x from zz_ref hx] at h; exact h
end Go.Proofs.Ytlmnohdgfjienaa.Code

/- A number out of bytes, in plain lists. -/
set_option linter.unusedVariables false
set_option linter.unusedSimpArgs false
namespace Go.Proofs.Ytlmnohdgfjienaa.Code
open Go.Abs
/-- the number, how many bytes it takes, the error -/
def numG : List Int → Nat → Int → Int × Int × Int
  | [], _, _ => (0, 0, 3)
  | c :: s, i, x => if i = 9 ∧ 1 < c then (0, 0, 5) else if 128 ≤ c then numG s (i + 1) (x + c % 128 * 128 ^ i) else if c = 0 ∧ 0 < i then (0, 0, 5) else (x + c * 128 ^ i, i + 1, 0)
def byB (m : List Int) : Bool := m.all fun c => decide (0 ≤ c ∧ c ≤ 255)
theorem byB_iff {m : List Int} : byB m = true ↔ ∀ c ∈ m, 0 ≤ c ∧ c ≤ 255 := by simp [byB]
theorem ten {i : Nat} (h : i ≤ 9) : i = 0 ∨ i = 1 ∨ i = 2 ∨ i = 3 ∨ i = 4 ∨ i = 5 ∨ i = 6 ∨ i = 7 ∨ i = 8 ∨ i = 9 := by omega
theorem p7 (i : Nat) : (128 : Int) ^ i = 2 ^ (7 * i) := by rw [Int.pow_mul]; rfl
/-- the next group -/
theorem grp {x c : Int} {i : Nat} (hi : i ≤ 9) (hx : 0 ≤ x ∧ x < 128 ^ i) (hc : 0 ≤ c ∧ c < 128) (h9 : i = 9 → c ≤ 1) :
    0 ≤ c * 128 ^ i ∧ c * 128 ^ i < 18446744073709551616 ∧ x + c * 128 ^ i < 128 ^ (i + 1) ∧ 0 ≤ x + c * 128 ^ i ∧ x + c * 128 ^ i < 18446744073709551616 ∧ x < 18446744073709551616 := by
  rcases ten hi with rfl | rfl | rfl | rfl | rfl | rfl | rfl | rfl | rfl | rfl <;> simp at * <;> omega
theorem orG {x c : Int} {i : Nat} (hi : i ≤ 9) (hx : 0 ≤ x ∧ x < 128 ^ i) (hc : 0 ≤ c ∧ c < 128) (h9 : i = 9 → c ≤ 1) :
    ior .u64 x (ishl .u64 (icv .u64 c) (imul .i64 7 i)) = x + c * 128 ^ i := by
  have g := grp hi hx hc h9
  have e : ishl .u64 (icv .u64 c) (imul .i64 7 i) = c * 128 ^ i := by
    unfold ishl icv imul
    rw [w_u64_in (x := c) (by omega), w_i64_in (by omega), show min (7 * (i : Int)).toNat IntKind.u64.bits = 7 * i from by simp [IntKind.bits]; omega, ← p7, w_u64_in (by omega)]
  rw [e]
  refine or_add (7 * i) hx.1 (by rw [← p7]; exact hx.2) g.2.2.2.2.2 g.1 ?_ g.2.1
  rw [← p7, Int.mul_emod_left]
theorem and127 {c : Int} (hc : 0 ≤ c ∧ c ≤ 255) : iand .u8 c 127 = c % 128 := iand_mask .u8 7 (by decide) c
/-- what is known of it -/
theorem numG_spec : ∀ (s : List Int) (i : Nat) (x : Int), byB s = true → i ≤ 9 → 0 ≤ x ∧ x < 128 ^ i →
    ((numG s i x).2.2 = 0 ∨ (numG s i x).2.2 = 3 ∨ (numG s i x).2.2 = 5) ∧ 0 ≤ (numG s i x).1 ∧ (numG s i x).1 < 18446744073709551616 ∧
      ((numG s i x).2.2 = 0 → (i : Int) + 1 ≤ (numG s i x).2.1 ∧ (numG s i x).2.1 ≤ i + s.length) ∧ ((numG s i x).2.2 ≠ 0 → (numG s i x).1 = 0)
  | [], i, x, hs, hi, hx => by simp [numG]
  | c :: s, i, x, hs, hi, hx => by
    rw [byB_iff] at hs
    have hc := hs c (by simp)
    rw [numG]
    by_cases h1 : i = 9 ∧ 1 < c
    · rw [if_pos h1]; simp
    rw [if_neg h1]
    by_cases h2 : 128 ≤ c
    · rw [if_pos h2]
      have g := grp (c := c % 128) hi hx (by omega) (by omega)
      have := numG_spec s (i + 1) _ (byB_iff.2 fun d hd => hs d (by simp [hd])) (by omega) ⟨g.2.2.2.1, g.2.2.1⟩
      refine ⟨this.1, this.2.1, this.2.2.1, fun h => ?_, this.2.2.2.2⟩
      have := this.2.2.2.1 h
      simp only [List.length_cons]; omega
    rw [if_neg h2]
    by_cases h3 : c = 0 ∧ 0 < i
    · rw [if_pos h3]; simp
    rw [if_neg h3]
    have g := grp (c := c) hi hx (by omega) (by omega)
    exact ⟨.inl rfl, g.2.2.2.1, g.2.2.2.2.1, fun _ => by simp only [List.length_cons]; omega, fun h => absurd rfl h⟩
end Go.Proofs.Ytlmnohdgfjienaa.Code

set_option maxRecDepth 100000

set_option maxHeartbeats 4000000
set_option linter.unusedSimpArgs false
set_option linter.unusedVariables false
namespace Go.Proofs.Ytlmnohdgfjienaa.Code
open Go.Abs Go.Proofs.Ytlmnohdgfjienaa.Code
@[reducible] def kScL0 (a : Int) (r : Int) (m : List Int) := [AObj.cells 0 true [AV.sw 1 1, AV.v (.int .i64 a), AV.v (.int .i64 r)], AObj.ints 0 false IntKind.u8 m]
@[reducible] def kScL1 (x4 : Int) (y2 : List Int) (x26 : Int) := (ior .u64 x4 (ishl .u64 (icv .u64 (getI y2 (idxN 0 x26))) (imul .i64 7 x26)))
@[reducible] def kScL2 (y2 : List Int) (x26 : Int) := (ile 128 (getI y2 (idxN 0 x26)))
@[reducible] def kScL3 (x4 : Int) (y2 : List Int) (x26 : Int) := (ior .u64 x4 (ishl .u64 (icv .u64 (iand IntKind.u8 (getI y2 (idxN 0 x26)) 127)) (imul .i64 7 x26)))
theorem c27s_1 (w : Bool) (l : List Int)  (s0 : fitN (addN 0 (lenI l)) 1) : ACalls Try.prog 43 [AV.sn 0 1] [AObj.ints 0 w IntKind.u8 l] (AV.sw 1 1) [] [AObj.ints 0 true IntKind.u8 (appI [] l)] :=
  ACalls.nb (res := AV.sw 1 1) (.of_out [] [0, 2] [fitN (addN 0 (lenI l)) 1] Try.func43 (by kernel_rfl) (by kernel_rfl) (.cons (s0) .nil))
theorem c27s (w : Bool) (l : List Int) (s0 : fitN (addN 0 (lenI l)) 1) : ACalls Try.prog 43 [AV.sn 0 1] [AObj.ints 0 w IntKind.u8 l] (AV.sw 1 1) [] [AObj.ints 0 true IntKind.u8 (appI [] l)] := (c27s_1 w l s0)
theorem c27n (w : Bool) (l : List Int) : ACalls Try.prog 43 [.v (.slice none 0 0)] [.ints 0 w .u8 l] (.sw 1 1) [] [.ints 0 true .u8 []] :=
  .of_out [.fin (.nil 2 1 (.ints 0 true .u8 []))] [0, 1] [] Try.func43 (by kernel_rfl) (by kernel_rfl) .nil
theorem f43 (w : Bool) (l : List Int) (h : fitN (lenI l) 1) : ACalls Try.prog 43 [.sw 0 1] [.ints 0 w .u8 l] (.sw 1 1) [] [.ints 0 true .u8 l] :=
  .nilq (pre := []) (post := []) (o := .ints 0 w .u8 l) rfl rfl (fun h0 => by
    have : l = [] := List.length_eq_zero_iff.1 h0
    subst this; exact c27n w []) (by
    have := c27s w l (by unfold fitN addN lenI at *; simpa using h)
    simpa [appI] using this)
theorem f22_1 (w : Bool) (l : List Int)  (s0 : fitN (lenI l) 1) : ACalls Try.prog 22 [AV.sw 0 1] [AObj.ints 0 w IntKind.u8 l] (AV.ptr 1 0) [] [AObj.cells 0 true [AV.sw 2 1, AV.v (.int .i64 0), AV.v (.int .i64 0)], AObj.ints 0 false IntKind.u8 l] :=
  ACalls.nb (res := AV.ptr 1 0) (.of_out [Orc.call [0] (AV.sw 1 1) [] [AObj.ints 0 true IntKind.u8 l], Orc.fin (Gh.freeze 1)] [0, 2, 1] [ACalls Try.prog 43 [AV.sw 0 1] [AObj.ints 0 w IntKind.u8 l] (AV.sw 1 1) [] [AObj.ints 0 true IntKind.u8 l]] Try.func22 (by kernel_rfl) (by kernel_rfl) (.cons (by apply f43 <;> (first | exact (s0))) .nil))
theorem f22 (w : Bool) (l : List Int) (s0 : fitN (lenI l) 1) : ACalls Try.prog 22 [AV.sw 0 1] [AObj.ints 0 w IntKind.u8 l] (AV.ptr 1 0) [] [AObj.cells 0 true [AV.sw 2 1, AV.v (.int .i64 0), AV.v (.int .i64 0)], AObj.ints 0 false IntKind.u8 l] := (f22_1 w l s0)
theorem f57_1 (m : List Int) (a r x : Int)  (d0 : (ieq r 0) = true) : ACalls Try.prog 57 [AV.ptr 0 0, AV.v (.int .i64 x)] (kScL0 a r m) (AV.v (.int .u64 0)) [(0, AObj.cells 0 true [AV.sw 1 1, AV.v (.int .i64 a), AV.v (.int .i64 x)])] [] :=
  ACalls.nb (res := AV.v (.int .u64 0)) (.of_out [Orc.br true] [0, 1] [isB (ieq r 0) true] Try.func57 (by kernel_rfl) (by kernel_rfl) (.cons d0 .nil))
theorem f57_2 (m : List Int) (a r x : Int)  (d0 : (ieq r 0) = false) : ACalls Try.prog 57 [AV.ptr 0 0, AV.v (.int .i64 x)] (kScL0 a r m) (AV.v (.int .u64 0)) [(0, AObj.cells 0 true [AV.sw 1 1, AV.v (.int .i64 a), AV.v (.int .i64 r)])] [] :=
  ACalls.nb (res := AV.v (.int .u64 0)) (.of_out [Orc.br false] [0, 1] [isB (ieq r 0) false] Try.func57 (by kernel_rfl) (by kernel_rfl) (.cons d0 .nil))
theorem f57 (m : List Int) (a r x : Int) : ACalls Try.prog 57 [AV.ptr 0 0, AV.v (.int .i64 x)] [AObj.cells 0 true [AV.sw 1 1, AV.v (.int .i64 a), AV.v (.int .i64 r)], AObj.ints 0 false IntKind.u8 m] (AV.v (.int .u64 0)) [(0, AObj.cells 0 true [AV.sw 1 1, AV.v (.int .i64 a), AV.v (.int .i64 (bif ieq r 0 then x else r))])] [] := by
  have h := (ACalls.cond (ieq r 0) (fun d0 => (f57_1 m a r x d0)) (fun d0 => (f57_2 m a r x d0)))
  simp only [c_int, c_bool, c_str, c_agg, c_tup, c_fn, c_ifc, c_sl, c_pe, c_ptr, c_rows, c_siter, c_consA, c_consU, c_consO, c_cells, c_ints, c_bools, c_strs, c_same] at h
  exact h
def L56S (m : List Int) (a r x25 : Int) (y2 : List Int) (x4 x26 : Int) : Tm := [some (AV.ptr 0 0), none, some (AV.v (.int .u64 0)), some (AV.v (.int .i64 0)), some (AV.v (.int .u64 x4)), none, none, none, none, none, none, none, none, none, none, none, none, none, none, none, none, none, none, none, some (AV.sw 2 1), some (AV.v (.int .i64 x25)), some (AV.v (.int .i64 x26)), none, none, none, none, none, none, none, none, none, none, none, none, none, none, none, none, none, none, none, none, none, none, none, none, none, none, none, none, none, none, none, none, none, none, none, none, none, none, none, none, none, none, none, none, none, none, none, none, none, none]
def L56H (m : List Int) (a r x25 : Int) (y2 : List Int) (x4 x26 : Int) : List AObj := [AObj.cells 0 true [AV.sw 1 1, AV.v (.int .i64 a), AV.v (.int .i64 r)], AObj.ints 0 false IntKind.u8 m, AObj.ints 0 false IntKind.u8 y2]
def L56T0 (m : List Int) (a r o0 o1 o2 : Int) : Tm := [some (AV.ptr 0 0), none, some (AV.v (.int .u64 o0)), some (AV.v (.int .i64 o1)), none, none, none, none, none, none, none, none, none, none, none, none, none, none, none, none, none, none, none, none, none, none, none, none, none, none, none, none, none, none, none, none, none, none, none, none, none, none, none, none, none, none, none, none, none, none, none, none, none, none, none, none, none, none, none, none, none, none, none, none, none, none, none, none, none, none, none, none, none, none, none, none, none]
def L56U0 (m : List Int) (a r o0 o1 o2 : Int) : List AObj := [AObj.cells 0 true [AV.sw 1 1, AV.v (.int .i64 a), AV.v (.int .i64 o2)], AObj.ints 0 false IntKind.u8 m]
def L56T1 (m : List Int) (a r : Int) : Tm := [some (AV.ptr 0 0), none, some (AV.v (.int .u64 0)), some (AV.v (.int .i64 0)), none, none, none, none, none, none, none, none, none, none, none, none, none, none, none, none, none, none, none, none, none, none, none, none, none, none, none, none, none, none, none, none, none, none, none, none, none, none, none, none, none, none, none, none, none, none, none, none, none, none, none, none, none, none, none, none, none, none, none, none, none, none, none, none, none, none, none, none, none, none, none, none, none]
def L56U1 (m : List Int) (a r : Int) : List AObj := [AObj.cells 0 true [AV.sw 1 1, AV.v (.int .i64 a), AV.v (.int .i64 r)], AObj.ints 0 false IntKind.u8 m]
theorem L56_1 (m : List Int) (a r x25 : Int) (y2 : List Int) (x4 x26 : Int)  (d0 : (ilt x26 x25) = true) (d1 : (ieq x26 9) = true) (d2 : (ilt 1 (getI y2 (idxN 0 x26))) = true) (s0 : inB x26 (lenI y2)) (s1 : ltN (idxN 0 x26) (lenI y2)) : ARun Try.prog 2 (.loop (lp Try.f56 0)) (L56S m a r  x25 y2 x4 x26) (L56H m a r  x25 y2 x4 x26) (AExit.ret) (L56T0 m a r  (0) (0) (bif ieq r 0 then 5 else r)) (L56U0 m a r  (0) (0) (bif ieq r 0 then 5 else r)) :=
  .lastRet [Orc.br true, Orc.br true, Orc.br true, Orc.call [0, 1] (AV.v (.int .u64 0)) [(0, AObj.cells 0 true [AV.sw 1 1, AV.v (.int .i64 a), AV.v (.int .i64 (bif ieq r 0 then 5 else r))])] []] [0, 2, 3] [0, 1] [isB (ilt x26 x25) true, inB x26 (lenI y2), ltN (idxN 0 x26) (lenI y2), isB (ieq x26 9) true, isB (ilt 1 (getI y2 (idxN 0 x26))) true, ACalls Try.prog 57 [AV.ptr 0 0, AV.v (.int .i64 5)] (kScL0 a r m) (AV.v (.int .u64 0)) [(0, AObj.cells 0 true [AV.sw 1 1, AV.v (.int .i64 a), AV.v (.int .i64 (bif ieq r 0 then 5 else r))])] []] (by kernel_rfl) (.cons d0 (.cons (s0) (.cons (s1) (.cons d1 (.cons d2 (.cons (by apply f57) .nil))))))
theorem L56_2 (m : List Int) (a r x25 : Int) (y2 : List Int) (x4 x26 : Int)  (d0 : (ilt x26 x25) = true) (d1 : (ieq x26 9) = true) (d2 : (ilt 1 (getI y2 (idxN 0 x26))) = false) (d3 : (kScL2 y2 x26) = true) (s0 : inB x26 (lenI y2)) (s1 : ltN (idxN 0 x26) (lenI y2)) (s2 : nn (imul .i64 7 x26)) {e : AExit} {tm2 : Tm} {h2 : List AObj} (b : ARun Try.prog 2 (.loop (lp Try.f56 0)) (L56S m a r  (x25) (y2) (kScL3 x4 y2 x26) (iadd .i64 x26 1)) (L56H m a r  (x25) (y2) (kScL3 x4 y2 x26) (iadd .i64 x26 1)) e tm2 h2) : ARun Try.prog 2 (.loop (lp Try.f56 0)) (L56S m a r  x25 y2 x4 x26) (L56H m a r  x25 y2 x4 x26) e tm2 h2 :=
  .round [Orc.br true, Orc.br true, Orc.br false, Orc.br true] [0, 2, 3, 4, 24, 25, 26] [0, 1, 2] [isB (ilt x26 x25) true, inB x26 (lenI y2), ltN (idxN 0 x26) (lenI y2), isB (ieq x26 9) true, isB (ilt 1 (getI y2 (idxN 0 x26))) false, isB (kScL2 y2 x26) true, nn (imul .i64 7 x26)] (by kernel_rfl) (.cons d0 (.cons (s0) (.cons (s1) (.cons d1 (.cons d2 (.cons d3 (.cons (s2) .nil))))))) b
theorem L56_3 (m : List Int) (a r x25 : Int) (y2 : List Int) (x4 x26 : Int)  (d0 : (ilt x26 x25) = true) (d1 : (ieq x26 9) = true) (d2 : (ilt 1 (getI y2 (idxN 0 x26))) = false) (d3 : (kScL2 y2 x26) = false) (d4 : (ieq (getI y2 (idxN 0 x26)) 0) = true) (d5 : (ilt 0 x26) = true) (s0 : inB x26 (lenI y2)) (s1 : ltN (idxN 0 x26) (lenI y2)) : ARun Try.prog 2 (.loop (lp Try.f56 0)) (L56S m a r  x25 y2 x4 x26) (L56H m a r  x25 y2 x4 x26) (AExit.ret) (L56T0 m a r  (0) (0) (bif ieq r 0 then 5 else r)) (L56U0 m a r  (0) (0) (bif ieq r 0 then 5 else r)) :=
  .lastRet [Orc.br true, Orc.br true, Orc.br false, Orc.br false, Orc.br true, Orc.br true, Orc.call [0, 1] (AV.v (.int .u64 0)) [(0, AObj.cells 0 true [AV.sw 1 1, AV.v (.int .i64 a), AV.v (.int .i64 (bif ieq r 0 then 5 else r))])] []] [0, 2, 3] [0, 1] [isB (ilt x26 x25) true, inB x26 (lenI y2), ltN (idxN 0 x26) (lenI y2), isB (ieq x26 9) true, isB (ilt 1 (getI y2 (idxN 0 x26))) false, isB (kScL2 y2 x26) false, isB (ieq (getI y2 (idxN 0 x26)) 0) true, isB (ilt 0 x26) true, ACalls Try.prog 57 [AV.ptr 0 0, AV.v (.int .i64 5)] (kScL0 a r m) (AV.v (.int .u64 0)) [(0, AObj.cells 0 true [AV.sw 1 1, AV.v (.int .i64 a), AV.v (.int .i64 (bif ieq r 0 then 5 else r))])] []] (by kernel_rfl) (.cons d0 (.cons (s0) (.cons (s1) (.cons d1 (.cons d2 (.cons d3 (.cons d4 (.cons d5 (.cons (by apply f57) .nil)))))))))
theorem L56_4 (m : List Int) (a r x25 : Int) (y2 : List Int) (x4 x26 : Int)  (d0 : (ilt x26 x25) = true) (d1 : (ieq x26 9) = true) (d2 : (ilt 1 (getI y2 (idxN 0 x26))) = false) (d3 : (kScL2 y2 x26) = false) (d4 : (ieq (getI y2 (idxN 0 x26)) 0) = true) (d5 : (ilt 0 x26) = false) (s0 : inB x26 (lenI y2)) (s1 : ltN (idxN 0 x26) (lenI y2)) (s2 : nn (imul .i64 7 x26)) : ARun Try.prog 2 (.loop (lp Try.f56 0)) (L56S m a r  x25 y2 x4 x26) (L56H m a r  x25 y2 x4 x26) (AExit.ret) (L56T0 m a r  (kScL1 x4 y2 x26) (iadd .i64 (iadd .i64 a x26) 1) (r)) (L56U0 m a r  (kScL1 x4 y2 x26) (iadd .i64 (iadd .i64 a x26) 1) (r)) :=
  .lastRet [Orc.br true, Orc.br true, Orc.br false, Orc.br false, Orc.br true, Orc.br false] [0, 2, 3] [0, 1] [isB (ilt x26 x25) true, inB x26 (lenI y2), ltN (idxN 0 x26) (lenI y2), isB (ieq x26 9) true, isB (ilt 1 (getI y2 (idxN 0 x26))) false, isB (kScL2 y2 x26) false, isB (ieq (getI y2 (idxN 0 x26)) 0) true, isB (ilt 0 x26) false, Mixed Try.prog, nn (imul .i64 7 x26)] (by kernel_rfl) (.cons d0 (.cons (s0) (.cons (s1) (.cons d1 (.cons d2 (.cons d3 (.cons d4 (.cons d5 (.cons (by show _ = _; kernel_rfl) (.cons (s2) .nil))))))))))
theorem L56_5 (m : List Int) (a r x25 : Int) (y2 : List Int) (x4 x26 : Int)  (d0 : (ilt x26 x25) = true) (d1 : (ieq x26 9) = true) (d2 : (ilt 1 (getI y2 (idxN 0 x26))) = false) (d3 : (kScL2 y2 x26) = false) (d4 : (ieq (getI y2 (idxN 0 x26)) 0) = false) (s0 : inB x26 (lenI y2)) (s1 : ltN (idxN 0 x26) (lenI y2)) (s2 : nn (imul .i64 7 x26)) : ARun Try.prog 2 (.loop (lp Try.f56 0)) (L56S m a r  x25 y2 x4 x26) (L56H m a r  x25 y2 x4 x26) (AExit.ret) (L56T0 m a r  (kScL1 x4 y2 x26) (iadd .i64 (iadd .i64 a x26) 1) (r)) (L56U0 m a r  (kScL1 x4 y2 x26) (iadd .i64 (iadd .i64 a x26) 1) (r)) :=
  .lastRet [Orc.br true, Orc.br true, Orc.br false, Orc.br false, Orc.br false, Orc.br false] [0, 2, 3] [0, 1] [isB (ilt x26 x25) true, inB x26 (lenI y2), ltN (idxN 0 x26) (lenI y2), isB (ieq x26 9) true, isB (ilt 1 (getI y2 (idxN 0 x26))) false, isB (kScL2 y2 x26) false, isB (ieq (getI y2 (idxN 0 x26)) 0) false, isB false false, Mixed Try.prog, nn (imul .i64 7 x26)] (by kernel_rfl) (.cons d0 (.cons (s0) (.cons (s1) (.cons d1 (.cons d2 (.cons d3 (.cons d4 (.cons (by show _ = _; kernel_rfl) (.cons (by show _ = _; kernel_rfl) (.cons (s2) .nil))))))))))
theorem L56_6 (m : List Int) (a r x25 : Int) (y2 : List Int) (x4 x26 : Int)  (d0 : (ilt x26 x25) = true) (d1 : (ieq x26 9) = false) (d2 : (kScL2 y2 x26) = true) (s0 : inB x26 (lenI y2)) (s1 : ltN (idxN 0 x26) (lenI y2)) (s2 : nn (imul .i64 7 x26)) {e : AExit} {tm2 : Tm} {h2 : List AObj} (b : ARun Try.prog 2 (.loop (lp Try.f56 0)) (L56S m a r  (x25) (y2) (kScL3 x4 y2 x26) (iadd .i64 x26 1)) (L56H m a r  (x25) (y2) (kScL3 x4 y2 x26) (iadd .i64 x26 1)) e tm2 h2) : ARun Try.prog 2 (.loop (lp Try.f56 0)) (L56S m a r  x25 y2 x4 x26) (L56H m a r  x25 y2 x4 x26) e tm2 h2 :=
  .round [Orc.br true, Orc.br false, Orc.br false, Orc.br true] [0, 2, 3, 4, 24, 25, 26] [0, 1, 2] [isB (ilt x26 x25) true, inB x26 (lenI y2), ltN (idxN 0 x26) (lenI y2), isB (ieq x26 9) false, isB false false, isB (kScL2 y2 x26) true, nn (imul .i64 7 x26)] (by kernel_rfl) (.cons d0 (.cons (s0) (.cons (s1) (.cons d1 (.cons (by show _ = _; kernel_rfl) (.cons d2 (.cons (s2) .nil))))))) b
theorem L56_7 (m : List Int) (a r x25 : Int) (y2 : List Int) (x4 x26 : Int)  (d0 : (ilt x26 x25) = true) (d1 : (ieq x26 9) = false) (d2 : (kScL2 y2 x26) = false) (d3 : (ieq (getI y2 (idxN 0 x26)) 0) = true) (d4 : (ilt 0 x26) = true) (s0 : inB x26 (lenI y2)) (s1 : ltN (idxN 0 x26) (lenI y2)) : ARun Try.prog 2 (.loop (lp Try.f56 0)) (L56S m a r  x25 y2 x4 x26) (L56H m a r  x25 y2 x4 x26) (AExit.ret) (L56T0 m a r  (0) (0) (bif ieq r 0 then 5 else r)) (L56U0 m a r  (0) (0) (bif ieq r 0 then 5 else r)) :=
  .lastRet [Orc.br true, Orc.br false, Orc.br false, Orc.br false, Orc.br true, Orc.br true, Orc.call [0, 1] (AV.v (.int .u64 0)) [(0, AObj.cells 0 true [AV.sw 1 1, AV.v (.int .i64 a), AV.v (.int .i64 (bif ieq r 0 then 5 else r))])] []] [0, 2, 3] [0, 1] [isB (ilt x26 x25) true, inB x26 (lenI y2), ltN (idxN 0 x26) (lenI y2), isB (ieq x26 9) false, isB false false, isB (kScL2 y2 x26) false, isB (ieq (getI y2 (idxN 0 x26)) 0) true, isB (ilt 0 x26) true, ACalls Try.prog 57 [AV.ptr 0 0, AV.v (.int .i64 5)] (kScL0 a r m) (AV.v (.int .u64 0)) [(0, AObj.cells 0 true [AV.sw 1 1, AV.v (.int .i64 a), AV.v (.int .i64 (bif ieq r 0 then 5 else r))])] []] (by kernel_rfl) (.cons d0 (.cons (s0) (.cons (s1) (.cons d1 (.cons (by show _ = _; kernel_rfl) (.cons d2 (.cons d3 (.cons d4 (.cons (by apply f57) .nil)))))))))
theorem L56_8 (m : List Int) (a r x25 : Int) (y2 : List Int) (x4 x26 : Int)  (d0 : (ilt x26 x25) = true) (d1 : (ieq x26 9) = false) (d2 : (kScL2 y2 x26) = false) (d3 : (ieq (getI y2 (idxN 0 x26)) 0) = true) (d4 : (ilt 0 x26) = false) (s0 : inB x26 (lenI y2)) (s1 : ltN (idxN 0 x26) (lenI y2)) (s2 : nn (imul .i64 7 x26)) : ARun Try.prog 2 (.loop (lp Try.f56 0)) (L56S m a r  x25 y2 x4 x26) (L56H m a r  x25 y2 x4 x26) (AExit.ret) (L56T0 m a r  (kScL1 x4 y2 x26) (iadd .i64 (iadd .i64 a x26) 1) (r)) (L56U0 m a r  (kScL1 x4 y2 x26) (iadd .i64 (iadd .i64 a x26) 1) (r)) :=
  .lastRet [Orc.br true, Orc.br false, Orc.br false, Orc.br false, Orc.br true, Orc.br false] [0, 2, 3] [0, 1] [isB (ilt x26 x25) true, inB x26 (lenI y2), ltN (idxN 0 x26) (lenI y2), isB (ieq x26 9) false, isB false false, isB (kScL2 y2 x26) false, isB (ieq (getI y2 (idxN 0 x26)) 0) true, isB (ilt 0 x26) false, Mixed Try.prog, nn (imul .i64 7 x26)] (by kernel_rfl) (.cons d0 (.cons (s0) (.cons (s1) (.cons d1 (.cons (by show _ = _; kernel_rfl) (.cons d2 (.cons d3 (.cons d4 (.cons (by show _ = _; kernel_rfl) (.cons (s2) .nil))))))))))
theorem L56_9 (m : List Int) (a r x25 : Int) (y2 : List Int) (x4 x26 : Int)  (d0 : (ilt x26 x25) = true) (d1 : (ieq x26 9) = false) (d2 : (kScL2 y2 x26) = false) (d3 : (ieq (getI y2 (idxN 0 x26)) 0) = false) (s0 : inB x26 (lenI y2)) (s1 : ltN (idxN 0 x26) (lenI y2)) (s2 : nn (imul .i64 7 x26)) : ARun Try.prog 2 (.loop (lp Try.f56 0)) (L56S m a r  x25 y2 x4 x26) (L56H m a r  x25 y2 x4 x26) (AExit.ret) (L56T0 m a r  (kScL1 x4 y2 x26) (iadd .i64 (iadd .i64 a x26) 1) (r)) (L56U0 m a r  (kScL1 x4 y2 x26) (iadd .i64 (iadd .i64 a x26) 1) (r)) :=
  .lastRet [Orc.br true, Orc.br false, Orc.br false, Orc.br false, Orc.br false, Orc.br false] [0, 2, 3] [0, 1] [isB (ilt x26 x25) true, inB x26 (lenI y2), ltN (idxN 0 x26) (lenI y2), isB (ieq x26 9) false, isB false false, isB (kScL2 y2 x26) false, isB (ieq (getI y2 (idxN 0 x26)) 0) false, isB false false, Mixed Try.prog, nn (imul .i64 7 x26)] (by kernel_rfl) (.cons d0 (.cons (s0) (.cons (s1) (.cons d1 (.cons (by show _ = _; kernel_rfl) (.cons d2 (.cons d3 (.cons (by show _ = _; kernel_rfl) (.cons (by show _ = _; kernel_rfl) (.cons (s2) .nil))))))))))
theorem L56_10 (m : List Int) (a r x25 : Int) (y2 : List Int) (x4 x26 : Int)  (d0 : (ilt x26 x25) = false) : ARun Try.prog 2 (.loop (lp Try.f56 0)) (L56S m a r  x25 y2 x4 x26) (L56H m a r  x25 y2 x4 x26) (AExit.exit 0) (L56T1 m a r ) (L56U1 m a r ) :=
  .last [Orc.br false] [0, 2, 3] [0, 1] [isB (ilt x26 x25) false] (by kernel_rfl) (.cons d0 .nil)
def L56L (m : List Int) (a r : Int) : Nat → Int → List Int → Int → Int → Option (Nat × Int × Int × Int)
  | 0, _, _, _, _ => none
  | fuel + 1, x25, y2, x4, x26 => (bif ilt x26 x25 then (bif ieq x26 9 then (bif ilt 1 (getI y2 (idxN 0 x26)) then bif decide (inB x26 (lenI y2)) then bif decide (ltN (idxN 0 x26) (lenI y2)) then some (0, 0, 0, bif ieq r 0 then 5 else r) else none else none else (bif ile 128 (getI y2 (idxN 0 x26)) then bif decide (inB x26 (lenI y2)) then bif decide (ltN (idxN 0 x26) (lenI y2)) then bif decide (nn (imul .i64 7 x26)) then L56L m a r  fuel (x25) (y2) (ior .u64 x4 (ishl .u64 (icv .u64 (iand IntKind.u8 (getI y2 (idxN 0 x26)) 127)) (imul .i64 7 x26))) (iadd .i64 x26 1) else none else none else none else (bif ieq (getI y2 (idxN 0 x26)) 0 then (bif ilt 0 x26 then bif decide (inB x26 (lenI y2)) then bif decide (ltN (idxN 0 x26) (lenI y2)) then some (0, 0, 0, bif ieq r 0 then 5 else r) else none else none else bif decide (inB x26 (lenI y2)) then bif decide (ltN (idxN 0 x26) (lenI y2)) then bif decide (nn (imul .i64 7 x26)) then some (0, ior .u64 x4 (ishl .u64 (icv .u64 (getI y2 (idxN 0 x26))) (imul .i64 7 x26)), iadd .i64 (iadd .i64 a x26) 1, r) else none else none else none) else bif decide (inB x26 (lenI y2)) then bif decide (ltN (idxN 0 x26) (lenI y2)) then bif decide (nn (imul .i64 7 x26)) then some (0, ior .u64 x4 (ishl .u64 (icv .u64 (getI y2 (idxN 0 x26))) (imul .i64 7 x26)), iadd .i64 (iadd .i64 a x26) 1, r) else none else none else none))) else (bif ile 128 (getI y2 (idxN 0 x26)) then bif decide (inB x26 (lenI y2)) then bif decide (ltN (idxN 0 x26) (lenI y2)) then bif decide (nn (imul .i64 7 x26)) then L56L m a r  fuel (x25) (y2) (ior .u64 x4 (ishl .u64 (icv .u64 (iand IntKind.u8 (getI y2 (idxN 0 x26)) 127)) (imul .i64 7 x26))) (iadd .i64 x26 1) else none else none else none else (bif ieq (getI y2 (idxN 0 x26)) 0 then (bif ilt 0 x26 then bif decide (inB x26 (lenI y2)) then bif decide (ltN (idxN 0 x26) (lenI y2)) then some (0, 0, 0, bif ieq r 0 then 5 else r) else none else none else bif decide (inB x26 (lenI y2)) then bif decide (ltN (idxN 0 x26) (lenI y2)) then bif decide (nn (imul .i64 7 x26)) then some (0, ior .u64 x4 (ishl .u64 (icv .u64 (getI y2 (idxN 0 x26))) (imul .i64 7 x26)), iadd .i64 (iadd .i64 a x26) 1, r) else none else none else none) else bif decide (inB x26 (lenI y2)) then bif decide (ltN (idxN 0 x26) (lenI y2)) then bif decide (nn (imul .i64 7 x26)) then some (0, ior .u64 x4 (ishl .u64 (icv .u64 (getI y2 (idxN 0 x26))) (imul .i64 7 x26)), iadd .i64 (iadd .i64 a x26) 1, r) else none else none else none))) else some (1, 0, 0, 0))
theorem L290 (m : List Int) (a r : Int) : ∀ (fuel : Nat) (x25 : Int) (y2 : List Int) (x4 x26 o0 o1 o2 : Int) (_ : L56L m a r  fuel  x25 y2 x4 x26 = some (0, o0, o1, o2)), ARun Try.prog 2 (.loop (lp Try.f56 0)) (L56S m a r  x25 y2 x4 x26) (L56H m a r  x25 y2 x4 x26) (AExit.ret) (L56T0 m a r  o0 o1 o2) (L56U0 m a r  o0 o1 o2)
  | 0, _, _, _, _, _, _, _, h => by simp [L56L] at h
  | fuel + 1, x25, y2, x4, x26, o0, o1, o2, h => by
    simp only [L56L] at h
    exact (splitB h (fun d0 h => (splitB h (fun d1 h => (splitB h (fun d2 h => (chk h (fun s0 h => chk h (fun s1 h => (by cases h; exact L56_1 m a r  x25 y2 x4 x26 d0 d1 d2 s0 s1))))) (fun d2 h => (splitB h (fun d3 h => (chk h (fun s0 h => chk h (fun s1 h => chk h (fun s2 h => L56_2 m a r  x25 y2 x4 x26 d0 d1 d2 d3 s0 s1 s2 (L290 m a r  fuel (x25) (y2) (ior .u64 x4 (ishl .u64 (icv .u64 (iand IntKind.u8 (getI y2 (idxN 0 x26)) 127)) (imul .i64 7 x26))) (iadd .i64 x26 1) o0 o1 o2 h)))))) (fun d3 h => (splitB h (fun d4 h => (splitB h (fun d5 h => (chk h (fun s0 h => chk h (fun s1 h => (by cases h; exact L56_3 m a r  x25 y2 x4 x26 d0 d1 d2 d3 d4 d5 s0 s1))))) (fun d5 h => (chk h (fun s0 h => chk h (fun s1 h => chk h (fun s2 h => (by cases h; exact L56_4 m a r  x25 y2 x4 x26 d0 d1 d2 d3 d4 d5 s0 s1 s2)))))))) (fun d4 h => (chk h (fun s0 h => chk h (fun s1 h => chk h (fun s2 h => (by cases h; exact L56_5 m a r  x25 y2 x4 x26 d0 d1 d2 d3 d4 s0 s1 s2)))))))))))) (fun d1 h => (splitB h (fun d2 h => (chk h (fun s0 h => chk h (fun s1 h => chk h (fun s2 h => L56_6 m a r  x25 y2 x4 x26 d0 d1 d2 s0 s1 s2 (L290 m a r  fuel (x25) (y2) (ior .u64 x4 (ishl .u64 (icv .u64 (iand IntKind.u8 (getI y2 (idxN 0 x26)) 127)) (imul .i64 7 x26))) (iadd .i64 x26 1) o0 o1 o2 h)))))) (fun d2 h => (splitB h (fun d3 h => (splitB h (fun d4 h => (chk h (fun s0 h => chk h (fun s1 h => (by cases h; exact L56_7 m a r  x25 y2 x4 x26 d0 d1 d2 d3 d4 s0 s1))))) (fun d4 h => (chk h (fun s0 h => chk h (fun s1 h => chk h (fun s2 h => (by cases h; exact L56_8 m a r  x25 y2 x4 x26 d0 d1 d2 d3 d4 s0 s1 s2)))))))) (fun d3 h => (chk h (fun s0 h => chk h (fun s1 h => chk h (fun s2 h => (by cases h; exact L56_9 m a r  x25 y2 x4 x26 d0 d1 d2 d3 s0 s1 s2)))))))))))) (fun d0 h => ((by simp at h))))
theorem L291 (m : List Int) (a r : Int) : ∀ (fuel : Nat) (x25 : Int) (y2 : List Int) (x4 x26 : Int) (_ : L56L m a r  fuel  x25 y2 x4 x26 = some (1, 0, 0, 0)), ARun Try.prog 2 (.loop (lp Try.f56 0)) (L56S m a r  x25 y2 x4 x26) (L56H m a r  x25 y2 x4 x26) (AExit.exit 0) (L56T1 m a r ) (L56U1 m a r )
  | 0, _, _, _, _, h => by simp [L56L] at h
  | fuel + 1, x25, y2, x4, x26, h => by
    simp only [L56L] at h
    exact (splitB h (fun d0 h => (splitB h (fun d1 h => (splitB h (fun d2 h => (chk h (fun s0 h => chk h (fun s1 h => (by simp at h))))) (fun d2 h => (splitB h (fun d3 h => (chk h (fun s0 h => chk h (fun s1 h => chk h (fun s2 h => L56_2 m a r  x25 y2 x4 x26 d0 d1 d2 d3 s0 s1 s2 (L291 m a r  fuel (x25) (y2) (ior .u64 x4 (ishl .u64 (icv .u64 (iand IntKind.u8 (getI y2 (idxN 0 x26)) 127)) (imul .i64 7 x26))) (iadd .i64 x26 1)  h)))))) (fun d3 h => (splitB h (fun d4 h => (splitB h (fun d5 h => (chk h (fun s0 h => chk h (fun s1 h => (by simp at h))))) (fun d5 h => (chk h (fun s0 h => chk h (fun s1 h => chk h (fun s2 h => (by simp at h)))))))) (fun d4 h => (chk h (fun s0 h => chk h (fun s1 h => chk h (fun s2 h => (by simp at h)))))))))))) (fun d1 h => (splitB h (fun d2 h => (chk h (fun s0 h => chk h (fun s1 h => chk h (fun s2 h => L56_6 m a r  x25 y2 x4 x26 d0 d1 d2 s0 s1 s2 (L291 m a r  fuel (x25) (y2) (ior .u64 x4 (ishl .u64 (icv .u64 (iand IntKind.u8 (getI y2 (idxN 0 x26)) 127)) (imul .i64 7 x26))) (iadd .i64 x26 1)  h)))))) (fun d2 h => (splitB h (fun d3 h => (splitB h (fun d4 h => (chk h (fun s0 h => chk h (fun s1 h => (by simp at h))))) (fun d4 h => (chk h (fun s0 h => chk h (fun s1 h => chk h (fun s2 h => (by simp at h)))))))) (fun d3 h => (chk h (fun s0 h => chk h (fun s1 h => chk h (fun s2 h => (by simp at h)))))))))))) (fun d0 h => ((by cases h; exact L56_10 m a r  x25 y2 x4 x26 d0))))
def f56r0 (m : List Int) (a r : Int) (v0c v0f : Nat) (v0o0 v0o1 v0o2 : Int) (v0f1 : Nat) : Int := bif ine r 0 then 0 else bif v0c.beq 0 then v0o0 else 0
def f56r1 (m : List Int) (a r : Int) (v0c v0f : Nat) (v0o0 v0o1 v0o2 : Int) (v0f1 : Nat) : Int := bif ine r 0 then 0 else bif v0c.beq 0 then v0o1 else 0
def f56r2 (m : List Int) (a r : Int) (v0c v0f : Nat) (v0o0 v0o1 v0o2 : Int) (v0f1 : Nat) : Int := bif ine r 0 then r else bif v0c.beq 0 then v0o2 else bif ieq r 0 then 3 else r
theorem f56_1 (m : List Int) (a r : Int)  (d0 : (ine r 0) = true) : ACalls Try.prog 56 [AV.ptr 0 0] (kScL0 a r m) (AV.tup [AV.v (.int .u64 0), AV.v (.int .i64 0)]) [(0, AObj.cells 0 true [AV.sw 1 1, AV.v (.int .i64 a), AV.v (.int .i64 r)])] [] :=
  ACalls.nb (res := AV.tup [AV.v (.int .u64 0), AV.v (.int .i64 0)]) (.of_out [Orc.br true] [0, 1] [isB (ine r 0) true] Try.func56 (by kernel_rfl) (by kernel_rfl) (.cons d0 .nil))
theorem f56_2 (m : List Int) (a r : Int) (v0c v0f : Nat) (v0o0 v0o1 v0o2 : Int)  (d0 : (ine r 0) = false) (d1 : (v0c.beq 0) = true) (v0h0 : ((ine r 0) = false) → ((v0c.beq 0) = true) → L56L m a r v0f (nlen (lenI (subI m (idxN 0 a) (subN (nlen (lenI m)) a)))) (subI m (idxN 0 a) (subN (nlen (lenI m)) a)) 0 0 = some (0, v0o0, v0o1, v0o2)) (s0 : ((ine r 0) = false) → inC a (nlen (lenI m)) (nlen (lenI m))) (s1 : ((ine r 0) = false) → leN ((idxN 0 a).add (subN (nlen (lenI m)) a)) (lenI m)) : ACalls Try.prog 56 [AV.ptr 0 0] (kScL0 a r m) (AV.tup [AV.v (.int .u64 v0o0), AV.v (.int .i64 v0o1)]) [(0, AObj.cells 0 true [AV.sw 1 1, AV.v (.int .i64 a), AV.v (.int .i64 v0o2)])] [] :=
  ACalls.nb (res := AV.tup [AV.v (.int .u64 v0o0), AV.v (.int .i64 v0o1)]) (.of_out [Orc.br false, Orc.loop [0, 2, 3, 4, 24, 25, 26] [0, 1, 2] AExit.ret [some (AV.ptr 0 0), none, some (AV.v (.int .u64 v0o0)), some (AV.v (.int .i64 v0o1)), none, none, none, none, none, none, none, none, none, none, none, none, none, none, none, none, none, none, none, none, none, none, none, none, none, none, none, none, none, none, none, none, none, none, none, none, none, none, none, none, none, none, none, none, none, none, none, none, none, none, none, none, none, none, none, none, none, none, none, none, none, none, none, none, none, none, none, none, none, none, none, none, none] [AObj.cells 0 true [AV.sw 1 1, AV.v (.int .i64 a), AV.v (.int .i64 v0o2)], AObj.ints 0 false IntKind.u8 m]] [0, 1] [isB (ine r 0) false, Mixed Try.prog, inC a (nlen (lenI m)) (nlen (lenI m)), leN ((idxN 0 a).add (subN (nlen (lenI m)) a)) (lenI m), _] Try.func56 (by kernel_rfl) (by kernel_rfl) (.cons d0 (.cons (by show _ = _; kernel_rfl) (.cons (s0 d0) (.cons (s1 d0) (.cons (L290 _ _ _ _ _ _ _ _ _ _ _ (v0h0 d0 d1)) .nil))))))
theorem f56_3 (m : List Int) (a r : Int) (v0c v0f1 : Nat)  (d0 : (ine r 0) = false) (d1 : (v0c.beq 0) = false) (v0h1 : ((ine r 0) = false) → ((v0c.beq 0) = false) → L56L m a r v0f1 (nlen (lenI (subI m (idxN 0 a) (subN (nlen (lenI m)) a)))) (subI m (idxN 0 a) (subN (nlen (lenI m)) a)) 0 0 = some (1, 0, 0, 0)) (s0 : ((ine r 0) = false) → inC a (nlen (lenI m)) (nlen (lenI m))) (s1 : ((ine r 0) = false) → leN ((idxN 0 a).add (subN (nlen (lenI m)) a)) (lenI m)) : ACalls Try.prog 56 [AV.ptr 0 0] (kScL0 a r m) (AV.tup [AV.v (.int .u64 0), AV.v (.int .i64 0)]) [(0, AObj.cells 0 true [AV.sw 1 1, AV.v (.int .i64 a), AV.v (.int .i64 (bif ieq r 0 then 3 else r))])] [] :=
  ACalls.nb (res := AV.tup [AV.v (.int .u64 0), AV.v (.int .i64 0)]) (.of_out [Orc.br false, Orc.loop [0, 2, 3, 4, 24, 25, 26] [0, 1, 2] (AExit.exit 0) [some (AV.ptr 0 0), none, some (AV.v (.int .u64 0)), some (AV.v (.int .i64 0)), none, none, none, none, none, none, none, none, none, none, none, none, none, none, none, none, none, none, none, none, none, none, none, none, none, none, none, none, none, none, none, none, none, none, none, none, none, none, none, none, none, none, none, none, none, none, none, none, none, none, none, none, none, none, none, none, none, none, none, none, none, none, none, none, none, none, none, none, none, none, none, none, none] (kScL0 a r m), Orc.call [0, 1] (AV.v (.int .u64 0)) [(0, AObj.cells 0 true [AV.sw 1 1, AV.v (.int .i64 a), AV.v (.int .i64 (bif ieq r 0 then 3 else r))])] []] [0, 1] [isB (ine r 0) false, Mixed Try.prog, inC a (nlen (lenI m)) (nlen (lenI m)), leN ((idxN 0 a).add (subN (nlen (lenI m)) a)) (lenI m), _, ACalls Try.prog 57 [AV.ptr 0 0, AV.v (.int .i64 3)] (kScL0 a r m) (AV.v (.int .u64 0)) [(0, AObj.cells 0 true [AV.sw 1 1, AV.v (.int .i64 a), AV.v (.int .i64 (bif ieq r 0 then 3 else r))])] []] Try.func56 (by kernel_rfl) (by kernel_rfl) (.cons d0 (.cons (by show _ = _; kernel_rfl) (.cons (s0 d0) (.cons (s1 d0) (.cons (L291 _ _ _ _ _ _ _ _ (v0h1 d0 d1)) (.cons (by apply f57) .nil)))))))
theorem f56 (m : List Int) (a r : Int) (v0c v0f : Nat) (v0o0 v0o1 v0o2 : Int) (v0f1 : Nat) (v0h0 : ((ine r 0) = false) → ((v0c.beq 0) = true) → L56L m a r v0f (nlen (lenI (subI m (idxN 0 a) (subN (nlen (lenI m)) a)))) (subI m (idxN 0 a) (subN (nlen (lenI m)) a)) 0 0 = some (0, v0o0, v0o1, v0o2)) (v0h1 : ((ine r 0) = false) → ((v0c.beq 0) = false) → L56L m a r v0f1 (nlen (lenI (subI m (idxN 0 a) (subN (nlen (lenI m)) a)))) (subI m (idxN 0 a) (subN (nlen (lenI m)) a)) 0 0 = some (1, 0, 0, 0)) (s0 : ((ine r 0) = false) → inC a (nlen (lenI m)) (nlen (lenI m))) (s1 : ((ine r 0) = false) → leN ((idxN 0 a).add (subN (nlen (lenI m)) a)) (lenI m)) : ACalls Try.prog 56 [AV.ptr 0 0] [AObj.cells 0 true [AV.sw 1 1, AV.v (.int .i64 a), AV.v (.int .i64 r)], AObj.ints 0 false IntKind.u8 m] (AV.tup [AV.v (.int .u64 (f56r0 m a r v0c v0f v0o0 v0o1 v0o2 v0f1)), AV.v (.int .i64 (f56r1 m a r v0c v0f v0o0 v0o1 v0o2 v0f1))]) [(0, AObj.cells 0 true [AV.sw 1 1, AV.v (.int .i64 a), AV.v (.int .i64 (f56r2 m a r v0c v0f v0o0 v0o1 v0o2 v0f1))])] [] := by
  have h := (ACalls.cond (ine r 0) (fun d0 => (f56_1 m a r d0)) (fun d0 => (ACalls.cond (v0c.beq 0) (fun d1 => (f56_2 m a r v0c v0f v0o0 v0o1 v0o2 d0 d1 v0h0 s0 s1)) (fun d1 => (f56_3 m a r v0c v0f1 d0 d1 v0h1 s0 s1)))))
  simp only [c_int, c_bool, c_str, c_agg, c_tup, c_fn, c_ifc, c_sl, c_pe, c_ptr, c_rows, c_siter, c_consA, c_consU, c_consO, c_cells, c_ints, c_bools, c_strs, c_same] at h
  exact h
theorem getAt {y : List Int} {i : Nat} (h : i < y.length) : getI y (idxN 0 (i : Int)) = y[i] := by
  unfold getI idxN; rw [Int.toNat_natCast, Nat.zero_add, List.getD_eq_getElem?_getD, List.getElem?_eq_getElem h]; rfl
theorem inAt {y : List Int} {i : Nat} (h : i < y.length) : decide (inB (i : Int) (lenI y)) = true ∧ decide (ltN (idxN 0 (i : Int)) (lenI y)) = true := by
  refine ⟨decide_eq_true ⟨by omega, by unfold lenI; omega⟩, decide_eq_true ?_⟩
  unfold ltN idxN lenI; rw [Int.toNat_natCast]; omega
/-- what the loop comes to -/
def outL (t : Int × Int × Int) (a : Int) : Option (Nat × Int × Int × Int) := if t.2.2 = 3 then some (1, 0, 0, 0) else some (0, t.1, (if t.2.2 = 0 then a + t.2.1 else 0), t.2.2)
theorem l29 (m : List Int) (a : Int) (ha : 0 ≤ a ∧ a ≤ 1000000) (y : List Int) (hy : byB y = true) (hl : y.length ≤ 1000000) : ∀ (k i : Nat) (x : Int), i + k = y.length → i ≤ 9 → 0 ≤ x ∧ x < 128 ^ i →
    L56L m a 0 (k + 1) (nlen (lenI y)) y x (i : Int) = outL (numG (y.drop i) i x) a
  | 0, i, x, h, hi, hx => by
    rw [L56L, show ilt (i : Int) (nlen (lenI y)) = false from by simp only [ilt_d, nlen, lenI, decide_eq_false_iff_not]; omega, List.drop_eq_nil_of_le (by omega)]; rfl
  | k + 1, i, x, h, hi, hx => by
    have hlt : i < y.length := by omega
    have hc := byB_iff.1 hy y[i] (List.getElem_mem hlt)
    have ia := inAt hlt
    have e3 : iadd .i64 (i : Int) 1 = ((i + 1 : Nat) : Int) := by unfold iadd; rw [w_i64_in (by omega)]; omega
    have e4 : nn (imul .i64 7 (i : Int)) := by unfold nn imul; rw [w_i64_in (by omega)]; omega
    have e5 : iadd .i64 (iadd .i64 a (i : Int)) 1 = a + ((i : Int) + 1) := by unfold iadd; rw [w_i64_in (x := a + _) (by omega), w_i64_in (by omega)]; omega
    rw [L56L, show ilt (i : Int) (nlen (lenI y)) = true from by simp only [ilt_d, nlen, lenI, decide_eq_true_eq]; omega, List.drop_eq_getElem_cons hlt, numG, getAt hlt, ia.1, ia.2, decide_eq_true e4, e3, e5]
    simp only [cond_true, cond_false, ieq_d, ilt_d, ile_d]
    by_cases h9 : i = 9 ∧ 1 < y[i]
    · rw [if_pos h9, decide_eq_true (show (i : Int) = 9 by omega), decide_eq_true h9.2]; rfl
    rw [if_neg h9]
    by_cases h2 : 128 ≤ y[i]
    · rw [if_pos h2, and127 hc, decide_eq_true h2, decide_eq_false (show ¬ (i : Int) = 9 by omega)]
      have g := grp (c := y[i] % 128) hi hx (by omega) (by omega)
      rw [orG (c := y[i] % 128) hi hx (by omega) (by omega)]
      exact l29 m a ha y hy hl k (i + 1) _ (by omega) (by omega) ⟨g.2.2.2.1, g.2.2.1⟩
    rw [if_neg h2, decide_eq_false h2, orG (c := y[i]) hi hx (by omega) (by omega)]
    by_cases h3 : y[i] = 0 ∧ 0 < i
    · rw [if_pos h3, decide_eq_true h3.1, decide_eq_true (show (0 : Int) < (i : Int) by omega), decide_eq_false (show ¬ (1 : Int) < y[i] by omega)]
      by_cases h4 : (i : Int) = 9
      · rw [decide_eq_true h4]; rfl
      · rw [decide_eq_false h4]; rfl
    rw [if_neg h3]
    by_cases h5 : y[i] = 0
    · have h6 : i = 0 := by omega
      rw [decide_eq_true h5, decide_eq_false (show ¬ (0 : Int) < (i : Int) by omega), decide_eq_false (show ¬ (i : Int) = 9 by omega)]; rfl
    · rw [decide_eq_false h5]
      by_cases h4 : (i : Int) = 9
      · rw [decide_eq_true h4, decide_eq_false (show ¬ (1 : Int) < y[i] by omega)]; rfl
      · rw [decide_eq_false h4]; rfl
/-- a reader's place is one; its bytes are bytes -/
def okC (m : List Int) (a : Int) : Bool := decide (0 ≤ a ∧ a ≤ m.length ∧ m.length ≤ 100000) && byB m
theorem okC_iff {m : List Int} {a : Int} : okC m a = true ↔ (0 ≤ a ∧ a ≤ m.length ∧ m.length ≤ 100000) ∧ byB m = true := by simp [okC]
def num0 (m : List Int) (a : Int) : Int × Int × Int := numG (m.drop a.toNat) 0 0
theorem num0_spec {m : List Int} {a : Int} (h : okC m a = true) : ((num0 m a).2.2 = 0 ∨ (num0 m a).2.2 = 3 ∨ (num0 m a).2.2 = 5) ∧ 0 ≤ (num0 m a).1 ∧ (num0 m a).1 < 18446744073709551616 ∧
    ((num0 m a).2.2 = 0 → 1 ≤ (num0 m a).2.1 ∧ a + (num0 m a).2.1 ≤ m.length) ∧ ((num0 m a).2.2 ≠ 0 → (num0 m a).1 = 0) := by
  rw [okC_iff] at h
  have := numG_spec (m.drop a.toNat) 0 0 (byB_iff.2 fun c hc => byB_iff.1 h.2 c (List.mem_of_mem_drop hc)) (by omega) (by simp)
  refine ⟨this.1, this.2.1, this.2.2.1, fun e => ?_, this.2.2.2.2⟩
  have := this.2.2.2.1 e
  rw [List.length_drop] at this
  unfold num0; omega
/-- the number that comes, the place behind it, the error -/
def nV (m : List Int) (a r : Int) : Int := if r = 0 then (num0 m a).1 else 0
def nE (m : List Int) (a r : Int) : Int := if r = 0 ∧ (num0 m a).2.2 = 0 then a + (num0 m a).2.1 else 0
def nR (m : List Int) (a r : Int) : Int := if r = 0 then (num0 m a).2.2 else r
theorem g56 (m : List Int) (a r : Int) (h : okC m a = true) : ACalls Try.prog 56 [AV.ptr 0 0] [AObj.cells 0 true [AV.sw 1 1, AV.v (.int .i64 a), AV.v (.int .i64 r)], AObj.ints 0 false IntKind.u8 m] (AV.tup [AV.v (.int .u64 (nV m a r)), AV.v (.int .i64 (nE m a r))]) [(0, AObj.cells 0 true [AV.sw 1 1, AV.v (.int .i64 a), AV.v (.int .i64 (nR m a r))])] [] := by
  have sp := num0_spec h
  have h' := okC_iff.1 h
  have e1 : subN (nlen (lenI m)) a = m.length - a.toNat := by unfold subN nlen lenI; omega
  have e2 : subI m (idxN 0 a) (m.length - a.toNat) = m.drop a.toNat := by
    unfold subI idxN; rw [Nat.zero_add, List.take_of_length_le (by rw [List.length_drop]; omega)]
  have hb : byB (m.drop a.toNat) = true := byB_iff.2 fun c hc => byB_iff.1 h'.2 c (List.mem_of_mem_drop hc)
  have hd : (m.drop a.toNat).length = m.length - a.toNat := List.length_drop
  have hL : L56L m a 0 ((m.drop a.toNat).length + 1) (nlen (lenI (m.drop a.toNat))) (m.drop a.toNat) 0 0 = outL (num0 m a) a := l29 m a (by omega) (m.drop a.toNat) hb (by omega) (m.drop a.toNat).length 0 0 (by omega) (by omega) (by simp)
  have s0 : inC a (nlen (lenI m)) (nlen (lenI m)) := by unfold inC nlen lenI; omega
  have s1 : leN ((idxN 0 a).add (m.length - a.toNat)) (lenI m) := by unfold leN idxN lenI; show 0 + a.toNat + (m.length - a.toNat) ≤ _; omega
  by_cases hr : r = 0
  · subst hr
    unfold outL at hL
    by_cases h3 : (num0 m a).2.2 = 3
    · rw [if_pos h3] at hL
      have := f56 m a 0 1 0 0 0 0 _ (fun _ h => by simp at h) (fun _ _ => by rw [e1, e2]; exact hL) (fun _ => s0) (fun _ => by rw [e1]; exact s1)
      have q1 : nV m a 0 = 0 := by unfold nV; rw [if_pos rfl, sp.2.2.2.2 (by omega)]
      have q2 : nE m a 0 = 0 := by unfold nE; rw [if_neg (by omega)]
      have q3 : nR m a 0 = 3 := by unfold nR; rw [if_pos rfl, h3]
      rw [q1, q2, q3]; exact this
    · rw [if_neg h3] at hL
      have := f56 m a 0 0 _ _ _ _ 0 (fun _ _ => by rw [e1, e2]; exact hL) (fun _ h => by simp at h) (fun _ => s0) (fun _ => by rw [e1]; exact s1)
      have q1 : nV m a 0 = (num0 m a).1 := by unfold nV; rw [if_pos rfl]
      have q2 : nE m a 0 = if (num0 m a).2.2 = 0 then a + (num0 m a).2.1 else 0 := by unfold nE; simp
      have q3 : nR m a 0 = (num0 m a).2.2 := by unfold nR; rw [if_pos rfl]
      rw [q1, q2, q3]; exact this
  · have hi : ine r 0 = true := by simp [ine_d, hr]
    have := f56 m a r 0 0 0 0 0 0 (fun h => by rw [hi] at h; simp at h) (fun h => by rw [hi] at h; simp at h) (fun h => by rw [hi] at h; simp at h) (fun h => by rw [hi] at h; simp at h)
    have q1 : nV m a r = 0 := by unfold nV; rw [if_neg hr]
    have q2 : nE m a r = 0 := by unfold nE; rw [if_neg (fun h => hr h.1)]
    have q3 : nR m a r = r := by unfold nR; rw [if_neg hr]
    rw [q1, q2, q3]
    have f0 : f56r0 m a r 0 0 0 0 0 0 = 0 := by unfold f56r0; rw [hi]; rfl
    have f1 : f56r1 m a r 0 0 0 0 0 0 = 0 := by unfold f56r1; rw [hi]; rfl
    have f2 : f56r2 m a r 0 0 0 0 0 0 = r := by unfold f56r2; rw [hi]; rfl
    rw [f0, f1, f2] at this; exact this
def f44r0 (m : List Int) (a r x : Int) : Int := bif ieq (nE m a r) 0 then 0 else bif ilt x (nV m a r) then 0 else nV m a r
def f44r1 (m : List Int) (a r x : Int) : Int := bif ieq (nE m a r) 0 then a else bif ilt x (nV m a r) then a else nE m a r
def f44r2 (m : List Int) (a r x : Int) : Int := bif ieq (nE m a r) 0 then nR m a r else bif ilt x (nV m a r) then bif ieq (nR m a r) 0 then 2 else nR m a r else nR m a r
theorem f44_1 (m : List Int) (a r x : Int)  (d0 : (ieq (nE m a r) 0) = true) (s0 : okC m a = true) : ACalls Try.prog 44 [AV.ptr 0 0, AV.v (.int .u64 x)] (kScL0 a r m) (AV.v (.int .u64 0)) [(0, AObj.cells 0 true [AV.sw 1 1, AV.v (.int .i64 a), AV.v (.int .i64 (nR m a r))])] [] :=
  ACalls.nb (res := AV.v (.int .u64 0)) (.of_out [Orc.call [0, 1] (AV.tup [AV.v (.int .u64 (nV m a r)), AV.v (.int .i64 (nE m a r))]) [(0, AObj.cells 0 true [AV.sw 1 1, AV.v (.int .i64 a), AV.v (.int .i64 (nR m a r))])] [], Orc.br true] [0, 1] [ACalls Try.prog 56 [AV.ptr 0 0] (kScL0 a r m) (AV.tup [AV.v (.int .u64 (nV m a r)), AV.v (.int .i64 (nE m a r))]) [(0, AObj.cells 0 true [AV.sw 1 1, AV.v (.int .i64 a), AV.v (.int .i64 (nR m a r))])] [], isB (ieq (nE m a r) 0) true] Try.func44 (by kernel_rfl) (by kernel_rfl) (.cons (by apply g56 <;> (first | exact (s0))) (.cons d0 .nil)))
theorem f44_2 (m : List Int) (a r x : Int)  (d0 : (ieq (nE m a r) 0) = false) (d1 : (ilt x (nV m a r)) = true) (s0 : okC m a = true) : ACalls Try.prog 44 [AV.ptr 0 0, AV.v (.int .u64 x)] (kScL0 a r m) (AV.v (.int .u64 0)) [(0, AObj.cells 0 true [AV.sw 1 1, AV.v (.int .i64 a), AV.v (.int .i64 (bif ieq (nR m a r) 0 then 2 else nR m a r))])] [] :=
  ACalls.nb (res := AV.v (.int .u64 0)) (.of_out [Orc.call [0, 1] (AV.tup [AV.v (.int .u64 (nV m a r)), AV.v (.int .i64 (nE m a r))]) [(0, AObj.cells 0 true [AV.sw 1 1, AV.v (.int .i64 a), AV.v (.int .i64 (nR m a r))])] [], Orc.br false, Orc.br true, Orc.call [0, 1] (AV.v (.int .u64 0)) [(0, AObj.cells 0 true [AV.sw 1 1, AV.v (.int .i64 a), AV.v (.int .i64 (bif ieq (nR m a r) 0 then 2 else nR m a r))])] []] [0, 1] [ACalls Try.prog 56 [AV.ptr 0 0] (kScL0 a r m) (AV.tup [AV.v (.int .u64 (nV m a r)), AV.v (.int .i64 (nE m a r))]) [(0, AObj.cells 0 true [AV.sw 1 1, AV.v (.int .i64 a), AV.v (.int .i64 (nR m a r))])] [], isB (ieq (nE m a r) 0) false, isB (ilt x (nV m a r)) true, ACalls Try.prog 57 [AV.ptr 0 0, AV.v (.int .i64 2)] [AObj.cells 0 true [AV.sw 1 1, AV.v (.int .i64 a), AV.v (.int .i64 (nR m a r))], AObj.ints 0 false IntKind.u8 m] (AV.v (.int .u64 0)) [(0, AObj.cells 0 true [AV.sw 1 1, AV.v (.int .i64 a), AV.v (.int .i64 (bif ieq (nR m a r) 0 then 2 else nR m a r))])] []] Try.func44 (by kernel_rfl) (by kernel_rfl) (.cons (by apply g56 <;> (first | exact (s0))) (.cons d0 (.cons d1 (.cons (by apply f57) .nil)))))
theorem f44_3 (m : List Int) (a r x : Int)  (d0 : (ieq (nE m a r) 0) = false) (d1 : (ilt x (nV m a r)) = false) (s0 : okC m a = true) : ACalls Try.prog 44 [AV.ptr 0 0, AV.v (.int .u64 x)] (kScL0 a r m) (AV.v (.int .u64 (nV m a r))) [(0, AObj.cells 0 true [AV.sw 1 1, AV.v (.int .i64 (nE m a r)), AV.v (.int .i64 (nR m a r))])] [] :=
  ACalls.nb (res := AV.v (.int .u64 (nV m a r))) (.of_out [Orc.call [0, 1] (AV.tup [AV.v (.int .u64 (nV m a r)), AV.v (.int .i64 (nE m a r))]) [(0, AObj.cells 0 true [AV.sw 1 1, AV.v (.int .i64 a), AV.v (.int .i64 (nR m a r))])] [], Orc.br false, Orc.br false] [0, 1] [ACalls Try.prog 56 [AV.ptr 0 0] (kScL0 a r m) (AV.tup [AV.v (.int .u64 (nV m a r)), AV.v (.int .i64 (nE m a r))]) [(0, AObj.cells 0 true [AV.sw 1 1, AV.v (.int .i64 a), AV.v (.int .i64 (nR m a r))])] [], isB (ieq (nE m a r) 0) false, isB (ilt x (nV m a r)) false] Try.func44 (by kernel_rfl) (by kernel_rfl) (.cons (by apply g56 <;> (first | exact (s0))) (.cons d0 (.cons d1 .nil))))
theorem f44 (m : List Int) (a r x : Int) (s0 : okC m a = true) : ACalls Try.prog 44 [AV.ptr 0 0, AV.v (.int .u64 x)] [AObj.cells 0 true [AV.sw 1 1, AV.v (.int .i64 a), AV.v (.int .i64 r)], AObj.ints 0 false IntKind.u8 m] (AV.v (.int .u64 (f44r0 m a r x))) [(0, AObj.cells 0 true [AV.sw 1 1, AV.v (.int .i64 (f44r1 m a r x)), AV.v (.int .i64 (f44r2 m a r x))])] [] := by
  have h := (ACalls.cond (ieq (nE m a r) 0) (fun d0 => (f44_1 m a r x d0 s0)) (fun d0 => (ACalls.cond (ilt x (nV m a r)) (fun d1 => (f44_2 m a r x d0 d1 s0)) (fun d1 => (f44_3 m a r x d0 d1 s0)))))
  simp only [c_int, c_bool, c_str, c_agg, c_tup, c_fn, c_ifc, c_sl, c_pe, c_ptr, c_rows, c_siter, c_consA, c_consU, c_consO, c_cells, c_ints, c_bools, c_strs, c_same] at h
  exact h
def upOk (m : List Int) (a r x : Int) : Bool := decide (r = 0 ∧ (num0 m a).2.2 = 0 ∧ (num0 m a).1 ≤ x)
def upV (m : List Int) (a r x : Int) : Int := bif upOk m a r x then (num0 m a).1 else 0
def upA (m : List Int) (a r x : Int) : Int := bif upOk m a r x then a + (num0 m a).2.1 else a
def upR (m : List Int) (a r x : Int) : Int := if r ≠ 0 then r else if (num0 m a).2.2 ≠ 0 then (num0 m a).2.2 else if (num0 m a).1 ≤ x then 0 else 2
theorem g44 (m : List Int) (a r x : Int) (h : okC m a = true) : ACalls Try.prog 44 [AV.ptr 0 0, AV.v (.int .u64 x)] [AObj.cells 0 true [AV.sw 1 1, AV.v (.int .i64 a), AV.v (.int .i64 r)], AObj.ints 0 false IntKind.u8 m] (AV.v (.int .u64 (upV m a r x))) [(0, AObj.cells 0 true [AV.sw 1 1, AV.v (.int .i64 (upA m a r x)), AV.v (.int .i64 (upR m a r x))])] [] := by
  have sp := num0_spec h
  have h' := okC_iff.1 h
  have := f44 m a r x h
  have e : f44r0 m a r x = upV m a r x ∧ f44r1 m a r x = upA m a r x ∧ f44r2 m a r x = upR m a r x := by
    unfold f44r0 f44r1 f44r2 upV upA upR upOk nV nE nR
    simp only [cond_if, ieq_d, ilt_d, decide_eq_true_eq]
    generalize num0 m a = t at *
    by_cases hr : r = 0
    · by_cases h0 : t.2.2 = 0
      · have := sp.2.2.2.1 h0
        by_cases h1 : t.1 ≤ x
        · simp [hr, h0, h1, show ¬ a + t.2.1 = 0 by omega, show ¬ x < t.1 by omega]
        · simp [hr, h0, h1, show ¬ a + t.2.1 = 0 by omega, show x < t.1 by omega]
      · simp [hr, h0]
    · simp [hr]
  rw [e.1, e.2.1, e.2.2] at this; exact this
theorem f58_1 (m : List Int) (a r : Int)  (s0 : okC m a = true) : ACalls Try.prog 58 [AV.ptr 0 0] (kScL0 a r m) (AV.v (.int .u64 (upV m a r 18446744073709551615))) [(0, AObj.cells 0 true [AV.sw 1 1, AV.v (.int .i64 (upA m a r 18446744073709551615)), AV.v (.int .i64 (upR m a r 18446744073709551615))])] [] :=
  ACalls.nb (res := AV.v (.int .u64 (upV m a r 18446744073709551615))) (.of_out [Orc.call [0, 1] (AV.v (.int .u64 (upV m a r 18446744073709551615))) [(0, AObj.cells 0 true [AV.sw 1 1, AV.v (.int .i64 (upA m a r 18446744073709551615)), AV.v (.int .i64 (upR m a r 18446744073709551615))])] []] [0, 1] [ACalls Try.prog 44 [AV.ptr 0 0, AV.v (.int .u64 18446744073709551615)] (kScL0 a r m) (AV.v (.int .u64 (upV m a r 18446744073709551615))) [(0, AObj.cells 0 true [AV.sw 1 1, AV.v (.int .i64 (upA m a r 18446744073709551615)), AV.v (.int .i64 (upR m a r 18446744073709551615))])] []] Try.func58 (by kernel_rfl) (by kernel_rfl) (.cons (by apply g44 <;> (first | exact (s0))) .nil))
theorem f58 (m : List Int) (a r : Int) (s0 : okC m a = true) : ACalls Try.prog 58 [AV.ptr 0 0] [AObj.cells 0 true [AV.sw 1 1, AV.v (.int .i64 a), AV.v (.int .i64 r)], AObj.ints 0 false IntKind.u8 m] (AV.v (.int .u64 (upV m a r 18446744073709551615))) [(0, AObj.cells 0 true [AV.sw 1 1, AV.v (.int .i64 (upA m a r 18446744073709551615)), AV.v (.int .i64 (upR m a r 18446744073709551615))])] [] := (f58_1 m a r s0)
def f46r0 (m : List Int) (a r : Int) : Int := ixor .i64 (icv .i64 (ishr .u64 (upV m a r 18446744073709551615) 1)) (isub .i64 0 (icv .i64 (iand .u64 (upV m a r 18446744073709551615) 1)))
theorem f46_1 (m : List Int) (a r : Int)  (s0 : okC m a = true) : ACalls Try.prog 46 [AV.ptr 0 0] (kScL0 a r m) (AV.v (.int .i64 (ixor .i64 (icv .i64 (ishr .u64 (upV m a r 18446744073709551615) 1)) (isub .i64 0 (icv .i64 (iand .u64 (upV m a r 18446744073709551615) 1)))))) [(0, AObj.cells 0 true [AV.sw 1 1, AV.v (.int .i64 (upA m a r 18446744073709551615)), AV.v (.int .i64 (upR m a r 18446744073709551615))])] [] :=
  ACalls.nb (res := AV.v (.int .i64 (ixor .i64 (icv .i64 (ishr .u64 (upV m a r 18446744073709551615) 1)) (isub .i64 0 (icv .i64 (iand .u64 (upV m a r 18446744073709551615) 1)))))) (.of_out [Orc.call [0, 1] (AV.v (.int .u64 (upV m a r 18446744073709551615))) [(0, AObj.cells 0 true [AV.sw 1 1, AV.v (.int .i64 (upA m a r 18446744073709551615)), AV.v (.int .i64 (upR m a r 18446744073709551615))])] []] [0, 1] [ACalls Try.prog 58 [AV.ptr 0 0] (kScL0 a r m) (AV.v (.int .u64 (upV m a r 18446744073709551615))) [(0, AObj.cells 0 true [AV.sw 1 1, AV.v (.int .i64 (upA m a r 18446744073709551615)), AV.v (.int .i64 (upR m a r 18446744073709551615))])] [], nn 1] Try.func46 (by kernel_rfl) (by kernel_rfl) (.cons (by apply f58 <;> (first | exact (s0))) (.cons (by first | decide | simp [nz, nn, inB, ltN, leN, eqN, eqZ, inC, zOk, growN, fitN]) .nil)))
theorem f46 (m : List Int) (a r : Int) (s0 : okC m a = true) : ACalls Try.prog 46 [AV.ptr 0 0] [AObj.cells 0 true [AV.sw 1 1, AV.v (.int .i64 a), AV.v (.int .i64 r)], AObj.ints 0 false IntKind.u8 m] (AV.v (.int .i64 (f46r0 m a r))) [(0, AObj.cells 0 true [AV.sw 1 1, AV.v (.int .i64 (upA m a r 18446744073709551615)), AV.v (.int .i64 (upR m a r 18446744073709551615))])] [] := (f46_1 m a r s0)
def f27r0 (m : List Int) (a r : Int) : Int := bif ine r 0 then 0 else isub .i64 (nlen (lenI m)) a
theorem f27_1 (m : List Int) (a r : Int)  (d0 : (ine r 0) = true) : ACalls Try.prog 27 [AV.ptr 0 0] (kScL0 a r m) (AV.v (.int .i64 0)) [] [] :=
  ACalls.nb (res := AV.v (.int .i64 0)) (.of_out [Orc.br true] [0, 1] [isB (ine r 0) true] Try.func27 (by kernel_rfl) (by kernel_rfl) (.cons d0 .nil))
theorem f27_2 (m : List Int) (a r : Int)  (d0 : (ine r 0) = false) : ACalls Try.prog 27 [AV.ptr 0 0] (kScL0 a r m) (AV.v (.int .i64 (isub .i64 (nlen (lenI m)) a))) [] [] :=
  ACalls.nb (res := AV.v (.int .i64 (isub .i64 (nlen (lenI m)) a))) (.of_out [Orc.br false] [0, 1] [isB (ine r 0) false, Mixed Try.prog] Try.func27 (by kernel_rfl) (by kernel_rfl) (.cons d0 (.cons (by show _ = _; kernel_rfl) .nil)))
theorem f27 (m : List Int) (a r : Int) : ACalls Try.prog 27 [AV.ptr 0 0] [AObj.cells 0 true [AV.sw 1 1, AV.v (.int .i64 a), AV.v (.int .i64 r)], AObj.ints 0 false IntKind.u8 m] (AV.v (.int .i64 (f27r0 m a r))) [] [] := by
  have h := (ACalls.cond (ine r 0) (fun d0 => (f27_1 m a r d0)) (fun d0 => (f27_2 m a r d0)))
  simp only [c_int, c_bool, c_str, c_agg, c_tup, c_fn, c_ifc, c_sl, c_pe, c_ptr, c_rows, c_siter, c_consA, c_consU, c_consO, c_cells, c_ints, c_bools, c_strs, c_same] at h
  exact h
theorem f25_1 (m : List Int) (a r : Int)  : ACalls Try.prog 25 [AV.ptr 0 0] (kScL0 a r m) (AV.v (.int .i64 a)) [] [] :=
  ACalls.nb (res := AV.v (.int .i64 a)) (.of_out [] [0, 1] [] Try.func25 (by kernel_rfl) (by kernel_rfl) .nil)
theorem f25 (m : List Int) (a r : Int) : ACalls Try.prog 25 [AV.ptr 0 0] [AObj.cells 0 true [AV.sw 1 1, AV.v (.int .i64 a), AV.v (.int .i64 r)], AObj.ints 0 false IntKind.u8 m] (AV.v (.int .i64 a)) [] [] := (f25_1 m a r)
theorem f26_1 (m : List Int) (a r : Int)  : ACalls Try.prog 26 [AV.ptr 0 0] (kScL0 a r m) (AV.v (.int .i64 r)) [] [] :=
  ACalls.nb (res := AV.v (.int .i64 r)) (.of_out [] [0, 1] [] Try.func26 (by kernel_rfl) (by kernel_rfl) .nil)
theorem f26 (m : List Int) (a r : Int) : ACalls Try.prog 26 [AV.ptr 0 0] [AObj.cells 0 true [AV.sw 1 1, AV.v (.int .i64 a), AV.v (.int .i64 r)], AObj.ints 0 false IntKind.u8 m] (AV.v (.int .i64 r)) [] [] := (f26_1 m a r)
theorem upV_u64 {m : List Int} {a : Int} (h : okC m a = true) (r x : Int) : u64B (upV m a r x) = true := by
  have := num0_spec h
  rw [u64B_iff]; unfold upV; cases upOk m a r x <;> simp <;> omega
theorem g46 (m : List Int) (a r : Int) (h : okC m a = true) : ACalls Try.prog 46 [AV.ptr 0 0] [AObj.cells 0 true [AV.sw 1 1, AV.v (.int .i64 a), AV.v (.int .i64 r)], AObj.ints 0 false IntKind.u8 m] (AV.v (.int .i64 (uz (upV m a r 18446744073709551615)))) [(0, AObj.cells 0 true [AV.sw 1 1, AV.v (.int .i64 (upA m a r 18446744073709551615)), AV.v (.int .i64 (upR m a r 18446744073709551615))])] [] := by
  have := f46 m a r h
  unfold f46r0 at this; rw [uz_code (upV_u64 h _ _)] at this; exact this
/-- how many bytes were not read -/
def lefC (m : List Int) (a r : Int) : Int := if r = 0 then m.length - a else 0
theorem g27 (m : List Int) (a r : Int) (h : okC m a = true) : ACalls Try.prog 27 [AV.ptr 0 0] [AObj.cells 0 true [AV.sw 1 1, AV.v (.int .i64 a), AV.v (.int .i64 r)], AObj.ints 0 false IntKind.u8 m] (AV.v (.int .i64 (lefC m a r))) [] [] := by
  have h' := okC_iff.1 h
  have := f27 m a r
  have e : f27r0 m a r = lefC m a r := by
    unfold f27r0 lefC; rw [cond_if]; simp only [ine_d, decide_eq_true_eq]
    by_cases hr : r = 0
    · rw [if_neg (by simp [hr]), if_pos hr]; unfold isub nlen lenI; rw [w_i64_in (by omega)]
    · rw [if_pos hr, if_neg hr]
  rw [e] at this; exact this
end Go.Proofs.Ytlmnohdgfjienaa.Code

set_option linter.unusedVariables false
set_option linter.unusedSimpArgs false
namespace Go.Proofs.Ytlmnohdgfjienaa.Code
open Go.Abs Go.Proofs.Ytlmnohdgfjienaa.Code
theorem upA_ok {m : List Int} {a : Int} (r x : Int) (h : okC m a = true) : okC m (upA m a r x) = true := by
  have sp := num0_spec h
  have h' := okC_iff.1 h
  rw [okC_iff]; refine ⟨?_, h'.2⟩
  unfold upA
  cases ho : upOk m a r x with
  | false => exact h'.1
  | true =>
    unfold upOk at ho; rw [decide_eq_true_eq] at ho
    have := sp.2.2.2.1 ho.2.1
    simp only [cond_true]; omega
theorem numG_vb : ∀ (n : Nat) (y acc : Int) (i : Nat) (rest : List Int), y.toNat ≤ n → i ≤ 9 → 0 ≤ y → y * 128 ^ i < 18446744073709551616 → (0 < i → 0 < y) →
    numG (vb y ++ rest) i acc = (acc + y * 128 ^ i, (i : Int) + ((vb y).length : Int), (0 : Int))
  | n, y, acc, i, rest, hn, hi, h0, hy, hp => by
    by_cases hlt : y < 128
    · rw [vb_lt ⟨h0, hlt⟩, List.singleton_append, numG]
      rw [if_neg, if_neg (by omega), if_neg (by omega)]
      · simp
      · rintro ⟨rfl, h1⟩; simp at hy; omega
    · have hi8 : i ≤ 8 := by
        rcases ten hi with rfl | rfl | rfl | rfl | rfl | rfl | rfl | rfl | rfl | rfl <;> simp at * <;> omega
      have hc0 : ¬ (i = 9 ∧ 1 < y % 128 + 128) := by omega
      have hc1 : 128 ≤ y % 128 + 128 := by omega
      rw [vb_ge (by omega), List.cons_append, numG, if_neg hc0, if_pos hc1]
      match n, hn with
      | 0, hn => omega
      | n + 1, hn =>
        have e : (128 : Int) ^ (i + 1) = 128 ^ i * 128 := Int.pow_succ ..
        have hp0 : 0 ≤ (128 : Int) ^ i := Int.pow_nonneg (by omega)
        have hdm : y = 128 * (y / 128) + y % 128 := by omega
        have hq : y / 128 * 128 ^ (i + 1) + y % 128 * 128 ^ i = y * 128 ^ i := by
          rw [e, show y / 128 * (128 ^ i * 128) = (128 * (y / 128)) * 128 ^ i from by rw [Int.mul_comm (128 ^ i) 128, ← Int.mul_assoc, Int.mul_comm (y / 128) 128], ← Int.add_mul, ← hdm]
        have hle : 0 ≤ y % 128 * 128 ^ i := Int.mul_nonneg (by omega) hp0
        have ih := numG_vb n (y / 128) (acc + (y % 128 + 128) % 128 * 128 ^ i) (i + 1) rest (by omega) (by omega) (by omega) (by omega) (by omega)
        rw [ih, show (y % 128 + 128) % 128 = y % 128 by omega]
        simp only [List.length_cons, Prod.mk.injEq, and_true]
        constructor
        · omega
        · omega
theorem num0_vb {m : List Int} {a y : Int} (rest : List Int) (hu : u64B y = true) (h : m.drop a.toNat = vb y ++ rest) : num0 m a = (y, ((vb y).length : Int), (0 : Int)) := by
  rw [u64B_iff] at hu
  unfold num0; rw [h, numG_vb y.toNat y 0 0 rest (Nat.le_refl _) (by omega) hu.1 (by simpa using hu.2) (by omega)]
  simp
theorem byB_app {a c : List Int} (h1 : byB a = true) (h2 : byB c = true) : byB (a ++ c) = true := by
  rw [byB_iff] at *; intro x hx; rcases List.mem_append.1 hx with h | h
  · exact h1 x h
  · exact h2 x h
theorem vb_by : ∀ (n : Nat) (x : Int), x.toNat ≤ n → 0 ≤ x → byB (vb x) = true
  | n, x, hn, h0 => by
    by_cases h : x < 128
    · rw [vb_lt ⟨h0, h⟩, byB_iff]; intro c hc; simp at hc; omega
    · rw [vb_ge (by omega), byB_iff]
      intro c hc
      rcases List.mem_cons.1 hc with rfl | hc
      · omega
      · match n, hn with
        | 0, hn => omega
        | n + 1, hn => exact byB_iff.1 (vb_by n (x / 128) (by omega) (by omega)) c hc
end Go.Proofs.Ytlmnohdgfjienaa.Code

set_option maxRecDepth 100000
set_option linter.all false
set_option maxHeartbeats 0
namespace Go.Proofs.Ytlmnohdgfjienaa.Cf
open Go.Abs Go.Proofs.Ytlmnohdgfjienaa.Code Go.Proofs.Ytlmnohdgfjienaa.Code
/-- a number that was read without error: its bytes stand there -/
theorem numG_inv : ∀ (s : List Int) (i : Nat) (x y n : Int), byB s = true → i ≤ 9 → numG s i x = (y, n, 0) →
    ∃ (v : Int) (rest : List Int), 0 ≤ v ∧ (0 < i → 0 < v) ∧ s = vb v ++ rest ∧ y = x + v * 128 ^ i ∧ n = (i : Int) + ((vb v).length : Int)
  | [], i, x, y, n, hb, hi, h => by simp [numG] at h
  | c :: s, i, x, y, n, hb, hi, h => by
    rw [byB_iff] at hb
    have hc := hb c (List.mem_cons_self ..)
    have hs : byB s = true := byB_iff.2 fun d hd => hb d (List.mem_cons_of_mem _ hd)
    rw [numG] at h
    by_cases h1 : i = 9 ∧ 1 < c
    · rw [if_pos h1] at h; simp at h
    rw [if_neg h1] at h
    by_cases h2 : 128 ≤ c
    · rw [if_pos h2] at h
      obtain ⟨v, rest, a1, a2, a3, a4, a5⟩ := numG_inv s (i + 1) _ y n hs (by omega) h
      have a2 := a2 (by omega)
      refine ⟨c % 128 + 128 * v, rest, by omega, fun _ => by omega, ?_, ?_, ?_⟩
      · rw [vb_ge (by omega), show (c % 128 + 128 * v) % 128 + 128 = c by omega, show (c % 128 + 128 * v) / 128 = v by omega, List.cons_append, ← a3]
      · rw [a4, Int.pow_succ]
        grind
      · rw [a5, vb_ge (show 128 ≤ c % 128 + 128 * v by omega), show (c % 128 + 128 * v) / 128 = v by omega, List.length_cons]
        push_cast; omega
    · rw [if_neg h2] at h
      by_cases h3 : c = 0 ∧ 0 < i
      · rw [if_pos h3] at h; simp at h
      rw [if_neg h3] at h
      simp only [Prod.mk.injEq] at h
      refine ⟨c, s, hc.1, fun hp => by omega, ?_, h.1.symm, ?_⟩
      · rw [vb_lt ⟨hc.1, by omega⟩]; rfl
      · rw [vb_lt ⟨hc.1, by omega⟩]; simp; omega
theorem num0_inv {m : List Int} {a y n : Int} (hb : byB m = true) (h : num0 m a = (y, n, 0)) : ∃ rest, 0 ≤ y ∧ m.drop a.toNat = vb y ++ rest ∧ n = ((vb y).length : Int) := by
  unfold num0 at h
  obtain ⟨v, rest, a1, -, a3, a4, a5⟩ := numG_inv _ 0 0 y n (byB_iff.2 fun d hd => byB_iff.1 hb d (List.mem_of_mem_drop hd)) (by omega) h
  have e : y = v := by simpa using a4
  subst e
  exact ⟨rest, a1, a3, by simpa using a5⟩
end Go.Proofs.Ytlmnohdgfjienaa.Cf

set_option maxRecDepth 100000
set_option linter.all false
set_option maxHeartbeats 4000000
set_option linter.unusedSimpArgs false
set_option linter.unusedVariables false
namespace Go.Proofs.Ytlmnohdgfjienaa.Cf
open Go.Abs
abbrev FF : List CK := [.int .i64, .int .i64, .int .i64, .int .i64, .int .i64, .int .i64, .int .i64, .int .i64, .int .i64, .int .i64]
@[reducible] def kScA0 (k : Int) (m : Int) (f : Int) (t : Int) (l : Int) (o : Int) (g : Int) (d : Int) (a : Int) (b : Int) := [AV.v (.int .i64 k), AV.v (.int .i64 m), AV.v (.int .i64 f), AV.v (.int .i64 t), AV.v (.int .i64 l), AV.v (.int .i64 o), AV.v (.int .i64 g), AV.v (.int .i64 d), AV.v (.int .i64 a), AV.v (.int .i64 b)]
@[reducible] def kScA1 (k : Int) (m : Int) (f : Int) (t : Int) (l : Int) (o : Int) (g : Int) (d : Int) (a : Int) (b : Int) := [AV.v (.int .i64 (imax 0 (imin k 2))), AV.v (.int .i64 (imax 1 (imin m 65536))), AV.v (.int .i64 (imax 1 (imin f 1000))), AV.v (.int .i64 (imax 0 (imin t 1099511627776))), AV.v (.int .i64 (imax 1 (imin l 1125899906842624))), AV.v (.int .i64 (imax (imax 1 (imin l 1125899906842624)) (imin o 1125899906842624))), AV.v (.int .i64 (imax 1 (imin g 1125899906842624))), AV.v (.int .i64 (imax 1 (imin d 1125899906842624))), AV.v (.int .i64 (imax 262144 (imin a 16777216))), AV.v (.int .i64 (imax (imax 1 (imin m 65536)) (imin b 1073741824)))]
@[reducible] def kScA2 (p : Int) (q : Int) (r : Int) (s : Int) (u : Int) (v : Int) (w : Int) (x : Int) := [AV.v (.int .i64 p), AV.v (.int .i64 q), AV.v (.int .i64 r), AV.v (.int .i64 s), AV.v (.int .i64 u), AV.v (.int .i64 v), AV.v (.int .i64 w), AV.v (.int .i64 x)]
@[reducible] def kScA3 (p : Int) (q : Int) (r : Int) (s : Int) (u : Int) (v : Int) (w : Int) (x : Int) := [AV.v (.int .i64 (imax 1 (imin p 1073741824))), AV.v (.int .i64 (imax 0 (imin q 67108864))), AV.v (.int .i64 (imax 1 (imin r 1125899906842624))), AV.v (.int .i64 (imax 0 (imin s 17179869184))), AV.v (.int .i64 (imax 0 (imin u 17179869184))), AV.v (.int .i64 (imax 0 (imin v 65536))), AV.v (.int .i64 (imax 0 (imin w 67108864))), AV.v (.int .i64 (imax 0 (imin x 67108864)))]
@[reducible] def kScA4 (k : Int) (m : Int) (f : Int) (t : Int) (l : Int) (o : Int) (g : Int) (d : Int) (a : Int) (b : Int) := [AV.v (.int .i64 (imax 0 (imin k 2))), AV.v (.int .i64 (imax 1 (imin m 65536))), AV.v (.int .i64 (imax 1 (imin f 1000))), AV.v (.int .i64 (imax 0 (imin t 1099511627776))), AV.v (.int .i64 (imax 1 (imin l 1125899906842624))), AV.v (.int .i64 (imax (imax 1 (imin l 1125899906842624)) (imin o 1125899906842624))), AV.v (.int .i64 (imax 1 (imin g 1125899906842624))), AV.v (.int .i64 (imax 1 (imin d 1125899906842624))), AV.v (.int .i64 (imax 262144 (imin a 16777216))), AV.v (.int .i64 b)]
@[reducible] def kScA5 (k : Int) (m : Int) (f : Int) (t : Int) (l : Int) (o : Int) (g : Int) (d : Int) (a : Int) (b : Int) := [AV.v (.int .i64 (imax 0 (imin k 2))), AV.v (.int .i64 (imax 1 (imin m 65536))), AV.v (.int .i64 (imax 1 (imin f 1000))), AV.v (.int .i64 (imax 0 (imin t 1099511627776))), AV.v (.int .i64 (imax 1 (imin l 1125899906842624))), AV.v (.int .i64 (imax (imax 1 (imin l 1125899906842624)) (imin o 1125899906842624))), AV.v (.int .i64 (imax 1 (imin g 1125899906842624))), AV.v (.int .i64 (imax 1 (imin d 1125899906842624))), AV.v (.int .i64 a), AV.v (.int .i64 b)]
@[reducible] def kScA6 (k : Int) (m : Int) (f : Int) (t : Int) (l : Int) (o : Int) (g : Int) (d : Int) (a : Int) (b : Int) := [AV.v (.int .i64 (imax 0 (imin k 2))), AV.v (.int .i64 (imax 1 (imin m 65536))), AV.v (.int .i64 (imax 1 (imin f 1000))), AV.v (.int .i64 (imax 0 (imin t 1099511627776))), AV.v (.int .i64 (imax 1 (imin l 1125899906842624))), AV.v (.int .i64 (imax (imax 1 (imin l 1125899906842624)) (imin o 1125899906842624))), AV.v (.int .i64 (imax 1 (imin g 1125899906842624))), AV.v (.int .i64 d), AV.v (.int .i64 a), AV.v (.int .i64 b)]
@[reducible] def kScA7 (k : Int) (m : Int) (f : Int) (t : Int) (l : Int) (o : Int) (g : Int) (d : Int) (a : Int) (b : Int) := [AV.v (.int .i64 (imax 0 (imin k 2))), AV.v (.int .i64 (imax 1 (imin m 65536))), AV.v (.int .i64 (imax 1 (imin f 1000))), AV.v (.int .i64 (imax 0 (imin t 1099511627776))), AV.v (.int .i64 (imax 1 (imin l 1125899906842624))), AV.v (.int .i64 (imax (imax 1 (imin l 1125899906842624)) (imin o 1125899906842624))), AV.v (.int .i64 g), AV.v (.int .i64 d), AV.v (.int .i64 a), AV.v (.int .i64 b)]
@[reducible] def kScA8 (p : Int) (q : Int) (r : Int) (s : Int) (u : Int) (v : Int) (w : Int) (x : Int) := [AV.v (.int .i64 (imax 1 (imin p 1073741824))), AV.v (.int .i64 (imax 0 (imin q 67108864))), AV.v (.int .i64 (imax 1 (imin r 1125899906842624))), AV.v (.int .i64 (imax 0 (imin s 17179869184))), AV.v (.int .i64 (imax 0 (imin u 17179869184))), AV.v (.int .i64 (imax 0 (imin v 65536))), AV.v (.int .i64 (imax 0 (imin w 67108864))), AV.v (.int .i64 x)]
@[reducible] def kScA9 (p : Int) (q : Int) (r : Int) (s : Int) (u : Int) (v : Int) (w : Int) (x : Int) := [AV.v (.int .i64 (imax 1 (imin p 1073741824))), AV.v (.int .i64 (imax 0 (imin q 67108864))), AV.v (.int .i64 (imax 1 (imin r 1125899906842624))), AV.v (.int .i64 (imax 0 (imin s 17179869184))), AV.v (.int .i64 (imax 0 (imin u 17179869184))), AV.v (.int .i64 (imax 0 (imin v 65536))), AV.v (.int .i64 w), AV.v (.int .i64 x)]
@[reducible] def kScA10 (k : Int) (m : Int) (f : Int) (t : Int) (l : Int) (o : Int) (g : Int) (d : Int) (a : Int) (b : Int) := [AV.v (.int .i64 (imax 0 (imin k 2))), AV.v (.int .i64 (imax 1 (imin m 65536))), AV.v (.int .i64 (imax 1 (imin f 1000))), AV.v (.int .i64 (imax 0 (imin t 1099511627776))), AV.v (.int .i64 (imax 1 (imin l 1125899906842624))), AV.v (.int .i64 o), AV.v (.int .i64 g), AV.v (.int .i64 d), AV.v (.int .i64 a), AV.v (.int .i64 b)]
@[reducible] def kScA11 (p : Int) (q : Int) (r : Int) (s : Int) (u : Int) (v : Int) (w : Int) (x : Int) := [AV.v (.int .i64 (imax 1 (imin p 1073741824))), AV.v (.int .i64 (imax 0 (imin q 67108864))), AV.v (.int .i64 (imax 1 (imin r 1125899906842624))), AV.v (.int .i64 (imax 0 (imin s 17179869184))), AV.v (.int .i64 (imax 0 (imin u 17179869184))), AV.v (.int .i64 v), AV.v (.int .i64 w), AV.v (.int .i64 x)]
@[reducible] def kScA12 (k : Int) (m : Int) (f : Int) (t : Int) (l : Int) (o : Int) (g : Int) (d : Int) (a : Int) (b : Int) := [AV.v (.int .i64 (imax 0 (imin k 2))), AV.v (.int .i64 (imax 1 (imin m 65536))), AV.v (.int .i64 (imax 1 (imin f 1000))), AV.v (.int .i64 (imax 0 (imin t 1099511627776))), AV.v (.int .i64 l), AV.v (.int .i64 o), AV.v (.int .i64 g), AV.v (.int .i64 d), AV.v (.int .i64 a), AV.v (.int .i64 b)]
@[reducible] def kScA13 (p : Int) (q : Int) (r : Int) (s : Int) (u : Int) (v : Int) (w : Int) (x : Int) := [AV.v (.int .i64 (imax 1 (imin p 1073741824))), AV.v (.int .i64 (imax 0 (imin q 67108864))), AV.v (.int .i64 (imax 1 (imin r 1125899906842624))), AV.v (.int .i64 (imax 0 (imin s 17179869184))), AV.v (.int .i64 u), AV.v (.int .i64 v), AV.v (.int .i64 w), AV.v (.int .i64 x)]
@[reducible] def kScA14 (k : Int) (m : Int) (f : Int) (t : Int) (l : Int) (o : Int) (g : Int) (d : Int) (a : Int) (b : Int) := [AV.v (.int .i64 (imin (imax k 0) 2)), AV.v (.int .i64 (imin (imax m 1) 65536)), AV.v (.int .i64 (imin (imax f 1) 1000)), AV.v (.int .i64 (imin (imax t 0) 1099511627776)), AV.v (.int .i64 (imin (imax l 1) 1125899906842624)), AV.v (.int .i64 (imin (imax o (imin (imax l 1) 1125899906842624)) 1125899906842624)), AV.v (.int .i64 (imin (imax g 1) 1125899906842624)), AV.v (.int .i64 (imin (imax d 1) 1125899906842624)), AV.v (.int .i64 (imin (imax a 262144) 16777216)), AV.v (.int .i64 (imin (imax b (imin (imax m 1) 65536)) 1073741824))]
@[reducible] def kScA15 (k : Int) (m : Int) (f : Int) (t : Int) (l : Int) (o : Int) (g : Int) (d : Int) (a : Int) (b : Int) := [AV.v (.int .i64 (imax 0 (imin k 2))), AV.v (.int .i64 (imax 1 (imin m 65536))), AV.v (.int .i64 (imax 1 (imin f 1000))), AV.v (.int .i64 t), AV.v (.int .i64 l), AV.v (.int .i64 o), AV.v (.int .i64 g), AV.v (.int .i64 d), AV.v (.int .i64 a), AV.v (.int .i64 b)]
@[reducible] def kScA16 (p : Int) (q : Int) (r : Int) (s : Int) (u : Int) (v : Int) (w : Int) (x : Int) := [AV.v (.int .i64 (imax 1 (imin p 1073741824))), AV.v (.int .i64 (imax 0 (imin q 67108864))), AV.v (.int .i64 (imax 1 (imin r 1125899906842624))), AV.v (.int .i64 s), AV.v (.int .i64 u), AV.v (.int .i64 v), AV.v (.int .i64 w), AV.v (.int .i64 x)]
@[reducible] def kScA17 (x : Int) (lo : Int) (hi : Int) := [AV.v (.int .i64 x), AV.v (.int .i64 lo), AV.v (.int .i64 hi)]
@[reducible] def kScA18 (k : Int) (m : Int) (f : Int) (t : Int) (l : Int) (o : Int) (g : Int) (d : Int) (a : Int) (b : Int) := [AV.v (.int .i64 (imax 0 (imin k 2))), AV.v (.int .i64 (imax 1 (imin m 65536))), AV.v (.int .i64 f), AV.v (.int .i64 t), AV.v (.int .i64 l), AV.v (.int .i64 o), AV.v (.int .i64 g), AV.v (.int .i64 d), AV.v (.int .i64 a), AV.v (.int .i64 b)]
@[reducible] def kScA19 (p : Int) (q : Int) (r : Int) (s : Int) (u : Int) (v : Int) (w : Int) (x : Int) := [AV.v (.int .i64 (imax 1 (imin p 1073741824))), AV.v (.int .i64 (imax 0 (imin q 67108864))), AV.v (.int .i64 r), AV.v (.int .i64 s), AV.v (.int .i64 u), AV.v (.int .i64 v), AV.v (.int .i64 w), AV.v (.int .i64 x)]
@[reducible] def kScA20 (p : Int) (q : Int) (r : Int) (s : Int) (u : Int) (v : Int) (w : Int) (x : Int) := [AV.v (.int .i64 (imin (imax p 1) 1073741824)), AV.v (.int .i64 (imin (imax q 0) 67108864)), AV.v (.int .i64 (imin (imax r 1) 1125899906842624)), AV.v (.int .i64 (imin (imax s 0) 17179869184)), AV.v (.int .i64 (imin (imax u 0) 17179869184)), AV.v (.int .i64 (imin (imax v 0) 65536)), AV.v (.int .i64 (imin (imax w 0) 67108864)), AV.v (.int .i64 (imin (imax x 0) 67108864))]
@[reducible] def kScA21 (p : Int) (q : Int) (r : Int) (s : Int) (u : Int) (v : Int) (w : Int) (x : Int) := [AV.v (.int .i64 (imax 1 (imin p 1073741824))), AV.v (.int .i64 q), AV.v (.int .i64 r), AV.v (.int .i64 s), AV.v (.int .i64 u), AV.v (.int .i64 v), AV.v (.int .i64 w), AV.v (.int .i64 x)]
/-- kept within -/
def kp (x lo hi : Int) : Int := imin (imax x lo) hi
theorem f54_1 (x lo hi : Int)  : ACalls Try.prog 54 (kScA17 x lo hi) [] (AV.v (.int .i64 (imax lo (imin x hi)))) [] [] :=
  ACalls.nb (res := AV.v (.int .i64 (imax lo (imin x hi)))) (.of_out [] [] [] Try.func54 (by kernel_rfl) (by kernel_rfl) .nil)
theorem f54 (x lo hi : Int) : ACalls Try.prog 54 [AV.v (.int .i64 x), AV.v (.int .i64 lo), AV.v (.int .i64 hi)] [] (AV.v (.int .i64 (imax lo (imin x hi)))) [] [] := (f54_1 x lo hi)
theorem f30_1 (x lo hi : Int)  : ACalls Try.prog 30 (kScA17 x lo hi) [] (AV.v (.int .i64 (imin (imax x lo) hi))) [] [] :=
  ACalls.nb (res := AV.v (.int .i64 (imin (imax x lo) hi))) (.of_out [] [] [] Try.func30 (by kernel_rfl) (by kernel_rfl) .nil)
theorem f30 (x lo hi : Int) : ACalls Try.prog 30 [AV.v (.int .i64 x), AV.v (.int .i64 lo), AV.v (.int .i64 hi)] [] (AV.v (.int .i64 (imin (imax x lo) hi))) [] [] := (f30_1 x lo hi)
theorem f51_1 (x lo hi : Int)  : ACalls Try.prog 51 (kScA17 x lo hi) [] (AV.v (.int .i64 (imin (imax x lo) hi))) [] [] :=
  ACalls.nb (res := AV.v (.int .i64 (imin (imax x lo) hi))) (.of_out [] [] [] Try.func51 (by kernel_rfl) (by kernel_rfl) .nil)
theorem f51 (x lo hi : Int) : ACalls Try.prog 51 [AV.v (.int .i64 x), AV.v (.int .i64 lo), AV.v (.int .i64 hi)] [] (AV.v (.int .i64 (imin (imax x lo) hi))) [] [] := (f51_1 x lo hi)
theorem f49_1 (x lo hi : Int)  : ACalls Try.prog 49 (kScA17 x lo hi) [] (AV.v (.int .i64 (imin (imax x lo) hi))) [] [] :=
  ACalls.nb (res := AV.v (.int .i64 (imin (imax x lo) hi))) (.of_out [] [] [] Try.func49 (by kernel_rfl) (by kernel_rfl) .nil)
theorem f49 (x lo hi : Int) : ACalls Try.prog 49 [AV.v (.int .i64 x), AV.v (.int .i64 lo), AV.v (.int .i64 hi)] [] (AV.v (.int .i64 (imin (imax x lo) hi))) [] [] := (f49_1 x lo hi)
theorem f50_1 (x : Int)  : ACalls Try.prog 50 [AV.v (.int .i64 x)] [] (AV.v (.int .i64 (imin (imax x 0) 2))) [] [] :=
  ACalls.nb (res := AV.v (.int .i64 (imin (imax x 0) 2))) (.of_out [] [] [] Try.func50 (by kernel_rfl) (by kernel_rfl) .nil)
theorem f50 (x : Int) : ACalls Try.prog 50 [AV.v (.int .i64 x)] [] (AV.v (.int .i64 (imin (imax x 0) 2))) [] [] := (f50_1 x)
theorem f35_1 (x lo hi : Int)  (d0 : (ile lo x) = true) : ACalls Try.prog 35 (kScA17 x lo hi) [] (AV.v (Value.bool (ile x hi))) [] [] :=
  ACalls.nb (res := AV.v (Value.bool (ile x hi))) (.of_out [Orc.br true] [] [isB (ile lo x) true] Try.func35 (by kernel_rfl) (by kernel_rfl) (.cons d0 .nil))
theorem f35_2 (x lo hi : Int)  (d0 : (ile lo x) = false) : ACalls Try.prog 35 (kScA17 x lo hi) [] (AV.v (Value.bool false)) [] [] :=
  ACalls.nb (res := AV.v (Value.bool false)) (.of_out [Orc.br false] [] [isB (ile lo x) false] Try.func35 (by kernel_rfl) (by kernel_rfl) (.cons d0 .nil))
theorem f35 (x lo hi : Int) : ACalls Try.prog 35 [AV.v (.int .i64 x), AV.v (.int .i64 lo), AV.v (.int .i64 hi)] [] (AV.v (Value.bool (bif ile lo x then ile x hi else false))) [] [] := by
  have h := (ACalls.cond (ile lo x) (fun d0 => (f35_1 x lo hi d0)) (fun d0 => (f35_2 x lo hi d0)))
  simp only [c_int, c_bool, c_str, c_agg, c_tup, c_fn, c_ifc, c_sl, c_pe, c_ptr, c_rows, c_siter, c_consA, c_consU, c_consO, c_cells, c_ints, c_bools, c_strs, c_same] at h
  exact h
theorem f40_1 (x lo hi : Int)  (d0 : (ile lo x) = true) : ACalls Try.prog 40 (kScA17 x lo hi) [] (AV.v (Value.bool (ile x hi))) [] [] :=
  ACalls.nb (res := AV.v (Value.bool (ile x hi))) (.of_out [Orc.br true] [] [isB (ile lo x) true] Try.func40 (by kernel_rfl) (by kernel_rfl) (.cons d0 .nil))
theorem f40_2 (x lo hi : Int)  (d0 : (ile lo x) = false) : ACalls Try.prog 40 (kScA17 x lo hi) [] (AV.v (Value.bool false)) [] [] :=
  ACalls.nb (res := AV.v (Value.bool false)) (.of_out [Orc.br false] [] [isB (ile lo x) false] Try.func40 (by kernel_rfl) (by kernel_rfl) (.cons d0 .nil))
theorem f40 (x lo hi : Int) : ACalls Try.prog 40 [AV.v (.int .i64 x), AV.v (.int .i64 lo), AV.v (.int .i64 hi)] [] (AV.v (Value.bool (bif ile lo x then ile x hi else false))) [] [] := by
  have h := (ACalls.cond (ile lo x) (fun d0 => (f40_1 x lo hi d0)) (fun d0 => (f40_2 x lo hi d0)))
  simp only [c_int, c_bool, c_str, c_agg, c_tup, c_fn, c_ifc, c_sl, c_pe, c_ptr, c_rows, c_siter, c_consA, c_consU, c_consO, c_cells, c_ints, c_bools, c_strs, c_same] at h
  exact h
def f34r0 (x : Int) : Bool := notB (bif ile (-1) x then ile x 1073741824 else false)
theorem f34_1 (x : Int)  : ACalls Try.prog 34 [AV.v (.int .i64 x)] [] (AV.v (Value.bool (notB (bif ile (-1) x then ile x 1073741824 else false)))) [] [] :=
  ACalls.nb (res := AV.v (Value.bool (notB (bif ile (-1) x then ile x 1073741824 else false)))) (.of_out [Orc.call [] (AV.v (Value.bool (bif ile (-1) x then ile x 1073741824 else false))) [] []] [] [ACalls Try.prog 35 [AV.v (.int .i64 x), AV.v (.int .i64 (-1)), AV.v (.int .i64 1073741824)] [] (AV.v (Value.bool (bif ile (-1) x then ile x 1073741824 else false))) [] []] Try.func34 (by kernel_rfl) (by kernel_rfl) (.cons (by apply f35) .nil))
theorem f34 (x : Int) : ACalls Try.prog 34 [AV.v (.int .i64 x)] [] (AV.v (Value.bool (f34r0 x))) [] [] := (f34_1 x)
theorem f36x1_1 (k m f t l o g d a b lo hi : Int)  : ACalls Try.prog 59 [AV.ptr 0 1, AV.v (.int .i64 lo), AV.v (.int .i64 hi)] [AObj.cells 0 true (kScA0 k m f t l o g d a b)] (AV.tup []) [(0, AObj.cells 0 true [AV.v (.int .i64 k), AV.v (.int .i64 (imax lo (imin m hi))), AV.v (.int .i64 f), AV.v (.int .i64 t), AV.v (.int .i64 l), AV.v (.int .i64 o), AV.v (.int .i64 g), AV.v (.int .i64 d), AV.v (.int .i64 a), AV.v (.int .i64 b)])] [] :=
  ACalls.nb (res := AV.tup []) (.of_out [Orc.call [] (AV.v (.int .i64 (imax lo (imin m hi)))) [] []] [0] [ACalls Try.prog 54 [AV.v (.int .i64 m), AV.v (.int .i64 lo), AV.v (.int .i64 hi)] [] (AV.v (.int .i64 (imax lo (imin m hi)))) [] []] Try.func59 (by kernel_rfl) (by kernel_rfl) (.cons (by apply f54) .nil))
theorem f36x1 (k m f t l o g d a b lo hi : Int) : ACalls Try.prog 59 [AV.ptr 0 1, AV.v (.int .i64 lo), AV.v (.int .i64 hi)] [AObj.cells 0 true [AV.v (.int .i64 k), AV.v (.int .i64 m), AV.v (.int .i64 f), AV.v (.int .i64 t), AV.v (.int .i64 l), AV.v (.int .i64 o), AV.v (.int .i64 g), AV.v (.int .i64 d), AV.v (.int .i64 a), AV.v (.int .i64 b)]] (AV.tup []) [(0, AObj.cells 0 true [AV.v (.int .i64 k), AV.v (.int .i64 (imax lo (imin m hi))), AV.v (.int .i64 f), AV.v (.int .i64 t), AV.v (.int .i64 l), AV.v (.int .i64 o), AV.v (.int .i64 g), AV.v (.int .i64 d), AV.v (.int .i64 a), AV.v (.int .i64 b)])] [] := (f36x1_1 k m f t l o g d a b lo hi)
theorem f36x2_1 (k m f t l o g d a b lo hi : Int)  : ACalls Try.prog 59 [AV.ptr 0 2, AV.v (.int .i64 lo), AV.v (.int .i64 hi)] [AObj.cells 0 true (kScA0 k m f t l o g d a b)] (AV.tup []) [(0, AObj.cells 0 true [AV.v (.int .i64 k), AV.v (.int .i64 m), AV.v (.int .i64 (imax lo (imin f hi))), AV.v (.int .i64 t), AV.v (.int .i64 l), AV.v (.int .i64 o), AV.v (.int .i64 g), AV.v (.int .i64 d), AV.v (.int .i64 a), AV.v (.int .i64 b)])] [] :=
  ACalls.nb (res := AV.tup []) (.of_out [Orc.call [] (AV.v (.int .i64 (imax lo (imin f hi)))) [] []] [0] [ACalls Try.prog 54 [AV.v (.int .i64 f), AV.v (.int .i64 lo), AV.v (.int .i64 hi)] [] (AV.v (.int .i64 (imax lo (imin f hi)))) [] []] Try.func59 (by kernel_rfl) (by kernel_rfl) (.cons (by apply f54) .nil))
theorem f36x2 (k m f t l o g d a b lo hi : Int) : ACalls Try.prog 59 [AV.ptr 0 2, AV.v (.int .i64 lo), AV.v (.int .i64 hi)] [AObj.cells 0 true [AV.v (.int .i64 k), AV.v (.int .i64 m), AV.v (.int .i64 f), AV.v (.int .i64 t), AV.v (.int .i64 l), AV.v (.int .i64 o), AV.v (.int .i64 g), AV.v (.int .i64 d), AV.v (.int .i64 a), AV.v (.int .i64 b)]] (AV.tup []) [(0, AObj.cells 0 true [AV.v (.int .i64 k), AV.v (.int .i64 m), AV.v (.int .i64 (imax lo (imin f hi))), AV.v (.int .i64 t), AV.v (.int .i64 l), AV.v (.int .i64 o), AV.v (.int .i64 g), AV.v (.int .i64 d), AV.v (.int .i64 a), AV.v (.int .i64 b)])] [] := (f36x2_1 k m f t l o g d a b lo hi)
theorem f36x3_1 (k m f t l o g d a b lo hi : Int)  : ACalls Try.prog 59 [AV.ptr 0 3, AV.v (.int .i64 lo), AV.v (.int .i64 hi)] [AObj.cells 0 true (kScA0 k m f t l o g d a b)] (AV.tup []) [(0, AObj.cells 0 true [AV.v (.int .i64 k), AV.v (.int .i64 m), AV.v (.int .i64 f), AV.v (.int .i64 (imax lo (imin t hi))), AV.v (.int .i64 l), AV.v (.int .i64 o), AV.v (.int .i64 g), AV.v (.int .i64 d), AV.v (.int .i64 a), AV.v (.int .i64 b)])] [] :=
  ACalls.nb (res := AV.tup []) (.of_out [Orc.call [] (AV.v (.int .i64 (imax lo (imin t hi)))) [] []] [0] [ACalls Try.prog 54 [AV.v (.int .i64 t), AV.v (.int .i64 lo), AV.v (.int .i64 hi)] [] (AV.v (.int .i64 (imax lo (imin t hi)))) [] []] Try.func59 (by kernel_rfl) (by kernel_rfl) (.cons (by apply f54) .nil))
theorem f36x3 (k m f t l o g d a b lo hi : Int) : ACalls Try.prog 59 [AV.ptr 0 3, AV.v (.int .i64 lo), AV.v (.int .i64 hi)] [AObj.cells 0 true [AV.v (.int .i64 k), AV.v (.int .i64 m), AV.v (.int .i64 f), AV.v (.int .i64 t), AV.v (.int .i64 l), AV.v (.int .i64 o), AV.v (.int .i64 g), AV.v (.int .i64 d), AV.v (.int .i64 a), AV.v (.int .i64 b)]] (AV.tup []) [(0, AObj.cells 0 true [AV.v (.int .i64 k), AV.v (.int .i64 m), AV.v (.int .i64 f), AV.v (.int .i64 (imax lo (imin t hi))), AV.v (.int .i64 l), AV.v (.int .i64 o), AV.v (.int .i64 g), AV.v (.int .i64 d), AV.v (.int .i64 a), AV.v (.int .i64 b)])] [] := (f36x3_1 k m f t l o g d a b lo hi)
theorem f36x4_1 (k m f t l o g d a b lo hi : Int)  : ACalls Try.prog 59 [AV.ptr 0 4, AV.v (.int .i64 lo), AV.v (.int .i64 hi)] [AObj.cells 0 true (kScA0 k m f t l o g d a b)] (AV.tup []) [(0, AObj.cells 0 true [AV.v (.int .i64 k), AV.v (.int .i64 m), AV.v (.int .i64 f), AV.v (.int .i64 t), AV.v (.int .i64 (imax lo (imin l hi))), AV.v (.int .i64 o), AV.v (.int .i64 g), AV.v (.int .i64 d), AV.v (.int .i64 a), AV.v (.int .i64 b)])] [] :=
  ACalls.nb (res := AV.tup []) (.of_out [Orc.call [] (AV.v (.int .i64 (imax lo (imin l hi)))) [] []] [0] [ACalls Try.prog 54 [AV.v (.int .i64 l), AV.v (.int .i64 lo), AV.v (.int .i64 hi)] [] (AV.v (.int .i64 (imax lo (imin l hi)))) [] []] Try.func59 (by kernel_rfl) (by kernel_rfl) (.cons (by apply f54) .nil))
theorem f36x4 (k m f t l o g d a b lo hi : Int) : ACalls Try.prog 59 [AV.ptr 0 4, AV.v (.int .i64 lo), AV.v (.int .i64 hi)] [AObj.cells 0 true [AV.v (.int .i64 k), AV.v (.int .i64 m), AV.v (.int .i64 f), AV.v (.int .i64 t), AV.v (.int .i64 l), AV.v (.int .i64 o), AV.v (.int .i64 g), AV.v (.int .i64 d), AV.v (.int .i64 a), AV.v (.int .i64 b)]] (AV.tup []) [(0, AObj.cells 0 true [AV.v (.int .i64 k), AV.v (.int .i64 m), AV.v (.int .i64 f), AV.v (.int .i64 t), AV.v (.int .i64 (imax lo (imin l hi))), AV.v (.int .i64 o), AV.v (.int .i64 g), AV.v (.int .i64 d), AV.v (.int .i64 a), AV.v (.int .i64 b)])] [] := (f36x4_1 k m f t l o g d a b lo hi)
theorem f36x5_1 (k m f t l o g d a b lo hi : Int)  : ACalls Try.prog 59 [AV.ptr 0 5, AV.v (.int .i64 lo), AV.v (.int .i64 hi)] [AObj.cells 0 true (kScA0 k m f t l o g d a b)] (AV.tup []) [(0, AObj.cells 0 true [AV.v (.int .i64 k), AV.v (.int .i64 m), AV.v (.int .i64 f), AV.v (.int .i64 t), AV.v (.int .i64 l), AV.v (.int .i64 (imax lo (imin o hi))), AV.v (.int .i64 g), AV.v (.int .i64 d), AV.v (.int .i64 a), AV.v (.int .i64 b)])] [] :=
  ACalls.nb (res := AV.tup []) (.of_out [Orc.call [] (AV.v (.int .i64 (imax lo (imin o hi)))) [] []] [0] [ACalls Try.prog 54 [AV.v (.int .i64 o), AV.v (.int .i64 lo), AV.v (.int .i64 hi)] [] (AV.v (.int .i64 (imax lo (imin o hi)))) [] []] Try.func59 (by kernel_rfl) (by kernel_rfl) (.cons (by apply f54) .nil))
theorem f36x5 (k m f t l o g d a b lo hi : Int) : ACalls Try.prog 59 [AV.ptr 0 5, AV.v (.int .i64 lo), AV.v (.int .i64 hi)] [AObj.cells 0 true [AV.v (.int .i64 k), AV.v (.int .i64 m), AV.v (.int .i64 f), AV.v (.int .i64 t), AV.v (.int .i64 l), AV.v (.int .i64 o), AV.v (.int .i64 g), AV.v (.int .i64 d), AV.v (.int .i64 a), AV.v (.int .i64 b)]] (AV.tup []) [(0, AObj.cells 0 true [AV.v (.int .i64 k), AV.v (.int .i64 m), AV.v (.int .i64 f), AV.v (.int .i64 t), AV.v (.int .i64 l), AV.v (.int .i64 (imax lo (imin o hi))), AV.v (.int .i64 g), AV.v (.int .i64 d), AV.v (.int .i64 a), AV.v (.int .i64 b)])] [] := (f36x5_1 k m f t l o g d a b lo hi)
theorem f36x6_1 (k m f t l o g d a b lo hi : Int)  : ACalls Try.prog 59 [AV.ptr 0 6, AV.v (.int .i64 lo), AV.v (.int .i64 hi)] [AObj.cells 0 true (kScA0 k m f t l o g d a b)] (AV.tup []) [(0, AObj.cells 0 true [AV.v (.int .i64 k), AV.v (.int .i64 m), AV.v (.int .i64 f), AV.v (.int .i64 t), AV.v (.int .i64 l), AV.v (.int .i64 o), AV.v (.int .i64 (imax lo (imin g hi))), AV.v (.int .i64 d), AV.v (.int .i64 a), AV.v (.int .i64 b)])] [] :=
  ACalls.nb (res := AV.tup []) (.of_out [Orc.call [] (AV.v (.int .i64 (imax lo (imin g hi)))) [] []] [0] [ACalls Try.prog 54 [AV.v (.int .i64 g), AV.v (.int .i64 lo), AV.v (.int .i64 hi)] [] (AV.v (.int .i64 (imax lo (imin g hi)))) [] []] Try.func59 (by kernel_rfl) (by kernel_rfl) (.cons (by apply f54) .nil))
theorem f36x6 (k m f t l o g d a b lo hi : Int) : ACalls Try.prog 59 [AV.ptr 0 6, AV.v (.int .i64 lo), AV.v (.int .i64 hi)] [AObj.cells 0 true [AV.v (.int .i64 k), AV.v (.int .i64 m), AV.v (.int .i64 f), AV.v (.int .i64 t), AV.v (.int .i64 l), AV.v (.int .i64 o), AV.v (.int .i64 g), AV.v (.int .i64 d), AV.v (.int .i64 a), AV.v (.int .i64 b)]] (AV.tup []) [(0, AObj.cells 0 true [AV.v (.int .i64 k), AV.v (.int .i64 m), AV.v (.int .i64 f), AV.v (.int .i64 t), AV.v (.int .i64 l), AV.v (.int .i64 o), AV.v (.int .i64 (imax lo (imin g hi))), AV.v (.int .i64 d), AV.v (.int .i64 a), AV.v (.int .i64 b)])] [] := (f36x6_1 k m f t l o g d a b lo hi)
theorem f36x7_1 (k m f t l o g d a b lo hi : Int)  : ACalls Try.prog 59 [AV.ptr 0 7, AV.v (.int .i64 lo), AV.v (.int .i64 hi)] [AObj.cells 0 true (kScA0 k m f t l o g d a b)] (AV.tup []) [(0, AObj.cells 0 true [AV.v (.int .i64 k), AV.v (.int .i64 m), AV.v (.int .i64 f), AV.v (.int .i64 t), AV.v (.int .i64 l), AV.v (.int .i64 o), AV.v (.int .i64 g), AV.v (.int .i64 (imax lo (imin d hi))), AV.v (.int .i64 a), AV.v (.int .i64 b)])] [] :=
  ACalls.nb (res := AV.tup []) (.of_out [Orc.call [] (AV.v (.int .i64 (imax lo (imin d hi)))) [] []] [0] [ACalls Try.prog 54 [AV.v (.int .i64 d), AV.v (.int .i64 lo), AV.v (.int .i64 hi)] [] (AV.v (.int .i64 (imax lo (imin d hi)))) [] []] Try.func59 (by kernel_rfl) (by kernel_rfl) (.cons (by apply f54) .nil))
theorem f36x7 (k m f t l o g d a b lo hi : Int) : ACalls Try.prog 59 [AV.ptr 0 7, AV.v (.int .i64 lo), AV.v (.int .i64 hi)] [AObj.cells 0 true [AV.v (.int .i64 k), AV.v (.int .i64 m), AV.v (.int .i64 f), AV.v (.int .i64 t), AV.v (.int .i64 l), AV.v (.int .i64 o), AV.v (.int .i64 g), AV.v (.int .i64 d), AV.v (.int .i64 a), AV.v (.int .i64 b)]] (AV.tup []) [(0, AObj.cells 0 true [AV.v (.int .i64 k), AV.v (.int .i64 m), AV.v (.int .i64 f), AV.v (.int .i64 t), AV.v (.int .i64 l), AV.v (.int .i64 o), AV.v (.int .i64 g), AV.v (.int .i64 (imax lo (imin d hi))), AV.v (.int .i64 a), AV.v (.int .i64 b)])] [] := (f36x7_1 k m f t l o g d a b lo hi)
theorem f36x8_1 (k m f t l o g d a b lo hi : Int)  : ACalls Try.prog 59 [AV.ptr 0 8, AV.v (.int .i64 lo), AV.v (.int .i64 hi)] [AObj.cells 0 true (kScA0 k m f t l o g d a b)] (AV.tup []) [(0, AObj.cells 0 true [AV.v (.int .i64 k), AV.v (.int .i64 m), AV.v (.int .i64 f), AV.v (.int .i64 t), AV.v (.int .i64 l), AV.v (.int .i64 o), AV.v (.int .i64 g), AV.v (.int .i64 d), AV.v (.int .i64 (imax lo (imin a hi))), AV.v (.int .i64 b)])] [] :=
  ACalls.nb (res := AV.tup []) (.of_out [Orc.call [] (AV.v (.int .i64 (imax lo (imin a hi)))) [] []] [0] [ACalls Try.prog 54 [AV.v (.int .i64 a), AV.v (.int .i64 lo), AV.v (.int .i64 hi)] [] (AV.v (.int .i64 (imax lo (imin a hi)))) [] []] Try.func59 (by kernel_rfl) (by kernel_rfl) (.cons (by apply f54) .nil))
theorem f36x8 (k m f t l o g d a b lo hi : Int) : ACalls Try.prog 59 [AV.ptr 0 8, AV.v (.int .i64 lo), AV.v (.int .i64 hi)] [AObj.cells 0 true [AV.v (.int .i64 k), AV.v (.int .i64 m), AV.v (.int .i64 f), AV.v (.int .i64 t), AV.v (.int .i64 l), AV.v (.int .i64 o), AV.v (.int .i64 g), AV.v (.int .i64 d), AV.v (.int .i64 a), AV.v (.int .i64 b)]] (AV.tup []) [(0, AObj.cells 0 true [AV.v (.int .i64 k), AV.v (.int .i64 m), AV.v (.int .i64 f), AV.v (.int .i64 t), AV.v (.int .i64 l), AV.v (.int .i64 o), AV.v (.int .i64 g), AV.v (.int .i64 d), AV.v (.int .i64 (imax lo (imin a hi))), AV.v (.int .i64 b)])] [] := (f36x8_1 k m f t l o g d a b lo hi)
theorem f36x9_1 (k m f t l o g d a b lo hi : Int)  : ACalls Try.prog 59 [AV.ptr 0 9, AV.v (.int .i64 lo), AV.v (.int .i64 hi)] [AObj.cells 0 true (kScA0 k m f t l o g d a b)] (AV.tup []) [(0, AObj.cells 0 true [AV.v (.int .i64 k), AV.v (.int .i64 m), AV.v (.int .i64 f), AV.v (.int .i64 t), AV.v (.int .i64 l), AV.v (.int .i64 o), AV.v (.int .i64 g), AV.v (.int .i64 d), AV.v (.int .i64 a), AV.v (.int .i64 (imax lo (imin b hi)))])] [] :=
  ACalls.nb (res := AV.tup []) (.of_out [Orc.call [] (AV.v (.int .i64 (imax lo (imin b hi)))) [] []] [0] [ACalls Try.prog 54 [AV.v (.int .i64 b), AV.v (.int .i64 lo), AV.v (.int .i64 hi)] [] (AV.v (.int .i64 (imax lo (imin b hi)))) [] []] Try.func59 (by kernel_rfl) (by kernel_rfl) (.cons (by apply f54) .nil))
theorem f36x9 (k m f t l o g d a b lo hi : Int) : ACalls Try.prog 59 [AV.ptr 0 9, AV.v (.int .i64 lo), AV.v (.int .i64 hi)] [AObj.cells 0 true [AV.v (.int .i64 k), AV.v (.int .i64 m), AV.v (.int .i64 f), AV.v (.int .i64 t), AV.v (.int .i64 l), AV.v (.int .i64 o), AV.v (.int .i64 g), AV.v (.int .i64 d), AV.v (.int .i64 a), AV.v (.int .i64 b)]] (AV.tup []) [(0, AObj.cells 0 true [AV.v (.int .i64 k), AV.v (.int .i64 m), AV.v (.int .i64 f), AV.v (.int .i64 t), AV.v (.int .i64 l), AV.v (.int .i64 o), AV.v (.int .i64 g), AV.v (.int .i64 d), AV.v (.int .i64 a), AV.v (.int .i64 (imax lo (imin b hi)))])] [] := (f36x9_1 k m f t l o g d a b lo hi)
theorem f31x0_1 (p q r s u v w x lo hi : Int)  : ACalls Try.prog 53 [AV.ptr 0 0, AV.v (.int .i64 lo), AV.v (.int .i64 hi)] [AObj.cells 0 true (kScA2 p q r s u v w x)] (AV.tup []) [(0, AObj.cells 0 true [AV.v (.int .i64 (imax lo (imin p hi))), AV.v (.int .i64 q), AV.v (.int .i64 r), AV.v (.int .i64 s), AV.v (.int .i64 u), AV.v (.int .i64 v), AV.v (.int .i64 w), AV.v (.int .i64 x)])] [] :=
  ACalls.nb (res := AV.tup []) (.of_out [Orc.call [] (AV.v (.int .i64 (imax lo (imin p hi)))) [] []] [0] [ACalls Try.prog 54 [AV.v (.int .i64 p), AV.v (.int .i64 lo), AV.v (.int .i64 hi)] [] (AV.v (.int .i64 (imax lo (imin p hi)))) [] []] Try.func53 (by kernel_rfl) (by kernel_rfl) (.cons (by apply f54) .nil))
theorem f31x0 (p q r s u v w x lo hi : Int) : ACalls Try.prog 53 [AV.ptr 0 0, AV.v (.int .i64 lo), AV.v (.int .i64 hi)] [AObj.cells 0 true [AV.v (.int .i64 p), AV.v (.int .i64 q), AV.v (.int .i64 r), AV.v (.int .i64 s), AV.v (.int .i64 u), AV.v (.int .i64 v), AV.v (.int .i64 w), AV.v (.int .i64 x)]] (AV.tup []) [(0, AObj.cells 0 true [AV.v (.int .i64 (imax lo (imin p hi))), AV.v (.int .i64 q), AV.v (.int .i64 r), AV.v (.int .i64 s), AV.v (.int .i64 u), AV.v (.int .i64 v), AV.v (.int .i64 w), AV.v (.int .i64 x)])] [] := (f31x0_1 p q r s u v w x lo hi)
theorem f31x1_1 (p q r s u v w x lo hi : Int)  : ACalls Try.prog 53 [AV.ptr 0 1, AV.v (.int .i64 lo), AV.v (.int .i64 hi)] [AObj.cells 0 true (kScA2 p q r s u v w x)] (AV.tup []) [(0, AObj.cells 0 true [AV.v (.int .i64 p), AV.v (.int .i64 (imax lo (imin q hi))), AV.v (.int .i64 r), AV.v (.int .i64 s), AV.v (.int .i64 u), AV.v (.int .i64 v), AV.v (.int .i64 w), AV.v (.int .i64 x)])] [] :=
  ACalls.nb (res := AV.tup []) (.of_out [Orc.call [] (AV.v (.int .i64 (imax lo (imin q hi)))) [] []] [0] [ACalls Try.prog 54 [AV.v (.int .i64 q), AV.v (.int .i64 lo), AV.v (.int .i64 hi)] [] (AV.v (.int .i64 (imax lo (imin q hi)))) [] []] Try.func53 (by kernel_rfl) (by kernel_rfl) (.cons (by apply f54) .nil))
theorem f31x1 (p q r s u v w x lo hi : Int) : ACalls Try.prog 53 [AV.ptr 0 1, AV.v (.int .i64 lo), AV.v (.int .i64 hi)] [AObj.cells 0 true [AV.v (.int .i64 p), AV.v (.int .i64 q), AV.v (.int .i64 r), AV.v (.int .i64 s), AV.v (.int .i64 u), AV.v (.int .i64 v), AV.v (.int .i64 w), AV.v (.int .i64 x)]] (AV.tup []) [(0, AObj.cells 0 true [AV.v (.int .i64 p), AV.v (.int .i64 (imax lo (imin q hi))), AV.v (.int .i64 r), AV.v (.int .i64 s), AV.v (.int .i64 u), AV.v (.int .i64 v), AV.v (.int .i64 w), AV.v (.int .i64 x)])] [] := (f31x1_1 p q r s u v w x lo hi)
theorem f31x2_1 (p q r s u v w x lo hi : Int)  : ACalls Try.prog 53 [AV.ptr 0 2, AV.v (.int .i64 lo), AV.v (.int .i64 hi)] [AObj.cells 0 true (kScA2 p q r s u v w x)] (AV.tup []) [(0, AObj.cells 0 true [AV.v (.int .i64 p), AV.v (.int .i64 q), AV.v (.int .i64 (imax lo (imin r hi))), AV.v (.int .i64 s), AV.v (.int .i64 u), AV.v (.int .i64 v), AV.v (.int .i64 w), AV.v (.int .i64 x)])] [] :=
  ACalls.nb (res := AV.tup []) (.of_out [Orc.call [] (AV.v (.int .i64 (imax lo (imin r hi)))) [] []] [0] [ACalls Try.prog 54 [AV.v (.int .i64 r), AV.v (.int .i64 lo), AV.v (.int .i64 hi)] [] (AV.v (.int .i64 (imax lo (imin r hi)))) [] []] Try.func53 (by kernel_rfl) (by kernel_rfl) (.cons (by apply f54) .nil))
theorem f31x2 (p q r s u v w x lo hi : Int) : ACalls Try.prog 53 [AV.ptr 0 2, AV.v (.int .i64 lo), AV.v (.int .i64 hi)] [AObj.cells 0 true [AV.v (.int .i64 p), AV.v (.int .i64 q), AV.v (.int .i64 r), AV.v (.int .i64 s), AV.v (.int .i64 u), AV.v (.int .i64 v), AV.v (.int .i64 w), AV.v (.int .i64 x)]] (AV.tup []) [(0, AObj.cells 0 true [AV.v (.int .i64 p), AV.v (.int .i64 q), AV.v (.int .i64 (imax lo (imin r hi))), AV.v (.int .i64 s), AV.v (.int .i64 u), AV.v (.int .i64 v), AV.v (.int .i64 w), AV.v (.int .i64 x)])] [] := (f31x2_1 p q r s u v w x lo hi)
theorem f31x3_1 (p q r s u v w x lo hi : Int)  : ACalls Try.prog 53 [AV.ptr 0 3, AV.v (.int .i64 lo), AV.v (.int .i64 hi)] [AObj.cells 0 true (kScA2 p q r s u v w x)] (AV.tup []) [(0, AObj.cells 0 true [AV.v (.int .i64 p), AV.v (.int .i64 q), AV.v (.int .i64 r), AV.v (.int .i64 (imax lo (imin s hi))), AV.v (.int .i64 u), AV.v (.int .i64 v), AV.v (.int .i64 w), AV.v (.int .i64 x)])] [] :=
  ACalls.nb (res := AV.tup []) (.of_out [Orc.call [] (AV.v (.int .i64 (imax lo (imin s hi)))) [] []] [0] [ACalls Try.prog 54 [AV.v (.int .i64 s), AV.v (.int .i64 lo), AV.v (.int .i64 hi)] [] (AV.v (.int .i64 (imax lo (imin s hi)))) [] []] Try.func53 (by kernel_rfl) (by kernel_rfl) (.cons (by apply f54) .nil))
theorem f31x3 (p q r s u v w x lo hi : Int) : ACalls Try.prog 53 [AV.ptr 0 3, AV.v (.int .i64 lo), AV.v (.int .i64 hi)] [AObj.cells 0 true [AV.v (.int .i64 p), AV.v (.int .i64 q), AV.v (.int .i64 r), AV.v (.int .i64 s), AV.v (.int .i64 u), AV.v (.int .i64 v), AV.v (.int .i64 w), AV.v (.int .i64 x)]] (AV.tup []) [(0, AObj.cells 0 true [AV.v (.int .i64 p), AV.v (.int .i64 q), AV.v (.int .i64 r), AV.v (.int .i64 (imax lo (imin s hi))), AV.v (.int .i64 u), AV.v (.int .i64 v), AV.v (.int .i64 w), AV.v (.int .i64 x)])] [] := (f31x3_1 p q r s u v w x lo hi)
theorem f31x4_1 (p q r s u v w x lo hi : Int)  : ACalls Try.prog 53 [AV.ptr 0 4, AV.v (.int .i64 lo), AV.v (.int .i64 hi)] [AObj.cells 0 true (kScA2 p q r s u v w x)] (AV.tup []) [(0, AObj.cells 0 true [AV.v (.int .i64 p), AV.v (.int .i64 q), AV.v (.int .i64 r), AV.v (.int .i64 s), AV.v (.int .i64 (imax lo (imin u hi))), AV.v (.int .i64 v), AV.v (.int .i64 w), AV.v (.int .i64 x)])] [] :=
  ACalls.nb (res := AV.tup []) (.of_out [Orc.call [] (AV.v (.int .i64 (imax lo (imin u hi)))) [] []] [0] [ACalls Try.prog 54 [AV.v (.int .i64 u), AV.v (.int .i64 lo), AV.v (.int .i64 hi)] [] (AV.v (.int .i64 (imax lo (imin u hi)))) [] []] Try.func53 (by kernel_rfl) (by kernel_rfl) (.cons (by apply f54) .nil))
theorem f31x4 (p q r s u v w x lo hi : Int) : ACalls Try.prog 53 [AV.ptr 0 4, AV.v (.int .i64 lo), AV.v (.int .i64 hi)] [AObj.cells 0 true [AV.v (.int .i64 p), AV.v (.int .i64 q), AV.v (.int .i64 r), AV.v (.int .i64 s), AV.v (.int .i64 u), AV.v (.int .i64 v), AV.v (.int .i64 w), AV.v (.int .i64 x)]] (AV.tup []) [(0, AObj.cells 0 true [AV.v (.int .i64 p), AV.v (.int .i64 q), AV.v (.int .i64 r), AV.v (.int .i64 s), AV.v (.int .i64 (imax lo (imin u hi))), AV.v (.int .i64 v), AV.v (.int .i64 w), AV.v (.int .i64 x)])] [] := (f31x4_1 p q r s u v w x lo hi)
theorem f31x5_1 (p q r s u v w x lo hi : Int)  : ACalls Try.prog 53 [AV.ptr 0 5, AV.v (.int .i64 lo), AV.v (.int .i64 hi)] [AObj.cells 0 true (kScA2 p q r s u v w x)] (AV.tup []) [(0, AObj.cells 0 true [AV.v (.int .i64 p), AV.v (.int .i64 q), AV.v (.int .i64 r), AV.v (.int .i64 s), AV.v (.int .i64 u), AV.v (.int .i64 (imax lo (imin v hi))), AV.v (.int .i64 w), AV.v (.int .i64 x)])] [] :=
  ACalls.nb (res := AV.tup []) (.of_out [Orc.call [] (AV.v (.int .i64 (imax lo (imin v hi)))) [] []] [0] [ACalls Try.prog 54 [AV.v (.int .i64 v), AV.v (.int .i64 lo), AV.v (.int .i64 hi)] [] (AV.v (.int .i64 (imax lo (imin v hi)))) [] []] Try.func53 (by kernel_rfl) (by kernel_rfl) (.cons (by apply f54) .nil))
theorem f31x5 (p q r s u v w x lo hi : Int) : ACalls Try.prog 53 [AV.ptr 0 5, AV.v (.int .i64 lo), AV.v (.int .i64 hi)] [AObj.cells 0 true [AV.v (.int .i64 p), AV.v (.int .i64 q), AV.v (.int .i64 r), AV.v (.int .i64 s), AV.v (.int .i64 u), AV.v (.int .i64 v), AV.v (.int .i64 w), AV.v (.int .i64 x)]] (AV.tup []) [(0, AObj.cells 0 true [AV.v (.int .i64 p), AV.v (.int .i64 q), AV.v (.int .i64 r), AV.v (.int .i64 s), AV.v (.int .i64 u), AV.v (.int .i64 (imax lo (imin v hi))), AV.v (.int .i64 w), AV.v (.int .i64 x)])] [] := (f31x5_1 p q r s u v w x lo hi)
theorem f31x6_1 (p q r s u v w x lo hi : Int)  : ACalls Try.prog 53 [AV.ptr 0 6, AV.v (.int .i64 lo), AV.v (.int .i64 hi)] [AObj.cells 0 true (kScA2 p q r s u v w x)] (AV.tup []) [(0, AObj.cells 0 true [AV.v (.int .i64 p), AV.v (.int .i64 q), AV.v (.int .i64 r), AV.v (.int .i64 s), AV.v (.int .i64 u), AV.v (.int .i64 v), AV.v (.int .i64 (imax lo (imin w hi))), AV.v (.int .i64 x)])] [] :=
  ACalls.nb (res := AV.tup []) (.of_out [Orc.call [] (AV.v (.int .i64 (imax lo (imin w hi)))) [] []] [0] [ACalls Try.prog 54 [AV.v (.int .i64 w), AV.v (.int .i64 lo), AV.v (.int .i64 hi)] [] (AV.v (.int .i64 (imax lo (imin w hi)))) [] []] Try.func53 (by kernel_rfl) (by kernel_rfl) (.cons (by apply f54) .nil))
theorem f31x6 (p q r s u v w x lo hi : Int) : ACalls Try.prog 53 [AV.ptr 0 6, AV.v (.int .i64 lo), AV.v (.int .i64 hi)] [AObj.cells 0 true [AV.v (.int .i64 p), AV.v (.int .i64 q), AV.v (.int .i64 r), AV.v (.int .i64 s), AV.v (.int .i64 u), AV.v (.int .i64 v), AV.v (.int .i64 w), AV.v (.int .i64 x)]] (AV.tup []) [(0, AObj.cells 0 true [AV.v (.int .i64 p), AV.v (.int .i64 q), AV.v (.int .i64 r), AV.v (.int .i64 s), AV.v (.int .i64 u), AV.v (.int .i64 v), AV.v (.int .i64 (imax lo (imin w hi))), AV.v (.int .i64 x)])] [] := (f31x6_1 p q r s u v w x lo hi)
theorem f31x7_1 (p q r s u v w x lo hi : Int)  : ACalls Try.prog 53 [AV.ptr 0 7, AV.v (.int .i64 lo), AV.v (.int .i64 hi)] [AObj.cells 0 true (kScA2 p q r s u v w x)] (AV.tup []) [(0, AObj.cells 0 true [AV.v (.int .i64 p), AV.v (.int .i64 q), AV.v (.int .i64 r), AV.v (.int .i64 s), AV.v (.int .i64 u), AV.v (.int .i64 v), AV.v (.int .i64 w), AV.v (.int .i64 (imax lo (imin x hi)))])] [] :=
  ACalls.nb (res := AV.tup []) (.of_out [Orc.call [] (AV.v (.int .i64 (imax lo (imin x hi)))) [] []] [0] [ACalls Try.prog 54 (kScA17 x lo hi) [] (AV.v (.int .i64 (imax lo (imin x hi)))) [] []] Try.func53 (by kernel_rfl) (by kernel_rfl) (.cons (by apply f54) .nil))
theorem f31x7 (p q r s u v w x lo hi : Int) : ACalls Try.prog 53 [AV.ptr 0 7, AV.v (.int .i64 lo), AV.v (.int .i64 hi)] [AObj.cells 0 true [AV.v (.int .i64 p), AV.v (.int .i64 q), AV.v (.int .i64 r), AV.v (.int .i64 s), AV.v (.int .i64 u), AV.v (.int .i64 v), AV.v (.int .i64 w), AV.v (.int .i64 x)]] (AV.tup []) [(0, AObj.cells 0 true [AV.v (.int .i64 p), AV.v (.int .i64 q), AV.v (.int .i64 r), AV.v (.int .i64 s), AV.v (.int .i64 u), AV.v (.int .i64 v), AV.v (.int .i64 w), AV.v (.int .i64 (imax lo (imin x hi)))])] [] := (f31x7_1 p q r s u v w x lo hi)
def f52r0 (k m f t l o g d a b : Int) : Int := imax (imax 1 (imin l 1125899906842624)) (imin o 1125899906842624)
def f52r1 (k m f t l o g d a b : Int) : Int := imax (imax 1 (imin m 65536)) (imin b 1073741824)
theorem f52_1 (k m f t l o g d a b : Int)  : ACalls Try.prog 52 [AV.agg (kScA0 k m f t l o g d a b)] [] (AV.agg (kScA1 k m f t l o g d a b)) [] [] :=
  ACalls.nb (res := AV.agg (kScA1 k m f t l o g d a b)) (.of_out [Orc.call [0] (AV.tup []) [(0, AObj.cells 0 true (kScA18 k m f t l o g d a b))] [], Orc.call [0] (AV.tup []) [(0, AObj.cells 0 true (kScA15 k m f t l o g d a b))] [], Orc.call [0] (AV.tup []) [(0, AObj.cells 0 true (kScA12 k m f t l o g d a b))] [], Orc.call [0] (AV.tup []) [(0, AObj.cells 0 true (kScA10 k m f t l o g d a b))] [], Orc.call [0] (AV.tup []) [(0, AObj.cells 0 true (kScA7 k m f t l o g d a b))] [], Orc.call [0] (AV.tup []) [(0, AObj.cells 0 true (kScA6 k m f t l o g d a b))] [], Orc.call [0] (AV.tup []) [(0, AObj.cells 0 true (kScA5 k m f t l o g d a b))] [], Orc.call [0] (AV.tup []) [(0, AObj.cells 0 true (kScA4 k m f t l o g d a b))] [], Orc.call [0] (AV.tup []) [(0, AObj.cells 0 true (kScA1 k m f t l o g d a b))] []] [] [ACalls Try.prog 59 [AV.ptr 0 1, AV.v (.int .i64 1), AV.v (.int .i64 65536)] [AObj.cells 0 true [AV.v (.int .i64 (imax 0 (imin k 2))), AV.v (.int .i64 m), AV.v (.int .i64 f), AV.v (.int .i64 t), AV.v (.int .i64 l), AV.v (.int .i64 o), AV.v (.int .i64 g), AV.v (.int .i64 d), AV.v (.int .i64 a), AV.v (.int .i64 b)]] (AV.tup []) [(0, AObj.cells 0 true (kScA18 k m f t l o g d a b))] [], ACalls Try.prog 59 [AV.ptr 0 2, AV.v (.int .i64 1), AV.v (.int .i64 1000)] [AObj.cells 0 true (kScA18 k m f t l o g d a b)] (AV.tup []) [(0, AObj.cells 0 true (kScA15 k m f t l o g d a b))] [], ACalls Try.prog 59 [AV.ptr 0 3, AV.v (.int .i64 0), AV.v (.int .i64 1099511627776)] [AObj.cells 0 true (kScA15 k m f t l o g d a b)] (AV.tup []) [(0, AObj.cells 0 true (kScA12 k m f t l o g d a b))] [], ACalls Try.prog 59 [AV.ptr 0 4, AV.v (.int .i64 1), AV.v (.int .i64 1125899906842624)] [AObj.cells 0 true (kScA12 k m f t l o g d a b)] (AV.tup []) [(0, AObj.cells 0 true (kScA10 k m f t l o g d a b))] [], ACalls Try.prog 59 [AV.ptr 0 5, AV.v (.int .i64 (imax 1 (imin l 1125899906842624))), AV.v (.int .i64 1125899906842624)] [AObj.cells 0 true (kScA10 k m f t l o g d a b)] (AV.tup []) [(0, AObj.cells 0 true (kScA7 k m f t l o g d a b))] [], ACalls Try.prog 59 [AV.ptr 0 6, AV.v (.int .i64 1), AV.v (.int .i64 1125899906842624)] [AObj.cells 0 true (kScA7 k m f t l o g d a b)] (AV.tup []) [(0, AObj.cells 0 true (kScA6 k m f t l o g d a b))] [], ACalls Try.prog 59 [AV.ptr 0 7, AV.v (.int .i64 1), AV.v (.int .i64 1125899906842624)] [AObj.cells 0 true (kScA6 k m f t l o g d a b)] (AV.tup []) [(0, AObj.cells 0 true (kScA5 k m f t l o g d a b))] [], ACalls Try.prog 59 [AV.ptr 0 8, AV.v (.int .i64 262144), AV.v (.int .i64 16777216)] [AObj.cells 0 true (kScA5 k m f t l o g d a b)] (AV.tup []) [(0, AObj.cells 0 true (kScA4 k m f t l o g d a b))] [], ACalls Try.prog 59 [AV.ptr 0 9, AV.v (.int .i64 (imax 1 (imin m 65536))), AV.v (.int .i64 1073741824)] [AObj.cells 0 true (kScA4 k m f t l o g d a b)] (AV.tup []) [(0, AObj.cells 0 true (kScA1 k m f t l o g d a b))] []] Try.func52 (by kernel_rfl) (by kernel_rfl) (.cons (by apply f36x1) (.cons (by apply f36x2) (.cons (by apply f36x3) (.cons (by apply f36x4) (.cons (by apply f36x5) (.cons (by apply f36x6) (.cons (by apply f36x7) (.cons (by apply f36x8) (.cons (by apply f36x9) .nil))))))))))
theorem f52 (k m f t l o g d a b : Int) : ACalls Try.prog 52 [AV.agg [AV.v (.int .i64 k), AV.v (.int .i64 m), AV.v (.int .i64 f), AV.v (.int .i64 t), AV.v (.int .i64 l), AV.v (.int .i64 o), AV.v (.int .i64 g), AV.v (.int .i64 d), AV.v (.int .i64 a), AV.v (.int .i64 b)]] [] (AV.agg [AV.v (.int .i64 (imax 0 (imin k 2))), AV.v (.int .i64 (imax 1 (imin m 65536))), AV.v (.int .i64 (imax 1 (imin f 1000))), AV.v (.int .i64 (imax 0 (imin t 1099511627776))), AV.v (.int .i64 (imax 1 (imin l 1125899906842624))), AV.v (.int .i64 (f52r0 k m f t l o g d a b)), AV.v (.int .i64 (imax 1 (imin g 1125899906842624))), AV.v (.int .i64 (imax 1 (imin d 1125899906842624))), AV.v (.int .i64 (imax 262144 (imin a 16777216))), AV.v (.int .i64 (f52r1 k m f t l o g d a b))]) [] [] := (f52_1 k m f t l o g d a b)
def f32r0 (k m f t l o g d a b : Int) : Int := imin (imax o (imin (imax l 1) 1125899906842624)) 1125899906842624
def f32r1 (k m f t l o g d a b : Int) : Int := imin (imax b (imin (imax m 1) 65536)) 1073741824
theorem f32_1 (k m f t l o g d a b : Int)  : ACalls Try.prog 32 [AV.agg (kScA0 k m f t l o g d a b)] [] (AV.agg (kScA14 k m f t l o g d a b)) [] [] :=
  ACalls.nb (res := AV.agg (kScA14 k m f t l o g d a b)) (.of_out [Orc.call [] (AV.v (.int .i64 (imin (imax k 0) 2))) [] [], Orc.call [] (AV.v (.int .i64 (imin (imax m 1) 65536))) [] [], Orc.call [] (AV.v (.int .i64 (imin (imax f 1) 1000))) [] [], Orc.call [] (AV.v (.int .i64 (imin (imax t 0) 1099511627776))) [] [], Orc.call [] (AV.v (.int .i64 (imin (imax l 1) 1125899906842624))) [] [], Orc.call [] (AV.v (.int .i64 (imin (imax o (imin (imax l 1) 1125899906842624)) 1125899906842624))) [] [], Orc.call [] (AV.v (.int .i64 (imin (imax g 1) 1125899906842624))) [] [], Orc.call [] (AV.v (.int .i64 (imin (imax d 1) 1125899906842624))) [] [], Orc.call [] (AV.v (.int .i64 (imin (imax a 262144) 16777216))) [] [], Orc.call [] (AV.v (.int .i64 (imin (imax b (imin (imax m 1) 65536)) 1073741824))) [] []] [] [ACalls Try.prog 50 [AV.v (.int .i64 k)] [] (AV.v (.int .i64 (imin (imax k 0) 2))) [] [], ACalls Try.prog 51 [AV.v (.int .i64 m), AV.v (.int .i64 1), AV.v (.int .i64 65536)] [] (AV.v (.int .i64 (imin (imax m 1) 65536))) [] [], ACalls Try.prog 51 [AV.v (.int .i64 f), AV.v (.int .i64 1), AV.v (.int .i64 1000)] [] (AV.v (.int .i64 (imin (imax f 1) 1000))) [] [], ACalls Try.prog 51 [AV.v (.int .i64 t), AV.v (.int .i64 0), AV.v (.int .i64 1099511627776)] [] (AV.v (.int .i64 (imin (imax t 0) 1099511627776))) [] [], ACalls Try.prog 51 [AV.v (.int .i64 l), AV.v (.int .i64 1), AV.v (.int .i64 1125899906842624)] [] (AV.v (.int .i64 (imin (imax l 1) 1125899906842624))) [] [], ACalls Try.prog 51 [AV.v (.int .i64 o), AV.v (.int .i64 (imin (imax l 1) 1125899906842624)), AV.v (.int .i64 1125899906842624)] [] (AV.v (.int .i64 (imin (imax o (imin (imax l 1) 1125899906842624)) 1125899906842624))) [] [], ACalls Try.prog 51 [AV.v (.int .i64 g), AV.v (.int .i64 1), AV.v (.int .i64 1125899906842624)] [] (AV.v (.int .i64 (imin (imax g 1) 1125899906842624))) [] [], ACalls Try.prog 51 [AV.v (.int .i64 d), AV.v (.int .i64 1), AV.v (.int .i64 1125899906842624)] [] (AV.v (.int .i64 (imin (imax d 1) 1125899906842624))) [] [], ACalls Try.prog 51 [AV.v (.int .i64 a), AV.v (.int .i64 262144), AV.v (.int .i64 16777216)] [] (AV.v (.int .i64 (imin (imax a 262144) 16777216))) [] [], ACalls Try.prog 51 [AV.v (.int .i64 b), AV.v (.int .i64 (imin (imax m 1) 65536)), AV.v (.int .i64 1073741824)] [] (AV.v (.int .i64 (imin (imax b (imin (imax m 1) 65536)) 1073741824))) [] []] Try.func32 (by kernel_rfl) (by kernel_rfl) (.cons (by apply f50) (.cons (by apply f51) (.cons (by apply f51) (.cons (by apply f51) (.cons (by apply f51) (.cons (by apply f51) (.cons (by apply f51) (.cons (by apply f51) (.cons (by apply f51) (.cons (by apply f51) .nil)))))))))))
theorem f32 (k m f t l o g d a b : Int) : ACalls Try.prog 32 [AV.agg [AV.v (.int .i64 k), AV.v (.int .i64 m), AV.v (.int .i64 f), AV.v (.int .i64 t), AV.v (.int .i64 l), AV.v (.int .i64 o), AV.v (.int .i64 g), AV.v (.int .i64 d), AV.v (.int .i64 a), AV.v (.int .i64 b)]] [] (AV.agg [AV.v (.int .i64 (imin (imax k 0) 2)), AV.v (.int .i64 (imin (imax m 1) 65536)), AV.v (.int .i64 (imin (imax f 1) 1000)), AV.v (.int .i64 (imin (imax t 0) 1099511627776)), AV.v (.int .i64 (imin (imax l 1) 1125899906842624)), AV.v (.int .i64 (f32r0 k m f t l o g d a b)), AV.v (.int .i64 (imin (imax g 1) 1125899906842624)), AV.v (.int .i64 (imin (imax d 1) 1125899906842624)), AV.v (.int .i64 (imin (imax a 262144) 16777216)), AV.v (.int .i64 (f32r1 k m f t l o g d a b))]) [] [] := (f32_1 k m f t l o g d a b)
theorem f36_1 (p q r s u v w x : Int)  : ACalls Try.prog 36 [AV.agg (kScA2 p q r s u v w x)] [] (AV.agg (kScA3 p q r s u v w x)) [] [] :=
  ACalls.nb (res := AV.agg (kScA3 p q r s u v w x)) (.of_out [Orc.call [0] (AV.tup []) [(0, AObj.cells 0 true (kScA21 p q r s u v w x))] [], Orc.call [0] (AV.tup []) [(0, AObj.cells 0 true (kScA19 p q r s u v w x))] [], Orc.call [0] (AV.tup []) [(0, AObj.cells 0 true (kScA16 p q r s u v w x))] [], Orc.call [0] (AV.tup []) [(0, AObj.cells 0 true (kScA13 p q r s u v w x))] [], Orc.call [0] (AV.tup []) [(0, AObj.cells 0 true (kScA11 p q r s u v w x))] [], Orc.call [0] (AV.tup []) [(0, AObj.cells 0 true (kScA9 p q r s u v w x))] [], Orc.call [0] (AV.tup []) [(0, AObj.cells 0 true (kScA8 p q r s u v w x))] [], Orc.call [0] (AV.tup []) [(0, AObj.cells 0 true (kScA3 p q r s u v w x))] []] [] [ACalls Try.prog 53 [AV.ptr 0 0, AV.v (.int .i64 1), AV.v (.int .i64 1073741824)] [AObj.cells 0 true (kScA2 p q r s u v w x)] (AV.tup []) [(0, AObj.cells 0 true (kScA21 p q r s u v w x))] [], ACalls Try.prog 53 [AV.ptr 0 1, AV.v (.int .i64 0), AV.v (.int .i64 67108864)] [AObj.cells 0 true (kScA21 p q r s u v w x)] (AV.tup []) [(0, AObj.cells 0 true (kScA19 p q r s u v w x))] [], ACalls Try.prog 53 [AV.ptr 0 2, AV.v (.int .i64 1), AV.v (.int .i64 1125899906842624)] [AObj.cells 0 true (kScA19 p q r s u v w x)] (AV.tup []) [(0, AObj.cells 0 true (kScA16 p q r s u v w x))] [], ACalls Try.prog 53 [AV.ptr 0 3, AV.v (.int .i64 0), AV.v (.int .i64 17179869184)] [AObj.cells 0 true (kScA16 p q r s u v w x)] (AV.tup []) [(0, AObj.cells 0 true (kScA13 p q r s u v w x))] [], ACalls Try.prog 53 [AV.ptr 0 4, AV.v (.int .i64 0), AV.v (.int .i64 17179869184)] [AObj.cells 0 true (kScA13 p q r s u v w x)] (AV.tup []) [(0, AObj.cells 0 true (kScA11 p q r s u v w x))] [], ACalls Try.prog 53 [AV.ptr 0 5, AV.v (.int .i64 0), AV.v (.int .i64 65536)] [AObj.cells 0 true (kScA11 p q r s u v w x)] (AV.tup []) [(0, AObj.cells 0 true (kScA9 p q r s u v w x))] [], ACalls Try.prog 53 [AV.ptr 0 6, AV.v (.int .i64 0), AV.v (.int .i64 67108864)] [AObj.cells 0 true (kScA9 p q r s u v w x)] (AV.tup []) [(0, AObj.cells 0 true (kScA8 p q r s u v w x))] [], ACalls Try.prog 53 [AV.ptr 0 7, AV.v (.int .i64 0), AV.v (.int .i64 67108864)] [AObj.cells 0 true (kScA8 p q r s u v w x)] (AV.tup []) [(0, AObj.cells 0 true (kScA3 p q r s u v w x))] []] Try.func36 (by kernel_rfl) (by kernel_rfl) (.cons (by apply f31x0) (.cons (by apply f31x1) (.cons (by apply f31x2) (.cons (by apply f31x3) (.cons (by apply f31x4) (.cons (by apply f31x5) (.cons (by apply f31x6) (.cons (by apply f31x7) .nil)))))))))
theorem f36 (p q r s u v w x : Int) : ACalls Try.prog 36 [AV.agg [AV.v (.int .i64 p), AV.v (.int .i64 q), AV.v (.int .i64 r), AV.v (.int .i64 s), AV.v (.int .i64 u), AV.v (.int .i64 v), AV.v (.int .i64 w), AV.v (.int .i64 x)]] [] (AV.agg [AV.v (.int .i64 (imax 1 (imin p 1073741824))), AV.v (.int .i64 (imax 0 (imin q 67108864))), AV.v (.int .i64 (imax 1 (imin r 1125899906842624))), AV.v (.int .i64 (imax 0 (imin s 17179869184))), AV.v (.int .i64 (imax 0 (imin u 17179869184))), AV.v (.int .i64 (imax 0 (imin v 65536))), AV.v (.int .i64 (imax 0 (imin w 67108864))), AV.v (.int .i64 (imax 0 (imin x 67108864)))]) [] [] := (f36_1 p q r s u v w x)
theorem f31_1 (p q r s u v w x : Int)  : ACalls Try.prog 31 [AV.agg (kScA2 p q r s u v w x)] [] (AV.agg (kScA20 p q r s u v w x)) [] [] :=
  ACalls.nb (res := AV.agg (kScA20 p q r s u v w x)) (.of_out [Orc.call [] (AV.v (.int .i64 (imin (imax p 1) 1073741824))) [] [], Orc.call [] (AV.v (.int .i64 (imin (imax q 0) 67108864))) [] [], Orc.call [] (AV.v (.int .i64 (imin (imax r 1) 1125899906842624))) [] [], Orc.call [] (AV.v (.int .i64 (imin (imax s 0) 17179869184))) [] [], Orc.call [] (AV.v (.int .i64 (imin (imax u 0) 17179869184))) [] [], Orc.call [] (AV.v (.int .i64 (imin (imax v 0) 65536))) [] [], Orc.call [] (AV.v (.int .i64 (imin (imax w 0) 67108864))) [] [], Orc.call [] (AV.v (.int .i64 (imin (imax x 0) 67108864))) [] []] [] [ACalls Try.prog 49 [AV.v (.int .i64 p), AV.v (.int .i64 1), AV.v (.int .i64 1073741824)] [] (AV.v (.int .i64 (imin (imax p 1) 1073741824))) [] [], ACalls Try.prog 49 [AV.v (.int .i64 q), AV.v (.int .i64 0), AV.v (.int .i64 67108864)] [] (AV.v (.int .i64 (imin (imax q 0) 67108864))) [] [], ACalls Try.prog 49 [AV.v (.int .i64 r), AV.v (.int .i64 1), AV.v (.int .i64 1125899906842624)] [] (AV.v (.int .i64 (imin (imax r 1) 1125899906842624))) [] [], ACalls Try.prog 49 [AV.v (.int .i64 s), AV.v (.int .i64 0), AV.v (.int .i64 17179869184)] [] (AV.v (.int .i64 (imin (imax s 0) 17179869184))) [] [], ACalls Try.prog 49 [AV.v (.int .i64 u), AV.v (.int .i64 0), AV.v (.int .i64 17179869184)] [] (AV.v (.int .i64 (imin (imax u 0) 17179869184))) [] [], ACalls Try.prog 49 [AV.v (.int .i64 v), AV.v (.int .i64 0), AV.v (.int .i64 65536)] [] (AV.v (.int .i64 (imin (imax v 0) 65536))) [] [], ACalls Try.prog 49 [AV.v (.int .i64 w), AV.v (.int .i64 0), AV.v (.int .i64 67108864)] [] (AV.v (.int .i64 (imin (imax w 0) 67108864))) [] [], ACalls Try.prog 49 [AV.v (.int .i64 x), AV.v (.int .i64 0), AV.v (.int .i64 67108864)] [] (AV.v (.int .i64 (imin (imax x 0) 67108864))) [] []] Try.func31 (by kernel_rfl) (by kernel_rfl) (.cons (by apply f49) (.cons (by apply f49) (.cons (by apply f49) (.cons (by apply f49) (.cons (by apply f49) (.cons (by apply f49) (.cons (by apply f49) (.cons (by apply f49) .nil)))))))))
theorem f31 (p q r s u v w x : Int) : ACalls Try.prog 31 [AV.agg [AV.v (.int .i64 p), AV.v (.int .i64 q), AV.v (.int .i64 r), AV.v (.int .i64 s), AV.v (.int .i64 u), AV.v (.int .i64 v), AV.v (.int .i64 w), AV.v (.int .i64 x)]] [] (AV.agg [AV.v (.int .i64 (imin (imax p 1) 1073741824)), AV.v (.int .i64 (imin (imax q 0) 67108864)), AV.v (.int .i64 (imin (imax r 1) 1125899906842624)), AV.v (.int .i64 (imin (imax s 0) 17179869184)), AV.v (.int .i64 (imin (imax u 0) 17179869184)), AV.v (.int .i64 (imin (imax v 0) 65536)), AV.v (.int .i64 (imin (imax w 0) 67108864)), AV.v (.int .i64 (imin (imax x 0) 67108864))]) [] [] := (f31_1 p q r s u v w x)
end Go.Proofs.Ytlmnohdgfjienaa.Cf

set_option maxRecDepth 100000
set_option linter.all false
set_option maxHeartbeats 4000000
namespace Go.Proofs.Ytlmnohdgfjienaa.Cf
open Go.Abs
theorem kq (x : Int) {lo hi : Int} (h : lo ≤ hi) : imax lo (imin x hi) = kp x lo hi := by
  unfold imax imin kp imin imax; omega
theorem kp_lo (x : Int) {lo hi : Int} (h : lo ≤ hi) : lo ≤ kp x lo hi ∧ kp x lo hi ≤ hi := by
  unfold kp imin imax; omega
theorem g52 (k m f t l o g d a b : Int) : ACalls Try.prog 52 [AV.agg [AV.v (.int .i64 k), AV.v (.int .i64 m), AV.v (.int .i64 f), AV.v (.int .i64 t), AV.v (.int .i64 l), AV.v (.int .i64 o), AV.v (.int .i64 g), AV.v (.int .i64 d), AV.v (.int .i64 a), AV.v (.int .i64 b)]] [] (AV.agg [AV.v (.int .i64 (kp k 0 2)), AV.v (.int .i64 (kp m 1 65536)), AV.v (.int .i64 (kp f 1 1000)), AV.v (.int .i64 (kp t 0 1099511627776)), AV.v (.int .i64 (kp l 1 1125899906842624)), AV.v (.int .i64 (kp o (kp l 1 1125899906842624) 1125899906842624)), AV.v (.int .i64 (kp g 1 1125899906842624)), AV.v (.int .i64 (kp d 1 1125899906842624)), AV.v (.int .i64 (kp a 262144 16777216)), AV.v (.int .i64 (kp b (kp m 1 65536) 1073741824))]) [] [] := by
  have h := f52 k m f t l o g d a b
  unfold f52r0 f52r1 at h
  simp only [kq k (show (0 : Int) ≤ 2 by decide), kq m (show (1 : Int) ≤ 65536 by decide), kq f (show (1 : Int) ≤ 1000 by decide), kq t (show (0 : Int) ≤ 1099511627776 by decide), kq l (show (1 : Int) ≤ 1125899906842624 by decide), kq g (show (1 : Int) ≤ 1125899906842624 by decide), kq d (show (1 : Int) ≤ 1125899906842624 by decide), kq a (show (262144 : Int) ≤ 16777216 by decide)] at h
  rw [kq o (kp_lo l (show (1 : Int) ≤ 1125899906842624 by decide)).2, kq b (show kp m 1 65536 ≤ 1073741824 from by have := (kp_lo m (show (1 : Int) ≤ 65536 by decide)).2; omega)] at h
  exact h
theorem g32 (k m f t l o g d a b : Int) : ACalls Try.prog 32 [AV.agg [AV.v (.int .i64 k), AV.v (.int .i64 m), AV.v (.int .i64 f), AV.v (.int .i64 t), AV.v (.int .i64 l), AV.v (.int .i64 o), AV.v (.int .i64 g), AV.v (.int .i64 d), AV.v (.int .i64 a), AV.v (.int .i64 b)]] [] (AV.agg [AV.v (.int .i64 (kp k 0 2)), AV.v (.int .i64 (kp m 1 65536)), AV.v (.int .i64 (kp f 1 1000)), AV.v (.int .i64 (kp t 0 1099511627776)), AV.v (.int .i64 (kp l 1 1125899906842624)), AV.v (.int .i64 (kp o (kp l 1 1125899906842624) 1125899906842624)), AV.v (.int .i64 (kp g 1 1125899906842624)), AV.v (.int .i64 (kp d 1 1125899906842624)), AV.v (.int .i64 (kp a 262144 16777216)), AV.v (.int .i64 (kp b (kp m 1 65536) 1073741824))]) [] [] := by
  have h := f32 k m f t l o g d a b
  unfold f32r0 f32r1 at h
  exact h
theorem g36 (p q r s u v w x : Int) : ACalls Try.prog 36 [AV.agg [AV.v (.int .i64 p), AV.v (.int .i64 q), AV.v (.int .i64 r), AV.v (.int .i64 s), AV.v (.int .i64 u), AV.v (.int .i64 v), AV.v (.int .i64 w), AV.v (.int .i64 x)]] [] (AV.agg [AV.v (.int .i64 (kp p 1 1073741824)), AV.v (.int .i64 (kp q 0 67108864)), AV.v (.int .i64 (kp r 1 1125899906842624)), AV.v (.int .i64 (kp s 0 17179869184)), AV.v (.int .i64 (kp u 0 17179869184)), AV.v (.int .i64 (kp v 0 65536)), AV.v (.int .i64 (kp w 0 67108864)), AV.v (.int .i64 (kp x 0 67108864))]) [] [] := by
  have h := f36 p q r s u v w x
  rw [kq p (show (1 : Int) ≤ 1073741824 by decide), kq q (show (0 : Int) ≤ 67108864 by decide), kq r (show (1 : Int) ≤ 1125899906842624 by decide), kq s (show (0 : Int) ≤ 17179869184 by decide), kq u (show (0 : Int) ≤ 17179869184 by decide), kq v (show (0 : Int) ≤ 65536 by decide), kq w (show (0 : Int) ≤ 67108864 by decide), kq x (show (0 : Int) ≤ 67108864 by decide)] at h
  exact h
theorem g31 (p q r s u v w x : Int) : ACalls Try.prog 31 [AV.agg [AV.v (.int .i64 p), AV.v (.int .i64 q), AV.v (.int .i64 r), AV.v (.int .i64 s), AV.v (.int .i64 u), AV.v (.int .i64 v), AV.v (.int .i64 w), AV.v (.int .i64 x)]] [] (AV.agg [AV.v (.int .i64 (kp p 1 1073741824)), AV.v (.int .i64 (kp q 0 67108864)), AV.v (.int .i64 (kp r 1 1125899906842624)), AV.v (.int .i64 (kp s 0 17179869184)), AV.v (.int .i64 (kp u 0 17179869184)), AV.v (.int .i64 (kp v 0 65536)), AV.v (.int .i64 (kp w 0 67108864)), AV.v (.int .i64 (kp x 0 67108864))]) [] [] := by
  have h := f31 p q r s u v w x
  skip
  exact h
theorem g30 (x lo hi : Int) : ACalls Try.prog 30 [AV.v (.int .i64 x), AV.v (.int .i64 lo), AV.v (.int .i64 hi)] [] (AV.v (.int .i64 (kp x lo hi))) [] [] := f30 x lo hi
/-- between -/
def wt (x lo hi : Int) : Bool := decide (lo ≤ x ∧ x ≤ hi)
theorem g35 (x lo hi : Int) : ACalls Try.prog 35 [AV.v (.int .i64 x), AV.v (.int .i64 lo), AV.v (.int .i64 hi)] [] (AV.v (.bool (wt x lo hi))) [] [] := by
  have h := f35 x lo hi
  rw [show (bif ile lo x then ile x hi else false) = wt x lo hi from by unfold wt ile; by_cases h1 : lo ≤ x <;> by_cases h2 : x ≤ hi <;> simp [h1, h2]] at h
  exact h
theorem g40 (x lo hi : Int) : ACalls Try.prog 40 [AV.v (.int .i64 x), AV.v (.int .i64 lo), AV.v (.int .i64 hi)] [] (AV.v (.bool (wt x lo hi))) [] [] := by
  have h := f40 x lo hi
  rw [show (bif ile lo x then ile x hi else false) = wt x lo hi from by unfold wt ile; by_cases h1 : lo ≤ x <;> by_cases h2 : x ≤ hi <;> simp [h1, h2]] at h
  exact h
theorem g34 (x : Int) : ACalls Try.prog 34 [AV.v (.int .i64 x)] [] (AV.v (.bool (notB (wt x (-1) 1073741824)))) [] [] := by
  have h := f34 x
  unfold f34r0 at h
  rw [show (bif ile (-1) x then ile x 1073741824 else false) = wt x (-1) 1073741824 from by unfold wt ile; by_cases h1 : -1 ≤ x <;> by_cases h2 : x ≤ 1073741824 <;> simp [h1, h2]] at h
  exact h
/-- a flow is as it is kept -/
@[reducible] def sF (E : El FF) : Bool := andB (ieq E.1 (kp E.1 0 2)) (andB (ieq E.snd.1 (kp E.snd.1 1 65536)) (andB (ieq E.snd.snd.1 (kp E.snd.snd.1 1 1000)) (andB (ieq E.snd.snd.snd.1 (kp E.snd.snd.snd.1 0 1099511627776)) (andB (ieq E.snd.snd.snd.snd.1 (kp E.snd.snd.snd.snd.1 1 1125899906842624)) (andB (ieq E.snd.snd.snd.snd.snd.1 (kp E.snd.snd.snd.snd.snd.1 (kp E.snd.snd.snd.snd.1 1 1125899906842624) 1125899906842624)) (andB (ieq E.snd.snd.snd.snd.snd.snd.1 (kp E.snd.snd.snd.snd.snd.snd.1 1 1125899906842624)) (andB (ieq E.snd.snd.snd.snd.snd.snd.snd.1 (kp E.snd.snd.snd.snd.snd.snd.snd.1 1 1125899906842624)) (andB (ieq E.snd.snd.snd.snd.snd.snd.snd.snd.1 (kp E.snd.snd.snd.snd.snd.snd.snd.snd.1 262144 16777216)) (ieq E.snd.snd.snd.snd.snd.snd.snd.snd.2 (kp E.snd.snd.snd.snd.snd.snd.snd.snd.2 (kp E.snd.1 1 65536) 1073741824))))))))))
/-- a flow, kept within -/
@[reducible] def lF (E : El FF) : El FF := (kp E.1 0 2, kp E.snd.1 1 65536, kp E.snd.snd.1 1 1000, kp E.snd.snd.snd.1 0 1099511627776, kp E.snd.snd.snd.snd.1 1 1125899906842624, kp E.snd.snd.snd.snd.snd.1 (kp E.snd.snd.snd.snd.1 1 1125899906842624) 1125899906842624, kp E.snd.snd.snd.snd.snd.snd.1 1 1125899906842624, kp E.snd.snd.snd.snd.snd.snd.snd.1 1 1125899906842624, kp E.snd.snd.snd.snd.snd.snd.snd.snd.1 262144 16777216, kp E.snd.snd.snd.snd.snd.snd.snd.snd.2 (kp E.snd.1 1 65536) 1073741824)
/-- so is the queue -/
@[reducible] def sA (a0 a1 a2 a3 a4 a5 a6 a7 : Int) : Bool := andB (ieq a0 (kp a0 1 1073741824)) (andB (ieq a1 (kp a1 0 67108864)) (andB (ieq a2 (kp a2 1 1125899906842624)) (andB (ieq a3 (kp a3 0 17179869184)) (andB (ieq a4 (kp a4 0 17179869184)) (andB (ieq a5 (kp a5 0 65536)) (andB (ieq a6 (kp a6 0 67108864)) (ieq a7 (kp a7 0 67108864))))))))
@[reducible] def cC (r a0 a1 a2 a3 a4 a5 a6 a7 y z : Int) : AV := AV.agg [AV.sw 0 10, AV.sw 1 1, AV.v (.int .i64 r), AV.v (.int .i64 a0), AV.v (.int .i64 a1), AV.v (.int .i64 a2), AV.v (.int .i64 a3), AV.v (.int .i64 a4), AV.v (.int .i64 a5), AV.v (.int .i64 a6), AV.v (.int .i64 a7), AV.sw 2 1, AV.sw 3 1, AV.v (.int .i64 y), AV.v (.int .i64 z)]
@[reducible] def hH (j0 : List (El FF)) (j1 j2 j3 : List Int) : List AObj := [AObj.rows false FF j0, AObj.ints 0 false .i64 j1, AObj.ints 0 false .i64 j2, AObj.ints 0 false .u32 j3]
@[reducible] def iI (x : Int) : AV := AV.v (Value.int .i64 x)
@[reducible] def iB (x : Bool) : AV := AV.v (Value.bool x)
end Go.Proofs.Ytlmnohdgfjienaa.Cf
