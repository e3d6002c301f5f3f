import Derived.Test.YtfihmphhklplnaaFr
import Derived.Test.YtfihmphhklplnaaAbsWs
set_option linter.unusedVariables false
set_option linter.unusedSimpArgs false
set_option maxRecDepth 100000
namespace Go.Proofs.Ytfihmphhklplnaa.Fresh
open Go.Abs Go.Proofs.Ytfihmphhklplnaa.Ser
def r32 (l : List Int) : Prop := ∀ y ∈ l, 0 ≤ y ∧ y < 4294967296
theorem up {x : Int} (h : 0 ≤ x ∧ x < 4294967296) : icv .u64 x = x := by unfold icv; rw [w_u64_in (by omega)]
theorem ine_self (z : Int) : ine z z = false := by simp [ine]
theorem bb_self (z : Bool) : notB (beqB z z) = false := by cases z <;> rfl
theorem takes_loop (l : List Int) (hl : r32 l) : ∀ (k i t : Nat) (y : Int), i + k = min 100 l.length → t ≤ i → (0 ≤ y ∧ y < 4294967296) →
    L12L l (k + 1) (nlen (lenI l)) (t : Int) y (i : Int) y (t : Int) ((i : Int) - t) = some 0
  | 0, i, t, y, h, ht, hy => by
    rw [L12L]
    by_cases h3 : (i : Int) < l.length
    · have e1 : inB (i : Int) (lenI l) := ⟨by omega, by unfold lenI; omega⟩
      have e2 : ltN (idxN 0 (i : Int)) (lenI l) := by unfold ltN idxN lenI; omega
      rw [show ilt (i : Int) (nlen (lenI l)) = true from by simp only [ilt_d, nlen, lenI, decide_eq_true_eq]; omega, show ile 100 (i : Int) = true from by simp only [ile_d, decide_eq_true_eq]; omega, decide_eq_true e1, decide_eq_true e2]; rfl
    · rw [show ilt (i : Int) (nlen (lenI l)) = false from by simp only [ilt_d, nlen, lenI, decide_eq_false_iff_not]; omega]; rfl
  | k + 1, i, t, y, h, ht, hy => by
    have hi : i < l.length := by omega
    have e0 : getI l (idxN 0 (i : Int)) = l[i] := by unfold getI idxN; rw [Int.toNat_natCast, Nat.zero_add, List.getD_eq_getElem?_getD, List.getElem?_eq_getElem hi, Option.getD_some]
    have hz := hl _ (List.getElem_mem hi)
    generalize hzz : l[i] = z at e0 hz
    have e1 : inB (i : Int) (lenI l) := ⟨by omega, by unfold lenI; omega⟩
    have e2 : ltN (idxN 0 (i : Int)) (lenI l) := by unfold ltN idxN lenI; omega
    have e3 : iadd .i64 (i : Int) 1 = ((i + 1 : Nat) : Int) := by unfold iadd; rw [w_i64_in (by omega)]; omega
    have e4 : iadd .i64 (t : Int) 1 = ((t + 1 : Nat) : Int) := by unfold iadd; rw [w_i64_in (by omega)]; omega
    have e5 : isub .i64 ((i + 1 : Nat) : Int) ((t + 1 : Nat) : Int) = ((i + 1 : Nat) : Int) - ((t + 1 : Nat) : Int) := by unfold isub; rw [w_i64_in (by omega)]
    have e6 : isub .i64 ((i + 1 : Nat) : Int) (t : Int) = ((i + 1 : Nat) : Int) - (t : Int) := by unfold isub; rw [w_i64_in (by omega)]
    have e7 : iadd .i64 ((i : Int) - t) 1 = ((i + 1 : Nat) : Int) - (t : Int) := by unfold iadd; rw [w_i64_in (by omega)]; omega
    have e8 : ((i : Int) - t) = ((i + 1 : Nat) : Int) - ((t + 1 : Nat) : Int) := by omega
    have e9 : ieq ((t + 1 : Nat) : Int) 0 = false := by simp only [ieq_d, decide_eq_false_iff_not]; omega
    have dd : dif z y 32 = rdif z y 32 := dif_rdif z y 32 (by omega) (by omega)
    have ih1 := takes_loop l hl k (i + 1) (t + 1) z (by omega) (by omega) hz
    have ih2 := takes_loop l hl k (i + 1) t y (by omega) (by omega) hy
    rw [L12L, show ilt (i : Int) (nlen (lenI l)) = true from by simp only [ilt_d, nlen, lenI, decide_eq_true_eq]; omega, show ile 100 (i : Int) = false from by simp only [ile_d, decide_eq_false_iff_not]; omega,
      e0, e3, e4, e5, e6, decide_eq_true e1, decide_eq_true e2]
    unfold f15r0 f15r1 f15r2 f15r3 f16r0
    rw [up hz, up hy, dd, e4, e7]
    rcases Nat.eq_zero_or_pos t with h0 | h0
    · subst h0
      rw [show ilt 0 ((0 : Nat) : Int) = false from rfl, show ieq ((0 : Nat) : Int) 0 = true from rfl]
      simp only [cond_true, cond_false]
      rw [e9, e8]
      simp only [cond_true, cond_false, bb_self, ine_self, notB_d, Bool.not_true]
      exact ih1
    · rw [show ilt 0 (t : Int) = true from by simp only [ilt_d, decide_eq_true_eq]; omega, show ieq (t : Int) 0 = false from by simp only [ieq_d, decide_eq_false_iff_not]; omega]
      cases hd : ilt 0 (rdif z y 32) with
      | true =>
        simp only [cond_true, cond_false, notB_d, Bool.not_true, beqB_d, beq_self_eq_true]
        rw [e9, e8]
        simp only [cond_true, cond_false, ine_self, Bool.not_true]
        exact ih1
      | false =>
        simp only [cond_true, cond_false, notB_d, Bool.not_false, Bool.not_true, beqB_d, beq_self_eq_true]
        rw [show ieq (t : Int) 0 = false from by simp only [ieq_d, decide_eq_false_iff_not]; omega]
        simp only [ine_self, cond_true, cond_false, Bool.not_true]
        exact ih2
theorem takes (l : List Int) (hl : r32 l) : ACalls Try.prog 12 [AV.sw 0 1] [AObj.ints 0 false .u32 l] (AV.v (Value.bool true)) [] [] :=
  f12 l 0 (min 100 l.length + 1) 0 (fun _ => takes_loop l hl (min 100 l.length) 0 0 0 (by omega) (by omega) (by omega)) (fun h => by simp at h)
theorem law_takes (l : List (El (Go.Abs.PS.int .u32).ck)) (w0 : ∀ y ∈ l, El.ok (Go.Abs.PS.int .u32).ck y) :
    ACalls Try.prog 12 [AV.sw 0 1] [rowO (Go.Abs.PS.int .u32).ck l] (AV.v (Value.bool true)) [] [] :=
  takes l (fun y hy => by have := wf_u32' (w0 y hy); omega)
end Go.Proofs.Ytfihmphhklplnaa.Fresh
