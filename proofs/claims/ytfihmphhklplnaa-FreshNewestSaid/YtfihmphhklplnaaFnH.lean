import Derived.Test.YtfihmphhklplnaaFrH
set_option linter.unusedVariables false
set_option linter.unusedSimpArgs false
set_option maxRecDepth 100000
namespace Go.Proofs.Ytfihmphhklplnaa.Fresh
open Go.Abs Go.Proofs.Ytfihmphhklplnaa.Ser
def plus (x d : Int) : Int := (x + d) % 4294967296
theorem plus_in (x d : Int) : 0 ≤ plus x d ∧ plus x d < 4294967296 := by unfold plus; omega
theorem newer {x d e : Int} (hx : 0 ≤ x ∧ x < 4294967296) (hd : 0 ≤ d ∧ d < 1073741824) (he : 0 ≤ e ∧ e < 1073741824) : ilt 0 (dif (plus x d) (plus x e) 32) = decide (e < d) := by
  have h1 := plus_in x d
  have h2 := plus_in x e
  rw [dif_mid _ _ _ (by omega) (by omega), rd_lit (N := 4294967296) (by decide)]
  simp only [ilt_d]
  congr 1
  apply propext
  unfold mid plus
  constructor
  · intro h; split at h <;> omega
  · intro h; split <;> omega
theorem newest_loop (x : Int) (l : List Int) (hx : 0 ≤ x ∧ x < 4294967296) (hl : r32 l) : ∀ (k i : Nat) (n : Int) (t b : Nat), i + k = min 60 l.length → 0 < i → (0 ≤ n ∧ n < 1073741824) → 0 < t → t ≤ i → b ≤ i →
    ∃ (n' : Int) (t' b' : Nat), L3L x l (k + 1) n (i : Int) (plus x n) (t : Int) (b : Int) = some (n', plus x n', (t' : Int), (b' : Int)) ∧ (0 ≤ n' ∧ n' < 1073741824) ∧ 0 < t' ∧ t' ≤ 60 ∧ b' ≤ 60
  | 0, i, n, t, b, h, hi0, hn, ht, hti, hbi => by
    refine ⟨n, t, b, ?_, hn, ht, by omega, by omega⟩
    rw [L3L]
    by_cases h3 : (i : Int) < l.length
    · rw [show ilt (i : Int) (nlen (lenI l)) = true from by simp only [ilt_d, nlen, lenI, decide_eq_true_eq]; omega, show ilt (i : Int) 60 = false from by simp only [ilt_d, decide_eq_false_iff_not]; omega]; rfl
    · rw [show ilt (i : Int) (nlen (lenI l)) = false from by simp only [ilt_d, nlen, lenI, decide_eq_false_iff_not]; omega]; rfl
  | k + 1, i, n, t, b, h, hi0, hn, ht, hti, hbi => by
    have hi : i < l.length := by omega
    have e0 : getI l (idxN 0 (i : Int)) = l[i] := by unfold getI idxN; rw [Int.toNat_natCast, Nat.zero_add, List.getD_eq_getElem?_getD, List.getElem?_eq_getElem hi, Option.getD_some]
    have hz := hl _ (List.getElem_mem hi)
    have e1 : inB (i : Int) (lenI l) := ⟨by omega, by unfold lenI; omega⟩
    have e2 : ltN (idxN 0 (i : Int)) (lenI l) := by unfold ltN idxN lenI; omega
    have e3 : iadd .i64 (i : Int) 1 = ((i + 1 : Nat) : Int) := by unfold iadd; rw [w_i64_in (by omega)]; omega
    have e4 : iadd .i64 (t : Int) 1 = ((t + 1 : Nat) : Int) := by unfold iadd; rw [w_i64_in (by omega)]; omega
    have e5 : iadd .i64 (b : Int) 1 = ((b + 1 : Nat) : Int) := by unfold iadd; rw [w_i64_in (by omega)]; omega
    have ed : irem l[i] 1073741824 = l[i] % 1073741824 := by unfold irem; exact Int.tmod_eq_emod_of_nonneg hz.1
    have hd : 0 ≤ l[i] % 1073741824 ∧ l[i] % 1073741824 < 1073741824 := by omega
    generalize l[i] % 1073741824 = d at ed hd
    have ex : iadd .u32 x d = plus x d := by unfold iadd plus; rw [w_u32]
    have hpd := plus_in x d
    have hpn := plus_in x n
    rw [L3L, show ilt (i : Int) (nlen (lenI l)) = true from by simp only [ilt_d, nlen, lenI, decide_eq_true_eq]; omega, show ilt (i : Int) 60 = true from by simp only [ilt_d, decide_eq_true_eq]; omega,
      e0, ed, ex, e3, decide_eq_true e1, decide_eq_true e2]
    unfold f15r1 f15r2 f15r3
    rw [up hpd, up hpn, newer hx hd hn, show ilt 0 (t : Int) = true from by simp only [ilt_d, decide_eq_true_eq]; omega, e4, e5]
    simp only [cond_true, notB_d]
    by_cases hlt : n < d
    · obtain ⟨n', t', b', g1, g2⟩ := newest_loop x l hx hl k (i + 1) d (t + 1) b (by omega) (by omega) hd (by omega) (by omega) (by omega)
      refine ⟨n', t', b', ?_, g2⟩
      rw [show imax n d = d from by unfold imax; omega, decide_eq_true hlt]
      exact g1
    · obtain ⟨n', t', b', g1, g2⟩ := newest_loop x l hx hl k (i + 1) n t (b + 1) (by omega) (by omega) hn ht (by omega) (by omega)
      refine ⟨n', t', b', ?_, g2⟩
      rw [show imax n d = n from by unfold imax; omega, decide_eq_false hlt]
      exact g1
theorem newest (x : Int) (l : List Int) (hx : 0 ≤ x ∧ x < 4294967296) (hl : r32 l) : ACalls Try.prog 3 [AV.v (.int .u32 x), AV.sw 0 1] [AObj.ints 0 false .u32 l] (AV.v (Value.bool true)) [] [] := by
  cases l with
  | nil =>
    exact f3 x [] 1 0 0 0 0 rfl
  | cons z r =>
    have hz := hl z (by simp)
    have e3 : iadd .i64 (0 : Int) 1 = ((1 : Nat) : Int) := rfl
    have ed : irem z 1073741824 = z % 1073741824 := by unfold irem; exact Int.tmod_eq_emod_of_nonneg hz.1
    have hd : 0 ≤ z % 1073741824 ∧ z % 1073741824 < 1073741824 := by omega
    generalize z % 1073741824 = d at ed hd
    have ex : iadd .u32 x d = plus x d := by unfold iadd plus; rw [w_u32]
    obtain ⟨n', t', b', g1, g2, g3, g4, g5⟩ := newest_loop x (z :: r) hx hl (min 60 (z :: r).length - 1) 1 d 1 0 (by rw [List.length_cons]; omega) (by omega) hd (by omega) (by omega) (by omega)
    have first : L3L x (z :: r) (min 60 (z :: r).length - 1 + 1 + 1) 0 0 0 0 0 = some (n', plus x n', (t' : Int), (b' : Int)) := by
      rw [L3L, show ilt 0 (nlen (lenI (z :: r))) = true from by simp only [ilt_d, nlen, lenI, decide_eq_true_eq, List.length_cons]; omega, show ilt 0 60 = true from rfl,
        show getI (z :: r) (idxN 0 0) = z from rfl, ed, ex, e3, decide_eq_true (show inB 0 (lenI (z :: r)) from ⟨by omega, by unfold lenI; rw [List.length_cons]; omega⟩), decide_eq_true (show ltN (idxN 0 0) (lenI (z :: r)) from by unfold ltN idxN lenI; rw [List.length_cons]; exact Nat.succ_pos _)]
      unfold f15r1 f15r2 f15r3
      rw [show ilt 0 0 = false from rfl, e3, show imax 0 d = d from by unfold imax; omega]
      exact g1
    have hp := plus_in x n'
    have h := f3 x (z :: r) _ _ _ _ _ first
    have e : ∀ f, f3r0 x (z :: r) f n' (plus x n') (t' : Int) (b' : Int) = true := fun f => by
      unfold f3r0 f16r0
      rw [show ieq (nlen (lenI (z :: r))) 0 = false from by simp only [ieq_d, nlen, lenI, decide_eq_false_iff_not, List.length_cons]; omega, show ieq (t' : Int) 0 = false from by simp only [ieq_d, decide_eq_false_iff_not]; omega]
      simp only [cond_true, cond_false]
      rw [show iadd .u32 x n' = plus x n' from by unfold iadd plus; rw [w_u32], show ieq (plus x n') (plus x n') = true from by simp [ieq]]
      have px : x = plus x 0 := by unfold plus; omega
      have n1 := newer hx g2 g2
      have n2 := newer hx (d := 0) (by omega) g2
      rw [← px] at n2
      rw [decide_eq_false (by omega)] at n1
      rw [decide_eq_false (by omega)] at n2
      have t0 : ilt 0 (t' : Int) = true := by simp only [ilt_d, decide_eq_true_eq]; omega
      unfold f15r0 f15r1 f15r2
      rw [up hp, n1, t0]
      simp only [cond_true, notB_d, Bool.not_false]
      rw [t0, up hp, up hx, n2]
      rfl
    rw [e] at h; exact h
theorem law_newest (x : Int) (l : List (El (Go.Abs.PS.int .u32).ck)) (w0 : (Lit.int .u32 x).wf = true) (w1 : ∀ y ∈ l, El.ok (Go.Abs.PS.int .u32).ck y) :
    ACalls Try.prog 3 [AV.v (.int .u32 x), AV.sw 0 1] [rowO (Go.Abs.PS.int .u32).ck l] (AV.v (Value.bool true)) [] [] :=
  newest x l (by have := wf_u32' w0; omega) (fun y hy => by have := wf_u32' (w1 y hy); omega)
end Go.Proofs.Ytfihmphhklplnaa.Fresh
