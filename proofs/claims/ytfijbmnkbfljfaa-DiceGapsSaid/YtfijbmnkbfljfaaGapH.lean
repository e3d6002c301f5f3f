import Derived.Test.YtfijbmnkbfljfaaGap
import Derived.Test.YtfijbmnkbfljfaaAbsWs
set_option linter.unusedVariables false
set_option linter.unusedSimpArgs false
set_option maxRecDepth 100000
namespace Go.Proofs.Ytfijbmnkbfljfaa.Dice
open Go.Abs
/-- where the k-th stretch begins -/
def pos (g : List Int) : Nat → Int
  | 0 => 0
  | k + 1 => pos g k + g.getD k 0 + 1
theorem pos_eq {g g' : List Int} : ∀ k : Nat, (∀ j, j < k → g.getD j 0 = g'.getD j 0) → pos g k = pos g' k
  | 0, _ => rfl
  | k + 1, h => by simp only [pos]; rw [pos_eq k (fun j hj => h j (by omega)), h k (by omega)]
theorem get_app {α : Type} (l m : List α) (d : α) {k : Nat} (h : k < l.length) : (l ++ m).getD k d = l.getD k d := by
  rw [List.getD_eq_getElem?_getD, List.getD_eq_getElem?_getD, List.getElem?_append_left h]
theorem get_end {α : Type} (l : List α) (x d : α) : (l ++ [x]).getD l.length d = x := by
  rw [List.getD_eq_getElem?_getD, List.getElem?_append_right (Nat.le_refl _)]; simp
theorem get_set_ne {α : Type} (l : List α) (x d : α) {i k : Nat} (h : i ≠ k) : (l.set i x).getD k d = l.getD k d := by
  rw [List.getD_eq_getElem?_getD, List.getD_eq_getElem?_getD, List.getElem?_set_ne h]
theorem get_set_eq {α : Type} (l : List α) (x d : α) {i : Nat} (h : i < l.length) : (l.set i x).getD i d = x := by
  rw [List.getD_eq_getElem?_getD, List.getElem?_set_self h, Option.getD_some]
structure Gaps (s : Int) (l g : List Int) : Prop where
  ne : 0 < g.length
  a : ∀ k : Nat, k < g.length → 0 ≤ g.getD k 0 ∧ 0 ≤ pos g k ∧ pos g k + g.getD k 0 ≤ l.length ∧ ∀ n : Nat, (n : Int) < g.getD k 0 → f24r0 (l.getD ((pos g k).toNat + n) 0) s = false
  b : ∀ k : Nat, k + 1 < g.length → pos g k + g.getD k 0 < l.length ∧ f24r0 (l.getD (pos g k + g.getD k 0).toNat 0) s = true
  c : pos g (g.length - 1) + g.getD (g.length - 1) 0 = l.length
theorem gaps (s : Int) : ∀ l : List Int, Gaps s l (gap s l) := by
  refine snocInd (P := fun l => Gaps s l (gap s l)) ?_ (fun l x ih => ?_)
  · refine ⟨by simp [gap], fun k hk => ?_, fun k hk => ?_, rfl⟩
    · obtain rfl : k = 0 := by simp [gap] at hk; omega
      refine ⟨Int.le_refl 0, Int.le_refl 0, Int.le_refl 0, fun n hn => ?_⟩
      simp [gap] at hn; omega
    · simp [gap] at hk
  · rw [gap_snoc]
    generalize gap s l = g at ih
    obtain ⟨h1, hA, hB, hC⟩ := ih
    have hL : ((l ++ [x]).length : Int) = l.length + 1 := by rw [List.length_append]; simp
    unfold gstep
    cases hx : f24r0 x s with
    | true =>
      simp only [if_true]
      have hp : ∀ k, k ≤ g.length → pos (g ++ [0]) k = pos g k := fun k hk => pos_eq k (fun j hj => get_app g [0] 0 (by omega))
      have hpl : pos g g.length = l.length + 1 := by
        have : g.length = (g.length - 1) + 1 := by omega
        rw [this]; simp only [pos]; omega
      refine ⟨by simp, fun k hk => ?_, fun k hk => ?_, ?_⟩
      · rw [List.length_append, List.length_singleton] at hk
        rw [hL, hp k (by omega)]
        rcases Nat.lt_or_ge k g.length with h | h
        · rw [get_app g [0] 0 h]
          obtain ⟨a1, a2, a3, a4⟩ := hA k h
          refine ⟨a1, a2, by omega, fun n hn => ?_⟩
          rw [get_app l [x] 0 (by omega)]; exact a4 n hn
        · obtain rfl : k = g.length := by omega
          rw [get_end, hpl]
          exact ⟨by decide, by omega, by omega, fun n hn => by omega⟩
      · rw [List.length_append, List.length_singleton] at hk
        rw [hL, hp k (by omega), get_app g [0] 0 (by omega)]
        rcases Nat.lt_or_ge (k + 1) g.length with h | h
        · obtain ⟨b1, b2⟩ := hB k h
          have := hA k (by omega)
          rw [get_app l [x] 0 (by omega)]
          exact ⟨by omega, b2⟩
        · obtain rfl : k = g.length - 1 := by omega
          rw [hC]
          refine ⟨by omega, ?_⟩
          rw [Int.toNat_natCast, get_end]; exact hx
      · rw [hL, List.length_append, List.length_singleton, Nat.add_sub_cancel, hp _ (Nat.le_refl _), get_end, hpl]; omega
    | false =>
      simp only [Bool.false_eq_true, if_false]
      have hlen : (g.set (g.length - 1) (g.getD (g.length - 1) 0 + 1)).length = g.length := List.length_set
      have hp : ∀ k, k ≤ g.length - 1 → pos (g.set (g.length - 1) (g.getD (g.length - 1) 0 + 1)) k = pos g k := fun k hk => pos_eq k (fun j hj => get_set_ne g _ 0 (by omega))
      refine ⟨by rw [hlen]; exact h1, fun k hk => ?_, fun k hk => ?_, ?_⟩
      · rw [hlen] at hk
        rw [hL, hp k (by omega)]
        rcases Nat.lt_or_ge k (g.length - 1) with h | h
        · rw [get_set_ne g _ 0 (by omega)]
          obtain ⟨a1, a2, a3, a4⟩ := hA k hk
          refine ⟨a1, a2, by omega, fun n hn => ?_⟩
          rw [get_app l [x] 0 (by omega)]; exact a4 n hn
        · obtain rfl : k = g.length - 1 := by omega
          rw [get_set_eq g _ 0 hk]
          obtain ⟨a1, a2, a3, a4⟩ := hA _ hk
          refine ⟨by omega, a2, by omega, fun n hn => ?_⟩
          rcases Nat.lt_or_ge ((pos g (g.length - 1)).toNat + n) l.length with h2 | h2
          · rw [get_app l [x] 0 h2]; exact a4 n (by omega)
          · rw [show (pos g (g.length - 1)).toNat + n = l.length from by omega, get_end]; exact hx
      · rw [hlen] at hk
        rw [hL, hp k (by omega), get_set_ne g _ 0 (by omega)]
        obtain ⟨b1, b2⟩ := hB k hk
        have := hA k (by omega)
        rw [get_app l [x] 0 (by omega)]
        exact ⟨by omega, b2⟩
      · rw [hL, hlen, hp _ (Nat.le_refl _), get_set_eq g _ 0 (by omega)]; omega
theorem misses_of {s : Int} {l g : List Int} (h : Gaps s l g) (hl : l.length ≤ 1000000) {k : Nat} (hk : k < g.length) : misses s l (pos g k) (g.getD k 0) = true := by
  obtain ⟨a1, a2, a3, a4⟩ := h.a k hk
  simp only [misses, Bool.and_eq_true, decide_eq_true_eq, List.all_eq_true, List.mem_range, Bool.not_eq_true']
  exact ⟨⟨⟨⟨a2, a1⟩, a3⟩, hl⟩, fun n hn => a4 n (by omega)⟩
theorem l10 (l' : List Int) (s : Int) (l g : List Int) (h : Gaps s l g) (hl : l.length ≤ 100) (hg : g.length ≤ 101) : ∀ j k : Nat, k + (j + 1) = g.length →
    L10L l' s (j + 2) (nlen (lenI g)) l g (pos g k) (k : Int) (k : Int) = some (1, 0, 0, [], [], (l.length : Int), ((g.length - 1 : Nat) : Int), l, g)
  | j, k, hk => by
    have hkl : k < g.length := by omega
    have hm := misses_of h (by omega) hkl
    obtain ⟨a1, a2, a3, a4⟩ := h.a k hkl
    have e0 : getI g (idxN 0 (k : Int)) = g.getD k 0 := by unfold getI idxN; rw [Int.toNat_natCast, Nat.zero_add]
    have e1 : inL (k : Int) g = true := by simp only [inL, Bool.and_eq_true, decide_eq_true_eq]; omega
    have e2 : iadd .i64 (pos g k) (g.getD k 0) = pos g k + g.getD k 0 := by unfold iadd; rw [w_i64_in (by omega)]
    have e3 : iadd .i64 (k : Int) 1 = ((k + 1 : Nat) : Int) := by unfold iadd; rw [w_i64_in (by omega)]; omega
    have e4 : isub .i64 (nlen (lenI g)) 1 = ((g.length - 1 : Nat) : Int) := by unfold isub nlen lenI; rw [w_i64_in (by omega)]; omega
    rw [L10L, show ilt (k : Int) (nlen (lenI g)) = true from by simp only [ilt_d, nlen, lenI, decide_eq_true_eq]; omega, e0, e2, e4, e3, decide_eq_true e1, decide_eq_true hm]
    cases j with
    | zero =>
      obtain rfl : k = g.length - 1 := by omega
      rw [show ilt ((g.length - 1 : Nat) : Int) ((g.length - 1 : Nat) : Int) = false from by simp [ilt_d], h.c]
      simp only [cond_true, cond_false]
      rw [L10L, show ilt ((g.length - 1 + 1 : Nat) : Int) (nlen (lenI g)) = false from by simp only [ilt_d, nlen, lenI, decide_eq_false_iff_not]; omega]
      rfl
    | succ j =>
      obtain ⟨b1, b2⟩ := h.b k (by omega)
      have e5 : iadd .i64 (pos g k + g.getD k 0) 1 = pos g (k + 1) := by unfold iadd; rw [w_i64_in (by omega)]; rfl
      have e6 : getI l (idxN 0 (pos g k + g.getD k 0)) = l.getD (pos g k + g.getD k 0).toNat 0 := by unfold getI idxN; rw [Nat.zero_add]
      have e7 : inB (pos g k + g.getD k 0) (lenI l) := ⟨by omega, by unfold lenI; omega⟩
      have e8 : ltN (idxN 0 (pos g k + g.getD k 0)) (lenI l) := by unfold ltN idxN lenI; omega
      rw [show ilt (k : Int) ((g.length - 1 : Nat) : Int) = true from by simp only [ilt_d, decide_eq_true_eq]; omega,
        show ile (nlen (lenI l)) (pos g k + g.getD k 0) = false from by simp only [ile_d, nlen, lenI, decide_eq_false_iff_not]; omega, e6, b2, decide_eq_true e7, decide_eq_true e8, e5]
      exact l10 l' s l g h hl hg j (k + 1) (by omega)
theorem dice_gaps (l : List Int) (s : Int) (hl : ∀ y ∈ l, 0 ≤ y ∧ y < 4294967296) :
    ACalls Try.prog 10 [AV.sw 0 1, AV.v (.int .i64 s)] [AObj.ints 0 false .u32 l] (AV.v (Value.bool true)) [] [] := by
  have e0 : imin (nlen (lenI l)) 100 = ((min (l.length) 100 : Nat) : Int) := by unfold imin nlen lenI; omega
  have hd : rng (subI l 0 (subN (imin (nlen (lenI l)) 100) 0)) := fun y hy => by
    unfold subI at hy
    exact hl y (List.mem_of_mem_drop (List.mem_of_mem_take hy))
  have hle : (subI l 0 (subN (imin (nlen (lenI l)) 100) 0)).length ≤ 100 := by
    rw [e0]; unfold subI subN; simp; omega
  have s0 : inC 0 (imin (nlen (lenI l)) 100) (nlen (lenI l)) := by rw [e0]; unfold inC nlen lenI; omega
  have s1 : leN (Nat.add 0 (subN (imin (nlen (lenI l)) 100) 0)) (lenI l) := by rw [e0]; unfold leN subN lenI; simp; omega
  generalize hD : subI l 0 (subN (imin (nlen (lenI l)) 100) 0) = d at hd hle
  have hG := gaps s d
  obtain ⟨g1, g2, g3⟩ := gap_ok s d
  have hc := l10 l s d (gap s d) hG hle (by omega) ((gap s d).length - 1) 0 (by omega)
  have h := f10 l s 1 0 0 0 [] [] ((gap s d).length + 1) (d.length : Int) (((gap s d).length - 1 : Nat) : Int) d (gap s d) (fun h => by simp at h)
    (fun _ => by rw [hD]; rw [show (gap s d).length + 1 = ((gap s d).length - 1) + 2 from by omega]; exact hc) s0 s1 (by rw [hD]; exact hd) (by rw [hD]; omega) (fun _ _ _ => hd) (fun _ _ _ => by omega)
  have e : f10r0 l s 1 0 0 0 [] [] ((gap s d).length + 1) (d.length : Int) (((gap s d).length - 1 : Nat) : Int) d (gap s d) = true := by
    unfold f10r0
    rw [show ilt 0 (nlen (lenI (gap s d))) = true from by simp only [ilt_d, nlen, lenI, decide_eq_true_eq]; omega,
      show ieq (d.length : Int) (nlen (lenI d)) = true from by simp [ieq_d, nlen, lenI],
      show ieq (isub .i64 (nlen (lenI (gap s d))) 1) (((gap s d).length - 1 : Nat) : Int) = true from by
        have : isub .i64 (nlen (lenI (gap s d))) 1 = (((gap s d).length - 1 : Nat) : Int) := by unfold isub nlen lenI; rw [w_i64_in (by omega)]; omega
        rw [this]; simp [ieq_d]]
    rfl
  rw [e] at h; exact h
theorem law_gaps (l : List (El (Go.Abs.PS.int .u32).ck)) (s : Int) (w0 : ∀ y ∈ l, El.ok (Go.Abs.PS.int .u32).ck y) (w1 : (Lit.int .i64 s).wf = true) :
    ACalls Try.prog 10 [AV.sw 0 1, AV.v (.int .i64 s)] [rowO (Go.Abs.PS.int .u32).ck l] (AV.v (Value.bool true)) [] [] :=
  dice_gaps l s (fun y hy => by have := wf_u32' (w0 y hy); omega)
end Go.Proofs.Ytfijbmnkbfljfaa.Dice
