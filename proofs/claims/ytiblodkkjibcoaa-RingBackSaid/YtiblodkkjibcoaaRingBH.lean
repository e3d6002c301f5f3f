import Derived.Test.YtiblodkkjibcoaaRingB
import Derived.Test.YtiblodkkjibcoaaAbsWs
set_option linter.unusedVariables false
set_option linter.unusedSimpArgs false
set_option maxRecDepth 100000
namespace Go.Proofs.Ytiblodkkjibcoaa.Ring
open Go.Abs
theorem la (c : Int) (m y : List Int) (k : Int) (hk : 1 ≤ k) (hc : 0 ≤ c ∧ c ≤ 255) : ∀ (j i : Nat) (a : Int) (l : List Int), (i : Int) + j = c → okR l a 0 k = true →
    ∃ (a' : Int) (l' : List Int), LaL c m (j + 1) y k (i : Int) a 0 l = some (y, a', 0, k, l') ∧ okR l' a' 0 k = true
  | 0, i, a, l, h, ho => by
    have e : icv .i64 c = c := by unfold icv; rw [w_i64_in (by omega)]
    refine ⟨a, l, ?_, ho⟩
    rw [LaL, e, show ilt (i : Int) c = false from by simp only [ilt_d, decide_eq_false_iff_not]; omega]; rfl
  | j + 1, i, a, l, h, ho => by
    have e : icv .i64 c = c := by unfold icv; rw [w_i64_in (by omega)]
    have e3 : iadd .i64 (i : Int) 1 = ((i + 1 : Nat) : Int) := by unfold iadd; rw [w_i64_in (by omega)]; omega
    have h1 := ps_ok 7 ho
    have h2 := pop_ok h1
    have en : popN (psN 0 k) = 0 := by unfold psN; rw [if_neg (by omega)]; unfold popN; simp
    rw [en] at h2
    obtain ⟨a', l', q1, q2⟩ := la c m y k hk hc j (i + 1) _ _ (by omega) h2
    refine ⟨a', l', ?_, q2⟩
    rw [LaL, e, show ilt (i : Int) c = true from by simp only [ilt_d, decide_eq_true_eq]; omega, e3, en, decide_eq_true ho, decide_eq_true h1]
    exact q1
theorem lb (m y : List Int) (k : Int) (hk : k = y.length + 1) (hy : y.length ≤ 40) : ∀ (j i : Nat) (a n : Int) (l : List Int), i + j = y.length → okR l a n k = true → itR l a n = y.take i →
    ∃ (a' n' : Int) (l' : List Int), LbL m (j + 1) (nlen (lenI y)) y a n k l (i : Int) = some (1, [], 0, 0, 0, [], y, a', n', k, l') ∧ okR l' a' n' k = true ∧ itR l' a' n' = y
  | 0, i, a, n, l, h, ho, hi => by
    refine ⟨a, n, l, ?_, ho, by rw [hi, List.take_of_length_le (by omega)]⟩
    rw [LbL, show ilt (i : Int) (nlen (lenI y)) = false from by simp only [ilt_d, nlen, lenI, decide_eq_false_iff_not]; omega]; rfl
  | j + 1, i, a, n, l, h, ho, hi => by
    have hlt : i < y.length := by omega
    have e3 : iadd .i64 (i : Int) 1 = ((i + 1 : Nat) : Int) := by unfold iadd; rw [w_i64_in (by omega)]; omega
    have hn : n.toNat = i := by
      have := congrArg List.length hi
      rw [itR_len, List.length_take] at this; omega
    have ho' := okR_iff.1 ho
    have hnk : n ≠ k := by omega
    have eg : getI y (idxN 0 (i : Int)) = y[i] := by unfold getI idxN; rw [Int.toNat_natCast, Nat.zero_add, List.getD_eq_getElem?_getD, List.getElem?_eq_getElem hlt]; rfl
    have h1 := ps_ok (y[i]) ho
    have h2 := ps_it (y[i]) ho
    rw [if_neg hnk, hi] at h2
    obtain ⟨a', n', l', q1, q2, q3⟩ := lb m y k hk hy j (i + 1) _ _ _ (by omega) h1 (by rw [h2, List.take_succ_eq_append_getElem hlt])
    refine ⟨a', n', l', ?_, q2, q3⟩
    rw [LbL, show ilt (i : Int) (nlen (lenI y)) = true from by simp only [ilt_d, nlen, lenI, decide_eq_true_eq]; omega, eg, e3, show psE n k = 0 from by unfold psE; rw [if_neg hnk], show ine 0 0 = false from by decide,
      decide_eq_true (show inB (i : Int) (lenI y) from ⟨by omega, by unfold lenI; omega⟩), decide_eq_true (show ltN (idxN 0 (i : Int)) (lenI y) from by unfold ltN idxN lenI; omega), decide_eq_true ho]
    exact q1
theorem lc (m y : List Int) (k : Int) (hy : y.length ≤ 40) : ∀ (j i : Nat) (a n : Int) (l : List Int), i + j = y.length → okR l a n k = true → itR l a n = y.drop i →
    ∃ (a' : Int) (l' : List Int), LcL m (j + 1) (nlen (lenI y)) a n k y l (i : Int) = some (1, 0, 0, 0, [], a', 0, k, l')
  | 0, i, a, n, l, h, ho, hi => by
    have hn : n.toNat = 0 := by
      have := congrArg List.length hi
      rw [itR_len, List.length_drop] at this; omega
    have ho' := okR_iff.1 ho
    have : n = 0 := by omega
    subst this
    refine ⟨a, l, ?_⟩
    rw [LcL, show ilt (i : Int) (nlen (lenI y)) = false from by simp only [ilt_d, nlen, lenI, decide_eq_false_iff_not]; omega]; rfl
  | j + 1, i, a, n, l, h, ho, hi => by
    have hlt : i < y.length := by omega
    have e3 : iadd .i64 (i : Int) 1 = ((i + 1 : Nat) : Int) := by unfold iadd; rw [w_i64_in (by omega)]; omega
    have hn : n.toNat = y.length - i := by
      have := congrArg List.length hi
      rw [itR_len, List.length_drop] at this; omega
    have ho' := okR_iff.1 ho
    have eg : getI y (idxN 0 (i : Int)) = y[i] := by unfold getI idxN; rw [Int.toNat_natCast, Nat.zero_add, List.getD_eq_getElem?_getD, List.getElem?_eq_getElem hlt]; rfl
    have ev : aV l a n 0 = y[i] := by
      rw [aV_it (by omega), hi, List.getD_eq_getElem?_getD, List.getElem?_drop]
      show y[i + 0]?.getD 0 = _
      rw [Nat.add_zero, List.getElem?_eq_getElem hlt]; rfl
    have h1 := pop_ok ho
    have h2 := pop_it ho
    rw [hi] at h2
    obtain ⟨a', l', q1⟩ := lc m y k hy j (i + 1) _ _ _ (by omega) h1 (by rw [h2, List.tail_drop])
    refine ⟨a', l', ?_⟩
    rw [LcL, show ilt (i : Int) (nlen (lenI y)) = true from by simp only [ilt_d, nlen, lenI, decide_eq_true_eq]; omega, eg, e3, ev, show aB n 0 = true from by unfold aB; rw [decide_eq_true_eq]; omega, show notB true = false from rfl,
      show ine y[i] y[i] = false from by simp [ine_d], decide_eq_true (show inB (i : Int) (lenI y) from ⟨by omega, by unfold lenI; omega⟩), decide_eq_true (show ltN (idxN 0 (i : Int)) (lenI y) from by unfold ltN idxN lenI; omega), decide_eq_true ho]
    exact q1
theorem back (c : Int) (m : List Int) (hc : 0 ≤ c ∧ c ≤ 255) :
    ACalls Try.prog 4 [AV.v (.int .u8 c), AV.sw 0 1] [AObj.ints 0 false .i64 m] (AV.v (Value.bool true)) [] [] := by
  have e0 : subN (imin (nlen (lenI m)) 40) 0 = min m.length 40 := by unfold subN imin nlen lenI; omega
  have e1 : subI m 0 (min m.length 40) = m.take 40 := by
    unfold subI; rw [List.drop_zero]
    rcases Nat.le_total m.length 40 with h | h
    · rw [Nat.min_eq_left h, List.take_of_length_le (Nat.le_refl _), List.take_of_length_le h]
    · rw [Nat.min_eq_right h]
  have hl : (m.take 40).length ≤ 40 := by rw [List.length_take]; omega
  have ek : imax 0 (imin (iadd .i64 (nlen (lenI (m.take 40))) 1) 65536) = ((m.take 40).length : Int) + 1 := by
    unfold imax imin iadd nlen lenI; rw [w_i64_in (by omega)]; omega
  have ho : okR [] 0 0 (((m.take 40).length : Int) + 1) = true := by rw [okR_iff]; simp; omega
  obtain ⟨a1, l1, q1, o1⟩ := la c m (m.take 40) _ (by omega) hc c.toNat 0 0 [] (by omega) ho
  obtain ⟨a2, n2, l2, q2, o2, i2⟩ := lb m (m.take 40) _ rfl hl (m.take 40).length 0 a1 0 l1 (by omega) o1 (by simp [itR])
  obtain ⟨a3, l3, q3⟩ := lc m (m.take 40) _ hl (m.take 40).length 0 a2 n2 l2 (by omega) o2 (by rw [i2, List.drop_zero])
  have h := f4 c m (c.toNat + 1) (m.take 40) a1 0 _ l1 1 0 [] 0 0 0 [] ((m.take 40).length + 1) (m.take 40) a2 n2 _ l2 1 0 0 0 0 [] ((m.take 40).length + 1) a3 0 _ l3
    (by rw [e0, e1, ek]; exact q1) (fun h => by simp at h) (fun _ => q2) (fun _ h => by simp at h) (fun _ _ => q3) (by unfold inC imin nlen lenI; omega) (by rw [e0]; unfold leN lenI; show 0 + _ ≤ _; omega)
  exact h
theorem law_back (c : Int) (m : List (El (Go.Abs.PS.int .i64).ck)) (w0 : (Lit.int .u8 c).wf = true) (w1 : ∀ y ∈ m, El.ok (Go.Abs.PS.int .i64).ck y) :
    ACalls Try.prog 4 [AV.v (.int .u8 c), AV.sw 0 1] [rowO (Go.Abs.PS.int .i64).ck m] (AV.v (Value.bool true)) [] [] := back c m (wf_u8' w0)
end Go.Proofs.Ytiblodkkjibcoaa.Ring
