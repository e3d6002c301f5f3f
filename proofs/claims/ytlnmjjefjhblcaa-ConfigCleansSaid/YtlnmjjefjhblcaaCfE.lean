import Derived.Test.YtlnmjjefjhblcaaCfD
set_option maxRecDepth 100000
set_option linter.all false
set_option maxHeartbeats 4000000
namespace Go.Proofs.Ytlnmjjefjhblcaa.Cf
open Go.Abs

/-- how many flows -/
def cN (j0 : List (El FF)) : Nat := min (max j0.length 1) 256
def flAt (j0 : List (El FF)) (i : Nat) : El FF := if i < j0.length then lF (getR FF j0 i) else lF0
def bsAt (j1 : List Int) (i : Nat) : Int := if i < j1.length then kp (getI j1 i) 1 1073741824 else kp 1000 1 1073741824
/-- flows, ways back, the plan and the draws, made such that they may be -/
def cFl (j0 : List (El FF)) : List (El FF) := (List.range' 0 (cN j0)).map (flAt j0)
def cBs (j0 : List (El FF)) (j1 : List Int) : List Int := (List.range' 0 (cN j0)).map (bsAt j1)
def cPl (j2 : List Int) : List Int := (j2.take 4096).map fun x => kp x (-1) 1073741824
def cDr (j3 : List Int) : List Int := j3.take 4096
theorem l10a (j0 : List (El FF)) (j1 j2 j3 : List Int) (r a0 a1 a2 a3 a4 a5 a6 a7 y z : Int) (n : Nat) (hn : n ≤ 256) (y6 y6_1 y6_2 y6_3 y6_4 y6_5 y6_6 y6_7 y6_8 y6_9 y6_10 : Int) (y10 : List Int) : ∀ (k i : Nat) (y7 : List (El FF)) (y8 : List Int), i + k = n → y7.length = i → y8.length = i →
    L10aL j0 j1 j2 j3 r a0 a1 a2 a3 a4 a5 a6 a7 y z (k + 1) (n : Int) y6 y6_1 y6_2 y6_3 y6_4 y6_5 y6_6 y6_7 y6_8 y6_9 y6_10 y10 (i : Int) y7 y8 =
      some (y6, y6_1, y6_2, y6_3, y6_4, y6_5, y6_6, y6_7, y6_8, y6_9, y6_10, y7 ++ (List.range' i k).map (flAt j0), y8 ++ (List.range' i k).map (bsAt j1), y10)
  | 0, i, y7, y8, h, e7, e8 => by
    rw [L10aL, show ilt (i : Int) (n : Int) = false from lt_f (by omega)]; simp
  | k + 1, i, y7, y8, h, e7, e8 => by
    have g1 : decide (fitN (addN (lenR FF y7) 1) 80) = true := decide_eq_true (by unfold fitN addN lenR; omega)
    have g2 : decide (fitN (addN (lenI y8) 1) 8) = true := decide_eq_true (by unfold fitN addN lenI; omega)
    have g3 : ∀ x, decide (fitN (addN (lenR FF y7) (lenR FF [x])) 80) = true := fun x => g1
    have g4 : ∀ x, decide (fitN (addN (lenI y8) (lenI [x])) 8) = true := fun x => g2
    rw [L10aL, show ilt (i : Int) (n : Int) = true from lt_t (by omega), ix0, inc (show n ≤ 1000000 by omega) (by omega), g1, g2, g3, g4]
    by_cases h1 : i < j0.length <;> by_cases h2 : i < j1.length
    · rw [lt_t (show i < lenR FF j0 from h1), lt_t (show i < lenI j1 from h2), in_t (show i < lenR FF j0 from h1), in_t (show i < lenI j1 from h2), l_t (show i < lenR FF j0 from h1), l_t (show i < lenI j1 from h2)]
      simp only [cond_true]
      have a := l10a j0 j1 j2 j3 r a0 a1 a2 a3 a4 a5 a6 a7 y z n hn y6 y6_1 y6_2 y6_3 y6_4 y6_5 y6_6 y6_7 y6_8 y6_9 y6_10 y10 k (i + 1) (y7 ++ [flAt j0 i]) (y8 ++ [bsAt j1 i]) (by omega) (by simp [e7]) (by simp [e8])
      rw [List.range'_succ, List.map_cons, List.map_cons]
      rw [List.append_assoc, List.append_assoc] at a
      rw [flAt, if_pos h1, bsAt, if_pos h2] at a
      rw [flAt, if_pos h1, bsAt, if_pos h2]
      exact a
    · rw [lt_t (show i < lenR FF j0 from h1), lt_f (show lenI j1 ≤ i by unfold lenI; omega), in_t (show i < lenR FF j0 from h1), l_t (show i < lenR FF j0 from h1)]
      simp only [cond_true, cond_false]
      have a := l10a j0 j1 j2 j3 r a0 a1 a2 a3 a4 a5 a6 a7 y z n hn y6 y6_1 y6_2 y6_3 y6_4 y6_5 y6_6 y6_7 y6_8 y6_9 y6_10 y10 k (i + 1) (y7 ++ [flAt j0 i]) (y8 ++ [bsAt j1 i]) (by omega) (by simp [e7]) (by simp [e8])
      rw [List.range'_succ, List.map_cons, List.map_cons]
      rw [List.append_assoc, List.append_assoc] at a
      rw [flAt, if_pos h1, bsAt, if_neg h2] at a
      rw [flAt, if_pos h1, bsAt, if_neg h2]
      exact a
    · rw [lt_f (show lenR FF j0 ≤ i by unfold lenR; omega), lt_t (show i < lenI j1 from h2), in_t (show i < lenI j1 from h2), l_t (show i < lenI j1 from h2)]
      simp only [cond_true, cond_false]
      have a := l10a j0 j1 j2 j3 r a0 a1 a2 a3 a4 a5 a6 a7 y z n hn y6 y6_1 y6_2 y6_3 y6_4 y6_5 y6_6 y6_7 y6_8 y6_9 y6_10 y10 k (i + 1) (y7 ++ [flAt j0 i]) (y8 ++ [bsAt j1 i]) (by omega) (by simp [e7]) (by simp [e8])
      rw [List.range'_succ, List.map_cons, List.map_cons]
      rw [List.append_assoc, List.append_assoc] at a
      rw [flAt, if_neg h1, bsAt, if_pos h2] at a
      rw [flAt, if_neg h1, bsAt, if_pos h2]
      exact a
    · rw [lt_f (show lenR FF j0 ≤ i by unfold lenR; omega), lt_f (show lenI j1 ≤ i by unfold lenI; omega)]
      simp only [cond_true, cond_false]
      have a := l10a j0 j1 j2 j3 r a0 a1 a2 a3 a4 a5 a6 a7 y z n hn y6 y6_1 y6_2 y6_3 y6_4 y6_5 y6_6 y6_7 y6_8 y6_9 y6_10 y10 k (i + 1) (y7 ++ [flAt j0 i]) (y8 ++ [bsAt j1 i]) (by omega) (by simp [e7]) (by simp [e8])
      rw [List.range'_succ, List.map_cons, List.map_cons]
      rw [List.append_assoc, List.append_assoc] at a
      rw [flAt, if_neg h1, bsAt, if_neg h2] at a
      rw [flAt, if_neg h1, bsAt, if_neg h2]
      exact a
theorem l10b (j0 : List (El FF)) (j1 j2 j3 : List Int) (r a0 a1 a2 a3 a4 a5 a6 a7 y z : Int) (y6 : List Int) (hn : y6.length ≤ 4096) (y5 y5_1 y5_2 y5_3 y5_4 y5_5 y5_6 y5_7 y5_8 y5_9 y5_10 : Int) (y7 : List (El FF)) (y8 y10 : List Int) : ∀ (k i : Nat) (y9 : List Int), i + k = y6.length → y9.length = i →
    L10bL j0 j1 j2 j3 (k + 1) (nlen (lenI y6)) y5 y5_1 y5_2 y5_3 y5_4 y5_5 y5_6 y5_7 y5_8 y5_9 y5_10 y6 y7 y8 y10 (i : Int) y9 =
      some (y5, y5_1, y5_2, y5_3, y5_4, y5_5, y5_6, y5_7, y5_8, y5_9, y5_10, y7, y8, y9 ++ (y6.drop i).map (fun x => kp x (-1) 1073741824), y10)
  | 0, i, y9, h, e9 => by
    rw [L10bL, lt_f (show lenI y6 ≤ i by unfold lenI; omega), List.drop_eq_nil_of_le (by omega)]; simp
  | k + 1, i, y9, h, e9 => by
    have hi : i < y6.length := by omega
    have g4 : ∀ x, decide (fitN (addN (lenI y9) (lenI [x])) 8) = true := fun x => decide_eq_true (by unfold fitN addN lenI; simp; omega)
    rw [L10bL, lt_t (show i < lenI y6 from hi), in_t (show i < lenI y6 from hi), ix0, l_t (show i < lenI y6 from hi), g4, inc (show y6.length ≤ 1000000 by omega) hi]
    simp only [cond_true]
    have a := l10b j0 j1 j2 j3 r a0 a1 a2 a3 a4 a5 a6 a7 y z y6 hn y5 y5_1 y5_2 y5_3 y5_4 y5_5 y5_6 y5_7 y5_8 y5_9 y5_10 y7 y8 y10 k (i + 1) (y9 ++ [kp (getI y6 i) (-1) 1073741824]) (by omega) (by simp [e9])
    rw [List.append_assoc, List.singleton_append] at a
    rw [List.drop_eq_getElem_cons hi, List.map_cons]
    rw [show getI y6 i = y6[i] from by unfold getI; rw [List.getD_eq_getElem?_getD, List.getElem?_eq_getElem hi]; rfl] at a ⊢
    exact a
theorem sub_take (l : List Int) (h : l.length ≤ 1000000) : inC 0 (imin (nlen (lenI l)) 4096) (nlen (lenI l)) ∧ leN (Nat.add 0 (subN (imin (nlen (lenI l)) 4096) 0)) (lenI l) ∧ subI l 0 (subN (imin (nlen (lenI l)) 4096) 0) = l.take 4096 := by
  have e : subN (imin (nlen (lenI l)) 4096) 0 = min l.length 4096 := by unfold subN imin nlen lenI; omega
  refine ⟨?_, ?_, ?_⟩
  · unfold inC imin nlen lenI; omega
  · rw [e]; show 0 + min l.length 4096 ≤ l.length; omega
  · rw [e]; unfold subI
    rw [List.drop_zero]
    rcases Nat.le_total l.length 4096 with h1 | h1
    · rw [Nat.min_eq_left h1, List.take_of_length_le (Nat.le_refl _), List.take_of_length_le h1]
    · rw [Nat.min_eq_right h1]
/-- the configuration, made such that it may be -/
theorem g10 (j0 : List (El FF)) (j1 j2 j3 : List Int) (r a0 a1 a2 a3 a4 a5 a6 a7 y z : Int) (h0 : decide (lenR FF j0 ≤ 1000000) = true) (h2 : decide (lenI j2 ≤ 1000000) = true) (h3 : decide (lenI j3 ≤ 1000000) = true) :
    ACalls Try.prog 10 [cC r a0 a1 a2 a3 a4 a5 a6 a7 y z] (hH j0 j1 j2 j3) (AV.agg [AV.sw 4 10, AV.sw 5 1, iI (kp r 1 1099511627776), iI (kp a0 1 1073741824), iI (kp a1 0 67108864), iI (kp a2 1 1125899906842624), iI (kp a3 0 17179869184), iI (kp a4 0 17179869184), iI (kp a5 0 65536), iI (kp a6 0 67108864), iI (kp a7 0 67108864), AV.sw 6 1, AV.sw 7 1, iI (kp y 0 1000), iI (kp z 0 1099511627776)]) []
      [AObj.rows true FF (cFl j0), AObj.ints 0 true .i64 (cBs j0 j1), AObj.ints 0 true .i64 (cPl j2), AObj.ints 0 true .u32 (cDr j3)] := by
  have b0 : j0.length ≤ 1000000 := of_decide_eq_true h0
  have b2 : j2.length ≤ 1000000 := of_decide_eq_true h2
  have b3 : j3.length ≤ 1000000 := of_decide_eq_true h3
  obtain ⟨p1, p2, p3⟩ := sub_take j3 b3
  obtain ⟨q1, q2, q3⟩ := sub_take j2 b2
  have hN : imin (imax (nlen (lenR FF j0)) 1) 256 = ((cN j0 : Nat) : Int) := by unfold imin imax nlen lenR cN; omega
  have ka := l10a j0 j1 j2 j3 r a0 a1 a2 a3 a4 a5 a6 a7 y z (cN j0) (by unfold cN; omega) (kp r 1 1099511627776) (kp a0 1 1073741824) (kp a1 0 67108864) (kp a2 1 1125899906842624) (kp a3 0 17179869184) (kp a4 0 17179869184) (kp a5 0 65536) (kp a6 0 67108864) (kp a7 0 67108864) (imax 0 (imin y 1000)) (kp z 0 1099511627776) (cDr j3) (cN j0) 0 [] [] (by omega) rfl rfl
  rw [← hN, show cDr j3 = subI j3 0 (subN (imin (nlen (lenI j3)) 4096) 0) from p3.symm] at ka
  have kb := l10b j0 j1 j2 j3 r a0 a1 a2 a3 a4 a5 a6 a7 y z (subI j2 0 (subN (imin (nlen (lenI j2)) 4096) 0)) (by rw [q3]; simp; omega) (kp r 1 1099511627776) (kp a0 1 1073741824) (kp a1 0 67108864) (kp a2 1 1125899906842624) (kp a3 0 17179869184) (kp a4 0 17179869184) (kp a5 0 65536) (kp a6 0 67108864) (kp a7 0 67108864) (imax 0 (imin y 1000)) (kp z 0 1099511627776) (cFl j0) (cBs j0 j1) (subI j3 0 (subN (imin (nlen (lenI j3)) 4096) 0)) _ 0 [] (by rw [Nat.zero_add]) rfl
  have h := f10 j0 j1 j2 j3 r a0 a1 a2 a3 a4 a5 a6 a7 y z _ _ _ _ _ _ _ _ _ _ _ _ _ _ _ _ _ _ _ _ _ _ _ _ _ _ _ _ _ _ _ ka kb p1 p2 (decide_eq_true (by rw [p3]; unfold lenI; simp; omega)) q1 q2
  rw [List.nil_append, List.drop_zero, q3, p3, kq y (show (0 : Int) ≤ 1000 by decide)] at h
  exact h
end Go.Proofs.Ytlnmjjefjhblcaa.Cf
