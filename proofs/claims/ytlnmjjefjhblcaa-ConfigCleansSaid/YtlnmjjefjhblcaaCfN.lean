import Derived.Test.YtlnmjjefjhblcaaCfJ
import Derived.Test.YtlnmjjefjhblcaaAbsWf
set_option maxRecDepth 100000
set_option linter.all false
set_option maxHeartbeats 4000000
namespace Go.Proofs.Ytlnmjjefjhblcaa.Cf
open Go.Abs

theorem l13b (j0 : List (El FF)) (j1 j2 j3 : List Int) (r a0 a1 a2 a3 a4 a5 a6 a7 y z : Int) (y6 y6_1 y6_2 y6_3 y6_4 y6_5 y6_6 y6_7 y6_8 y6_9 y6_10 : Int) (n : Nat) (hn : n = min j0.length 256) : ∀ (k i : Nat) (y7 : List (El FF)) (y8 : List Int), i + k = n → y7.length = i → y8.length = i →
    L13bL j0 j1 j2 j3 r a0 a1 a2 a3 a4 a5 a6 a7 y z (k + 1) y6 y6_1 y6_2 y6_3 y6_4 y6_5 y6_6 y6_7 y6_8 y6_9 y6_10 (i : Int) y7 y8 = some (y6, y6_1, y6_2, y6_3, y6_4, y6_5, y6_6, y6_7, y6_8, y6_9, y6_10, y7 ++ (List.range' i k).map (flAt j0), y8 ++ (List.range' i k).map (bsAt j1))
  | 0, i, y7, y8, h, e7, e8 => by
    rw [L13bL]
    by_cases h1 : i < j0.length
    · rw [show ilt (i : Int) 256 = false from lt_f (n := 256) (by omega), lt_t (show i < lenR FF j0 from h1)]; simp
    · rw [lt_f (show lenR FF j0 ≤ i by unfold lenR; omega)]; simp
  | k + 1, i, y7, y8, h, e7, e8 => by
    have g1 : decide (fitN (addN (lenR FF y7) 1) 80) = true := decide_eq_true (by unfold fitN addN lenR; omega)
    have g2 : decide (fitN (addN (lenI y8) 1) 8) = true := decide_eq_true (by unfold fitN addN lenI; omega)
    have g3 : ∀ x, decide (fitN (addN (lenR FF y7) (lenR FF [x])) 80) = true := fun x => g1
    have g4 : ∀ x, decide (fitN (addN (lenI y8) (lenI [x])) 8) = true := fun x => g2
    have h1 : i < j0.length := by omega
    rw [L13bL, show ilt (i : Int) 256 = true from lt_t (n := 256) (by omega), ix0, inc (show n ≤ 1000000 by omega) (by omega), g2, g3, g4, lt_t (show i < lenR FF j0 from h1), in_t (show i < lenR FF j0 from h1), l_t (show i < lenR FF j0 from h1)]
    have a := l13b j0 j1 j2 j3 r a0 a1 a2 a3 a4 a5 a6 a7 y z y6 y6_1 y6_2 y6_3 y6_4 y6_5 y6_6 y6_7 y6_8 y6_9 y6_10 n hn k (i + 1) (y7 ++ [flAt j0 i]) (y8 ++ [bsAt j1 i]) (by omega) (by simp [e7]) (by simp [e8])
    rw [List.range'_succ, List.map_cons, List.map_cons]
    rw [List.append_assoc, List.append_assoc] at a
    by_cases h2 : i < j1.length
    · rw [lt_t (show i < lenI j1 from h2), in_t (show i < lenI j1 from h2), l_t (show i < lenI j1 from h2)]
      simp only [cond_true]
      rw [flAt, if_pos h1, bsAt, if_pos h2] at a
      rw [flAt, if_pos h1, bsAt, if_pos h2]
      exact a
    · rw [lt_f (show lenI j1 ≤ i by unfold lenI; omega)]
      simp only [cond_true, cond_false]
      rw [flAt, if_pos h1, bsAt, if_neg h2] at a
      rw [flAt, if_pos h1, bsAt, if_neg h2]
      exact a
theorem l13a (j0 : List (El FF)) (j1 j2 j3 : List Int) (r a0 a1 a2 a3 a4 a5 a6 a7 y z : Int) (y6 y6_1 y6_2 y6_3 y6_4 y6_5 y6_6 y6_7 y6_8 y6_9 y6_10 : Int) (h0 : j0 = []) : L13aL j0 j1 j2 j3 r a0 a1 a2 a3 a4 a5 a6 a7 y z 2 y6 y6_1 y6_2 y6_3 y6_4 y6_5 y6_6 y6_7 y6_8 y6_9 y6_10 0 [] [] = some (y6, y6_1, y6_2, y6_3, y6_4, y6_5, y6_6, y6_7, y6_8, y6_9, y6_10, cFl j0, cBs j0 j1) := by
  subst h0
  rw [L13aL]
  have hb : cBs [] j1 = [bsAt j1 0] := rfl
  have hf : cFl [] = [lF0] := rfl
  rw [hb, hf]
  have g4 : ∀ x, decide (fitN (addN (lenI []) (lenI [x])) 8) = true := fun x => decide_eq_true (show (0 + 1) * 8 ≤ 140737488355328 by omega)
  have g3 : ∀ x, decide (fitN (addN (lenR FF []) (lenR FF [x])) 80) = true := fun x => decide_eq_true (show (0 + 1) * 80 ≤ 140737488355328 by omega)
  by_cases h2 : 0 < j1.length
  · rw [show ilt 0 (nlen (lenI j1)) = true from lt_t (i := 0) (show 0 < lenI j1 from h2), show decide (inB 0 (lenI j1)) = true from in_t (i := 0) h2, show decide (ltN (idxN 0 0) (lenI j1)) = true from l_t (i := 0) h2, g3, g4, bsAt, if_pos h2]
    rfl
  · rw [show ilt 0 (nlen (lenI j1)) = false from lt_f (i := 0) (show lenI j1 ≤ 0 by unfold lenI; omega), g3, bsAt, if_neg h2]
    rfl
theorem l13c (j0 : List (El FF)) (j1 j2 j3 : List Int) (r a0 a1 a2 a3 a4 a5 a6 a7 y z : Int) (y6 y6_1 y6_2 y6_3 y6_4 y6_5 y6_6 y6_7 y6_8 y6_9 y6_10 : Int) (y7 : List (El FF)) (y8 : List Int) : ∀ (k i : Nat) (y9 : List Int), i + k = (j2.take 4096).length → y9.length = i →
    L13cL j0 j1 j2 j3 r a0 a1 a2 a3 a4 a5 a6 a7 y z (k + 1) y6 y6_1 y6_2 y6_3 y6_4 y6_5 y6_6 y6_7 y6_8 y6_9 y6_10 y7 y8 (i : Int) y9 = some (y6, y6_1, y6_2, y6_3, y6_4, y6_5, y6_6, y6_7, y6_8, y6_9, y6_10, y7, y8, y9 ++ ((j2.take 4096).drop i).map fun x => kp x (-1) 1073741824)
  | 0, i, y9, h, e9 => by
    rw [L13cL, List.drop_eq_nil_of_le (by omega)]
    rw [List.length_take] at h
    by_cases h1 : i < j2.length
    · rw [show ilt (i : Int) 4096 = false from lt_f (n := 4096) (by omega), lt_t (show i < lenI j2 from h1)]; simp
    · rw [lt_f (show lenI j2 ≤ i by unfold lenI; omega)]; simp
  | k + 1, i, y9, h, e9 => by
    have hk : i < (j2.take 4096).length := by omega
    have hl := List.length_take (i := 4096) (l := j2)
    have h1 : i < j2.length := by omega
    have g4 : ∀ x, decide (fitN (addN (lenI y9) (lenI [x])) 8) = true := fun x => decide_eq_true (by unfold fitN addN lenI; simp; omega)
    rw [L13cL, show ilt (i : Int) 4096 = true from lt_t (n := 4096) (by omega), ix0, inc (show min 4096 j2.length ≤ 1000000 by omega) (by omega), g4, lt_t (show i < lenI j2 from h1), in_t (show i < lenI j2 from h1), l_t (show i < lenI j2 from h1)]
    simp only [cond_true]
    have a := l13c j0 j1 j2 j3 r a0 a1 a2 a3 a4 a5 a6 a7 y z y6 y6_1 y6_2 y6_3 y6_4 y6_5 y6_6 y6_7 y6_8 y6_9 y6_10 y7 y8 k (i + 1) (y9 ++ [kp (getI j2 i) (-1) 1073741824]) (by omega) (by simp [e9])
    rw [List.append_assoc, List.singleton_append] at a
    rw [List.drop_eq_getElem_cons hk, List.map_cons, List.getElem_take]
    rw [show getI j2 i = j2[i] from by unfold getI; rw [List.getD_eq_getElem?_getD, List.getElem?_eq_getElem h1]; rfl] at a ⊢
    exact a
theorem l13d (j0 : List (El FF)) (j1 j2 j3 : List Int) (r a0 a1 a2 a3 a4 a5 a6 a7 y z : Int) (y6 y6_1 y6_2 y6_3 y6_4 y6_5 y6_6 y6_7 y6_8 y6_9 y6_10 : Int) (y7 : List (El FF)) (y8 y9 : List Int) : ∀ (k i : Nat) (y10 : List Int), i + k = (j3.take 4096).length → y10.length = i →
    L13dL j0 j1 j2 j3 r a0 a1 a2 a3 a4 a5 a6 a7 y z (k + 1) y6 y6_1 y6_2 y6_3 y6_4 y6_5 y6_6 y6_7 y6_8 y6_9 y6_10 y7 y8 y9 (i : Int) y10 = some (y6, y6_1, y6_2, y6_3, y6_4, y6_5, y6_6, y6_7, y6_8, y6_9, y6_10, y7, y8, y9, y10 ++ (j3.take 4096).drop i)
  | 0, i, y10, h, e9 => by
    rw [L13dL, List.drop_eq_nil_of_le (by omega)]
    rw [List.length_take] at h
    by_cases h1 : i < j3.length
    · rw [show ilt (i : Int) 4096 = false from lt_f (n := 4096) (by omega), lt_t (show i < lenI j3 from h1)]; simp
    · rw [lt_f (show lenI j3 ≤ i by unfold lenI; omega)]; simp
  | k + 1, i, y10, h, e9 => by
    have hk : i < (j3.take 4096).length := by omega
    have hl := List.length_take (i := 4096) (l := j3)
    have h1 : i < j3.length := by omega
    have g4 : ∀ x, decide (fitN (addN (lenI y10) (lenI [x])) 4) = true := fun x => decide_eq_true (by unfold fitN addN lenI; simp; omega)
    rw [L13dL, show ilt (i : Int) 4096 = true from lt_t (n := 4096) (by omega), ix0, inc (show min 4096 j3.length ≤ 1000000 by omega) (by omega), g4, lt_t (show i < lenI j3 from h1), in_t (show i < lenI j3 from h1), l_t (show i < lenI j3 from h1)]
    simp only [cond_true]
    have a := l13d j0 j1 j2 j3 r a0 a1 a2 a3 a4 a5 a6 a7 y z y6 y6_1 y6_2 y6_3 y6_4 y6_5 y6_6 y6_7 y6_8 y6_9 y6_10 y7 y8 y9 k (i + 1) (y10 ++ [getI j3 i]) (by omega) (by simp [e9])
    rw [List.append_assoc, List.singleton_append] at a
    rw [List.drop_eq_getElem_cons hk, List.getElem_take]
    rw [show getI j3 i = j3[i] from by unfold getI; rw [List.getD_eq_getElem?_getD, List.getElem?_eq_getElem h1]; rfl] at a ⊢
    exact a
theorem c13 (j0 : List (El FF)) (j1 j2 j3 : List Int) (r a0 a1 a2 a3 a4 a5 a6 a7 y z : Int) : ACalls Try.prog 13 [cC r a0 a1 a2 a3 a4 a5 a6 a7 y z] (hH j0 j1 j2 j3) (AV.agg [AV.sw 4 10, AV.sw 5 1, iI (kp r 1 1099511627776), iI (kp a0 1 1073741824), iI (kp a1 0 67108864), iI (kp a2 1 1125899906842624), iI (kp a3 0 17179869184), iI (kp a4 0 17179869184), iI (kp a5 0 65536), iI (kp a6 0 67108864), iI (kp a7 0 67108864), AV.sw 6 1, AV.sw 7 1, iI (kp y 0 1000), iI (kp z 0 1099511627776)]) []
      [AObj.rows true FF (cFl j0), AObj.ints 0 true .i64 (cBs j0 j1), AObj.ints 0 true .i64 (cPl j2), AObj.ints 0 true .u32 (cDr j3)] := by
  have kc := l13c j0 j1 j2 j3 r a0 a1 a2 a3 a4 a5 a6 a7 y z (kp r 1 1099511627776) (kp a0 1 1073741824) (kp a1 0 67108864) (kp a2 1 1125899906842624) (kp a3 0 17179869184) (kp a4 0 17179869184) (kp a5 0 65536) (kp a6 0 67108864) (kp a7 0 67108864) (kp y 0 1000) (kp z 0 1099511627776) (cFl j0) (cBs j0 j1) (j2.take 4096).length 0 [] (by omega) rfl
  have kd := l13d j0 j1 j2 j3 r a0 a1 a2 a3 a4 a5 a6 a7 y z (kp r 1 1099511627776) (kp a0 1 1073741824) (kp a1 0 67108864) (kp a2 1 1125899906842624) (kp a3 0 17179869184) (kp a4 0 17179869184) (kp a5 0 65536) (kp a6 0 67108864) (kp a7 0 67108864) (kp y 0 1000) (kp z 0 1099511627776) (cFl j0) (cBs j0 j1) (cPl j2) (j3.take 4096).length 0 [] (by omega) rfl
  rw [List.nil_append, List.drop_zero] at kc kd
  by_cases h0 : j0 = []
  · have ka := l13a j0 j1 j2 j3 r a0 a1 a2 a3 a4 a5 a6 a7 y z (kp r 1 1099511627776) (kp a0 1 1073741824) (kp a1 0 67108864) (kp a2 1 1125899906842624) (kp a3 0 17179869184) (kp a4 0 17179869184) (kp a5 0 65536) (kp a6 0 67108864) (kp a7 0 67108864) (kp y 0 1000) (kp z 0 1099511627776) h0
    exact f13_1 j0 j1 j2 j3 r a0 a1 a2 a3 a4 a5 a6 a7 y z (d0 := by subst h0; rfl) (L13a_0_h0 := fun _ => ka) (L13c_1_h0 := fun _ => kc) (L13d_2_h0 := fun _ => kd)
  · have hl : j0.length ≠ 0 := fun e => h0 (List.length_eq_zero_iff.1 e)
    have kb := l13b j0 j1 j2 j3 r a0 a1 a2 a3 a4 a5 a6 a7 y z (kp r 1 1099511627776) (kp a0 1 1073741824) (kp a1 0 67108864) (kp a2 1 1125899906842624) (kp a3 0 17179869184) (kp a4 0 17179869184) (kp a5 0 65536) (kp a6 0 67108864) (kp a7 0 67108864) (kp y 0 1000) (kp z 0 1099511627776) (cN j0) (by unfold cN; omega) (cN j0) 0 [] [] (by omega) rfl rfl
    rw [List.nil_append, List.nil_append] at kb
    exact f13_2 j0 j1 j2 j3 r a0 a1 a2 a3 a4 a5 a6 a7 y z (d0 := by unfold ieq nlen lenR; simp; exact h0) (L13b_3_h0 := fun _ => kb) (L13c_4_h0 := fun _ => kc) (L13d_5_h0 := fun _ => kd)
theorem g13 (j0 : List (El FF)) (j1 j2 j3 : List Int) (r a0 a1 a2 a3 a4 a5 a6 a7 y z : Int) : ACalls Try.prog 13 [cC r a0 a1 a2 a3 a4 a5 a6 a7 y z] (hH j0 j1 j2 j3) (AV.agg [AV.sw 4 10, AV.sw 5 1, iI (kp r 1 1099511627776), iI (kp a0 1 1073741824), iI (kp a1 0 67108864), iI (kp a2 1 1125899906842624), iI (kp a3 0 17179869184), iI (kp a4 0 17179869184), iI (kp a5 0 65536), iI (kp a6 0 67108864), iI (kp a7 0 67108864), AV.sw 6 1, AV.sw 7 1, iI (kp y 0 1000), iI (kp z 0 1099511627776)]) []
      [AObj.rows false FF (cFl j0), AObj.ints 0 false .i64 (cBs j0 j1), AObj.ints 0 false .i64 (cPl j2), AObj.ints 0 false .u32 (cDr j3)] := (c13 j0 j1 j2 j3 r a0 a1 a2 a3 a4 a5 a6 a7 y z).freeze
theorem q10 (j0 : List (El FF)) (j1 j2 j3 : List Int) (r a0 a1 a2 a3 a4 a5 a6 a7 y z : Int) (h0 : decide (lenR FF j0 ≤ 1000000) = true) (h2 : decide (lenI j2 ≤ 1000000) = true) (h3 : decide (lenI j3 ≤ 1000000) = true) :
    ACalls Try.prog 10 [cC r a0 a1 a2 a3 a4 a5 a6 a7 y z] (hH j0 j1 j2 j3) (AV.agg [AV.sw 4 10, AV.sw 5 1, iI (kp r 1 1099511627776), iI (kp a0 1 1073741824), iI (kp a1 0 67108864), iI (kp a2 1 1125899906842624), iI (kp a3 0 17179869184), iI (kp a4 0 17179869184), iI (kp a5 0 65536), iI (kp a6 0 67108864), iI (kp a7 0 67108864), AV.sw 6 1, AV.sw 7 1, iI (kp y 0 1000), iI (kp z 0 1099511627776)]) []
      [AObj.rows false FF (cFl j0), AObj.ints 0 false .i64 (cBs j0 j1), AObj.ints 0 false .i64 (cPl j2), AObj.ints 0 false .u32 (cDr j3)] := (g10 j0 j1 j2 j3 r a0 a1 a2 a3 a4 a5 a6 a7 y z h0 h2 h3).freeze
end Go.Proofs.Ytlnmjjefjhblcaa.Cf
