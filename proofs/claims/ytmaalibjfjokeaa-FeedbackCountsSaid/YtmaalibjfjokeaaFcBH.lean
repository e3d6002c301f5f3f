import Derived.Test.YtmaalibjfjokeaaFcB
set_option linter.unusedVariables false
set_option linter.unusedSimpArgs false
set_option maxRecDepth 100000
/- Whatever answers come: the sender's count is the receiver's. -/
namespace Go.Proofs.Ytmaalibjfjokeaa.Fk
open Go.Abs Go.Proofs.Ytmaalibjfjokeaa.Ser Go.Proofs.Ytmaalibjfjokeaa.Ace
abbrev C4 := Int × Int × Int × Int
/-- a count behind at most n packets of M bytes -/
structure Good (M n : Int) (c : C4) : Prop where
  c0 : 5 ≤ c.1
  c1 : c.1 ≤ 5 + n
  e : c.2.1 = M * (c.1 - 5)
  e0 : 0 ≤ c.2.1
  e1 : c.2.1 ≤ 65536 * n
  a0 : 1 ≤ c.2.2.1
  a1 : c.2.2.1 ≤ 1 + 65536 * n
  b0 : 1 ≤ c.2.2.2
  b1 : c.2.2.2 ≤ 1 + 65536 * n
structure LeC (c d : C4) : Prop where
  p1 : c.1 ≤ d.1
  p2 : c.2.1 ≤ d.2.1
  p3 : c.2.2.1 ≤ d.2.2.1
  p4 : c.2.2.2 ≤ d.2.2.2
theorem LeC.refl (c : C4) : LeC c c := ⟨Int.le_refl _, Int.le_refl _, Int.le_refl _, Int.le_refl _⟩
theorem LeC.trans {a b c : C4} (h : LeC a b) (k : LeC b c) : LeC a c := ⟨Int.le_trans h.p1 k.p1, Int.le_trans h.p2 k.p2, Int.le_trans h.p3 k.p3, Int.le_trans h.p4 k.p4⟩
theorem sum_in {x y : Int} (hx : 0 ≤ x ∧ x ≤ 1099511627776) (hy : 0 ≤ y ∧ y ≤ 65536) : f30r0 x y = x + y := by
  have e1 : iadd .i64 x y = x + y := by unfold iadd; rw [w_i64_in (by omega)]
  have e2 : isub .i64 9223372036854775807 y = 9223372036854775807 - y := by unfold isub; rw [w_i64_in (by omega)]
  unfold f30r0
  rw [e1, e2]
  simp only [ilt_d, cond_if, decide_eq_true_eq]
  rw [if_neg (by omega : ¬ 9223372036854775807 - y < x), if_neg (by omega : ¬ y < 0), ite_self]
theorem good_step {M n : Int} (hM : 1 ≤ M ∧ M ≤ 65536) (hn : 0 ≤ n ∧ n ≤ 100) {m : Int} (hm : iadd .i64 (icv .i64 m) 1 = M) {c : C4} (h : Good M n c) (k : Int) : Good M (n + 1) (cst m c k) ∧ LeC c (cst m c k) := by
  obtain ⟨c, e, a, b⟩ := c
  obtain ⟨h1, h2, h3, h4, h5, h6, h7, h8, h9⟩ := h
  simp only at h1 h2 h3 h4 h5 h6 h7 h8 h9
  show Good M (n + 1) ((_, _, _, _) : C4) ∧ LeC (c, e, a, b) ((_, _, _, _) : C4)
  unfold f16r0 f16r1 f16r2 f16r3
  simp only [hm]
  have eM : imin (imax M 0) 65536 = M := by unfold imin imax; omega
  have s1 : f30r0 c 1 = c + 1 := sum_in (by omega) (by omega)
  have s2 : f30r0 e M = e + M := sum_in (by omega) (by omega)
  have s3 : f30r0 a M = a + M := sum_in (by omega) (by omega)
  have s4 : f30r0 b M = b + M := sum_in (by omega) (by omega)
  rw [eM, s1, s2, s3, s4]
  have ex : M * (c + 1 - 5) = e + M := by rw [show c + 1 - 5 = (c - 5) + 1 by omega, Int.mul_add, Int.mul_one, h3]
  generalize icv .i64 (irem k 4) = q
  simp only [ieq_d, cond_if, decide_eq_true_eq]
  by_cases q3 : q = 3
  · subst q3
    simp only [if_true, show ¬ (3 : Int) = 2 by decide, show ¬ (3 : Int) = 1 by decide, if_false]
    exact ⟨⟨by simp only; omega, by simp only; omega, by simp only; rw [ex], by simp only; omega, by simp only; omega, by simp only; omega, by simp only; omega, by simp only; omega, by simp only; omega⟩, ⟨by simp only; omega, by simp only; omega, by simp only; omega, by simp only; omega⟩⟩
  · by_cases q2 : q = 2
    · subst q2
      simp only [if_true, show ¬ (2 : Int) = 3 by decide, show ¬ (2 : Int) = 1 by decide, if_false]
      exact ⟨⟨by simp only; omega, by simp only; omega, by simp only; exact h3, by simp only; omega, by simp only; omega, by simp only; omega, by simp only; omega, by simp only; omega, by simp only; omega⟩, ⟨by simp only; omega, by simp only; omega, by simp only; omega, by simp only; omega⟩⟩
    · by_cases q1 : q = 1
      · subst q1
        simp only [if_true, show ¬ (1 : Int) = 3 by decide, show ¬ (1 : Int) = 2 by decide, if_false]
        exact ⟨⟨by simp only; omega, by simp only; omega, by simp only; exact h3, by simp only; omega, by simp only; omega, by simp only; omega, by simp only; omega, by simp only; omega, by simp only; omega⟩, ⟨by simp only; omega, by simp only; omega, by simp only; omega, by simp only; omega⟩⟩
      · simp only [q3, q2, q1, if_false]
        exact ⟨⟨by simp only; omega, by simp only; omega, by simp only; exact h3, by simp only; omega, by simp only; omega, by simp only; omega, by simp only; omega, by simp only; omega, by simp only; omega⟩, ⟨by simp only; omega, by simp only; omega, by simp only; omega, by simp only; omega⟩⟩
theorem Good.mono {M n n' : Int} {c : C4} (h : Good M n c) (hn : n ≤ n') : Good M n' c := by
  obtain ⟨h1, h2, h3, h4, h5, h6, h7, h8, h9⟩ := h
  exact ⟨h1, by omega, h3, h4, by omega, h6, by omega, h8, by omega⟩
theorem cls_good {M : Int} (hM : 1 ≤ M ∧ M ≤ 65536) {m : Int} (hm : iadd .i64 (icv .i64 m) 1 = M) : ∀ (l : List Int) (n : Int) (c : C4), 0 ≤ n → n + l.length ≤ 100 → Good M n c →
    ∀ (j : Nat) (x : C4), (cls m l c)[j]? = some x → Good M 100 x ∧ LeC c x
  | [], n, c, h0, h1, hc, j, x, hx => by simp [cls] at hx
  | k :: l, n, c, h0, h1, hc, 0, x, hx => by
    simp only [List.length_cons] at h1
    simp only [cls, List.getElem?_cons_zero, Option.some.injEq] at hx
    subst hx
    obtain ⟨g1, g2⟩ := good_step hM (n := n) ⟨h0, by omega⟩ hm hc k
    exact ⟨g1.mono (by omega), g2⟩
  | k :: l, n, c, h0, h1, hc, j + 1, x, hx => by
    simp only [List.length_cons] at h1
    simp only [cls, List.getElem?_cons_succ] at hx
    obtain ⟨g1, g2⟩ := good_step hM (n := n) ⟨h0, by omega⟩ hm hc k
    obtain ⟨k1, k2⟩ := cls_good hM hm l (n + 1) (cst m c k) (by omega) (by omega) g1 j x hx
    exact ⟨k1, g2.trans k2⟩
theorem cls_mono {M : Int} (hM : 1 ≤ M ∧ M ≤ 65536) {m : Int} (hm : iadd .i64 (icv .i64 m) 1 = M) : ∀ (l : List Int) (n : Int) (c : C4), 0 ≤ n → n + l.length ≤ 100 → Good M n c →
    ∀ (i j : Nat) (x y : C4), (cls m l c)[i]? = some x → (cls m l c)[j]? = some y → i ≤ j → LeC x y
  | [], n, c, h0, h1, hc, i, j, x, y, hx, hy, hij => by simp [cls] at hx
  | k :: l, n, c, h0, h1, hc, 0, 0, x, y, hx, hy, hij => by rw [hx] at hy; cases hy; exact LeC.refl _
  | k :: l, n, c, h0, h1, hc, 0, j + 1, x, y, hx, hy, hij => by
    simp only [List.length_cons] at h1
    simp only [cls, List.getElem?_cons_zero, Option.some.injEq] at hx
    subst hx
    simp only [cls, List.getElem?_cons_succ] at hy
    obtain ⟨g1, g2⟩ := good_step hM (n := n) ⟨h0, by omega⟩ hm hc k
    exact (cls_good hM hm l (n + 1) _ (by omega) (by omega) g1 j y hy).2
  | k :: l, n, c, h0, h1, hc, i + 1, 0, x, y, hx, hy, hij => by omega
  | k :: l, n, c, h0, h1, hc, i + 1, j + 1, x, y, hx, hy, hij => by
    simp only [List.length_cons] at h1
    simp only [cls, List.getElem?_cons_succ] at hx hy
    obtain ⟨g1, g2⟩ := good_step hM (n := n) ⟨h0, by omega⟩ hm hc k
    exact cls_mono hM hm l (n + 1) _ (by omega) (by omega) g1 i j x y hx hy (by omega)
theorem cls_len (m : Int) : ∀ (l : List Int) (c : C4), (cls m l c).length = l.length
  | [], c => rfl
  | k :: l, c => by simp [cls, cls_len m l]
theorem tls_len (t : List Bool) : ∀ (n i : Nat), (tls t n i).length = n
  | 0, i => rfl
  | n + 1, i => by simp [tls, tls_len t n]
/-- how far a field is ahead, of counters that are near -/
theorem fd_near {x y : Int} (hx : 0 ≤ x ∧ x < 8388608) (hy : 0 ≤ y ∧ y < 8388608) : fd x y = y - x := by
  unfold fd
  rw [if_neg (by omega)]
  have e1 : icv .u64 y = y := by unfold icv; rw [w_u64_in (by omega)]
  have e2 : icv .u64 x = x := by unfold icv; rw [w_u64_in (by omega)]
  rw [e1, e2, dif_mid _ _ _ (by omega) (by omega), show rd 24 = 16777216 from by unfold rd; decide]
  unfold mid; split <;> omega
theorem fs_near {x y : Int} (hx : 0 ≤ x ∧ x < 8388608) (hy : 0 ≤ y ∧ y < 8388608) (h : x ≤ y) : fs x y = y - x := by
  unfold fs; rw [fd_near hx hy]; omega
theorem fd_no (x : Int) : fd x (-1) = 0 := by unfold fd; rw [if_pos (by omega)]
theorem fs_no (x : Int) : fs x (-1) = 0 := by unfold fs; rw [fd_no]; rfl
/-- the stamps of two answers -/
theorem stamp_near {i j : Int} (hi : 0 ≤ i ∧ i < 100) (hj : 0 ≤ j ∧ j < 100) : dif (icv .u64 (icv .u32 (iadd .i64 4294967246 j))) (icv .u64 (icv .u32 (iadd .i64 4294967246 i))) 32 = j - i := by
  have e1 : ∀ q : Int, 0 ≤ q ∧ q < 100 → icv .u64 (icv .u32 (iadd .i64 4294967246 q)) = (4294967246 + q) % 4294967296 := fun q hq => by
    unfold icv iadd; rw [w_i64_in (by omega), w_u32, w_u64_in (by omega)]
  rw [e1 i hi, e1 j hj, dif_mid _ _ _ (by omega) (by omega), show rd 32 = 4294967296 from by unfold rd; decide]
  unfold mid; split <;> omega
theorem low_in {x : Int} (h : 0 ≤ x ∧ x < 16777216) : f19r0 x 16777216 = x := by
  have e : irem x 16777216 = x := by unfold irem; rw [Int.tmod_eq_emod_of_nonneg h.1]; omega
  unfold f19r0; rw [e, ilt_d, decide_eq_false (by omega)]; rfl
theorem gue_full {M b t D : Int} (hM : 1 ≤ M ∧ M ≤ 65536) (ht : 0 ≤ t ∧ t ≤ 100) (hD : D = M * t) (hD2 : D ≤ 6553600) (bits : Int) (hb : (bits - b) % 8 = t % 8) : gue b bits D M = t := by
  unfold gue st8
  by_cases h0 : t = 0
  · subst h0
    rw [Int.mul_zero] at hD
    rw [if_pos (by omega)]; omega
  · have hp : M * 1 ≤ M * t := Int.mul_le_mul_of_nonneg_left (by omega) (by omega)
    rw [if_neg (by omega), show min D 1099511627776 = D by omega, hD, show -(M * t) = (-t) * M by rw [Int.mul_comm, Int.neg_mul], Int.mul_ediv_cancel _ (by omega)]
    unfold up8; omega
/-- where the sender is: q is the answer that was taken last (-1: none) -/
structure At (M : Int) (C : List (C4)) (i : Nat) (q k b x y z u a : Int) (ex : Bool) (last told : C4) : Prop where
  hq : (a = 0 ∧ q = -1) ∨ (0 < a ∧ a ≤ i ∧ 0 ≤ q ∧ q < 100 ∧ u = icv .u32 (iadd .i64 4294967246 q))
  up : ∀ (j : Nat) (c : C4), C[j]? = some c → q < (j : Int) → LeC last c
  gl : Good M 100 last
  gt : Good M 100 told
  le : LeC told last
  hb : b = told.1
  hx : x = told.2.2.1
  hy : y = told.2.1
  hz : z = told.2.2.2
  k0 : 5 ≤ k
  k1 : k ≤ last.1
  k8 : (last.1 - k) % 8 = 0
  ex : ex = true → k = last.1
theorem At.next {M : Int} {C : List C4} {i : Nat} {q k b x y z u a : Int} {ex : Bool} {last told : C4} (h : At M C i q k b x y z u a ex last told) : At M C (i + 1) q k b x y z u a ex last told :=
  ⟨h.hq.imp id (fun ⟨h1, h2, h3⟩ => ⟨h1, by omega, h3⟩), h.up, h.gl, h.gt, h.le, h.hb, h.hx, h.hy, h.hz, h.k0, h.k1, h.k8, h.ex⟩
/-- one answer: where it stands, what it says -/
theorem one_round {M : Int} (hM : 1 ≤ M ∧ M ≤ 65536) {C : List C4} {i : Nat} {q k b x y z u a : Int} {ex : Bool} {last told : C4} (h : At M C i q k b x y z u a ex last told)
    (hg : ∀ (j : Nat) (c : C4), C[j]? = some c → Good M 100 c) (hmono : ∀ (i j : Nat) (x y : C4), C[i]? = some x → C[j]? = some y → i ≤ j → LeC x y) {j : Nat} {c : C4} (hj : j < 100) (hc : C[j]? = some c) (hi : i < 100) {S A : Int}
    (hS : S = icv .u32 (iadd .i64 4294967246 (j : Int))) (hA : A = c.1 % 8) :
    (tkB (ilt 0 a) x y z u S A c.2.2.1 c.2.1 c.2.2.2 = true →
      erI (ilt 0 a) x y z u S A c.2.2.1 c.2.1 c.2.2.2 = 0 ∧ kaI (ilt 0 a) M k b x y z u S A c.2.2.1 c.2.1 c.2.2.2 = c.1 ∧ f11r0 told.1 told.2.1 told.2.2.1 told.2.2.2 c.1 c.2.1 c.2.2.1 c.2.2.2 = true ∧
      At M C (i + 1) j c.1 (baI (ilt 0 a) M k b x y z u S A c.2.2.1 c.2.1 c.2.2.2) (byI true x c.2.2.1) (byI true y c.2.1) (byI true z c.2.2.2) S (inc a) true c c) ∧
    (tkB (ilt 0 a) x y z u S A c.2.2.1 c.2.1 c.2.2.2 = false →
      erI (ilt 0 a) x y z u S A c.2.2.1 c.2.1 c.2.2.2 = 11 ∧ kaI (ilt 0 a) M k b x y z u S A c.2.2.1 c.2.1 c.2.2.2 = k ∧ baI (ilt 0 a) M k b x y z u S A c.2.2.1 c.2.1 c.2.2.2 = b) ∧
    (tkB (ilt 0 a) x y z u S A (-1) (-1) (-1) = true →
      erI (ilt 0 a) x y z u S A (-1) (-1) (-1) = 0 ∧ (kaI (ilt 0 a) M k b x y z u S A (-1) (-1) (-1) - c.1) % 8 = 0 ∧ 5 ≤ kaI (ilt 0 a) M k b x y z u S A (-1) (-1) (-1) ∧ kaI (ilt 0 a) M k b x y z u S A (-1) (-1) (-1) ≤ c.1 ∧
      (ex = true → c.1 - last.1 ≤ 7 → kaI (ilt 0 a) M k b x y z u S A (-1) (-1) (-1) = c.1) ∧
      ∀ ex' : Bool, (ex' = true → kaI (ilt 0 a) M k b x y z u S A (-1) (-1) (-1) = c.1) →
      At M C (i + 1) j (kaI (ilt 0 a) M k b x y z u S A (-1) (-1) (-1)) (baI (ilt 0 a) M k b x y z u S A (-1) (-1) (-1)) (byI true x (-1)) (byI true y (-1)) (byI true z (-1)) S (inc a) ex' c told) ∧
    (tkB (ilt 0 a) x y z u S A (-1) (-1) (-1) = false →
      erI (ilt 0 a) x y z u S A (-1) (-1) (-1) = 11 ∧ kaI (ilt 0 a) M k b x y z u S A (-1) (-1) (-1) = k ∧ baI (ilt 0 a) M k b x y z u S A (-1) (-1) (-1) = b) := by
  obtain ⟨hq, up, gl, gt, le, rfl, rfl, rfl, rfl, k0, k1, k8, hex⟩ := h
  have gc := hg j c hc
  have A7 : 0 ≤ A ∧ A ≤ 7 := by omega
  have hg' := gc
  obtain ⟨c0, c1, ce, ce0, ce1, ca0, ca1, cb0, cb1⟩ := gc
  obtain ⟨t0, t1, te, te0, te1, ta0, ta1, tb0, tb1⟩ := gt
  obtain ⟨l0, l1, le', le0, le1, la0, la1, lb0, lb1⟩ := gl
  have w1 : wrB A c.2.2.1 c.2.1 c.2.2.2 = false := by unfold wrB; exact decide_eq_false (by omega)
  have w0 : wrB A (-1) (-1) (-1) = false := by unfold wrB; exact decide_eq_false (by omega)
  have hinc : inc a = a + 1 := by unfold inc iadd; rw [w_i64_in (by omega)]
  -- an answer that is not old comes behind the last one
  have newer : stB (ilt 0 a) u S = false → q < (j : Int) := fun hs => by
    rcases hq with ⟨h1, h2⟩ | ⟨h1, h2, h3, h4, h5⟩
    · omega
    · unfold stB at hs
      rw [hS, h5, stamp_near ⟨h3, h4⟩ (by omega), ilt_d, decide_eq_true h1] at hs
      simp only [Bool.true_and, decide_eq_false_iff_not] at hs
      omega
  have hq' : q < (j : Int) → ∀ (u' : Int), u' = S → ((inc a = 0 ∧ (j : Int) = -1) ∨ (0 < inc a ∧ inc a ≤ ((i + 1 : Nat) : Int) ∧ 0 ≤ (j : Int) ∧ (j : Int) < 100 ∧ u' = icv .u32 (iadd .i64 4294967246 (j : Int)))) := fun _ u' hu => by
    right
    rw [hinc]
    refine ⟨?_, ?_, by omega, by omega, hu.trans hS⟩ <;> rcases hq with ⟨h1, h2⟩ | ⟨h1, h2, h3, h4, h5⟩ <;> omega
  have up' : ∀ (j' : Nat) (c' : C4), C[j']? = some c' → (j : Int) < (j' : Int) → LeC c c' := fun j' c' h1 h2 => hmono j j' c c' hc h1 (by omega)
  have n0 : ile 0 (-1) = false := rfl
  refine ⟨fun ht => ?_, fun ht => ?_, fun ht => ?_, fun ht => ?_⟩
  · have hs : stB (ilt 0 a) u S = false := by
      unfold tkB at ht; cases hs : stB (ilt 0 a) u S
      · rfl
      · rw [hs] at ht; simp at ht
    have hlt := newer hs
    obtain ⟨p1, p2, p3, p4⟩ := up j c hc hlt
    obtain ⟨r1, r2, r3, r4⟩ := le
    have f1 : fs told.2.2.1 c.2.2.1 = c.2.2.1 - told.2.2.1 := fs_near (by omega) (by omega) (by omega)
    have f2 : fs told.2.1 c.2.1 = c.2.1 - told.2.1 := fs_near (by omega) (by omega) (by omega)
    have f3 : fs told.2.2.2 c.2.2.2 = c.2.2.2 - told.2.2.2 := fs_near (by omega) (by omega) (by omega)
    have hg : gue told.1 A (c.2.1 - told.2.1) M = c.1 - told.1 := gue_full hM (by omega) (by rw [ce, te, ← Int.mul_sub]; congr 1; omega) (by omega) A (by omega)
    have hi1 : iadd .i64 told.1 (c.1 - told.1) = c.1 := by unfold iadd; rw [w_i64_in (by omega)]; omega
    have htol : tol M k told.1 told.2.1 A c.2.1 = c.1 := by
      unfold tol
      rw [f2, hg, hi1, ile_d, decide_eq_true (show (0 : Int) ≤ c.2.1 from ce0), ile_d, decide_eq_true (show k ≤ c.1 by omega)]; rfl
    refine ⟨?_, ?_, ?_, ?_⟩
    · unfold erI; rw [w1, ht]; rfl
    · unfold kaI; rw [ht, htol]; rfl
    · unfold f11r0
      have s1 : isub .i64 c.2.1 told.2.1 = c.2.1 - told.2.1 := by unfold isub; rw [w_i64_in (by omega)]
      have s2 : isub .i64 c.2.2.1 told.2.2.1 = c.2.2.1 - told.2.2.1 := by unfold isub; rw [w_i64_in (by omega)]
      have s3 : isub .i64 c.2.2.2 told.2.2.2 = c.2.2.2 - told.2.2.2 := by unfold isub; rw [w_i64_in (by omega)]
      rw [s1, s2, s3, ilt_d, decide_eq_true (by omega), ilt_d, decide_eq_true (by omega), ilt_d, decide_eq_true (by omega)]; rfl
    · have hba : baI (ilt 0 a) M k told.1 told.2.2.1 told.2.1 told.2.2.2 u S A c.2.2.1 c.2.1 c.2.2.2 = c.1 := by
        unfold baI; rw [ht, ile_d, decide_eq_true (show (0 : Int) ≤ c.2.1 from ce0), htol]; rfl
      have b1 : byI true told.2.2.1 c.2.2.1 = c.2.2.1 := by unfold byI iadd; rw [f1, w_i64_in (by omega)]; simp only [cond_true]; omega
      have b2 : byI true told.2.1 c.2.1 = c.2.1 := by unfold byI iadd; rw [f2, w_i64_in (by omega)]; simp only [cond_true]; omega
      have b3 : byI true told.2.2.2 c.2.2.2 = c.2.2.2 := by unfold byI iadd; rw [f3, w_i64_in (by omega)]; simp only [cond_true]; omega
      exact ⟨hq' hlt S rfl, up', hg' , hg', LeC.refl c, hba, b1, b2, b3, c0, Int.le_refl _, by omega, fun _ => rfl⟩
  · refine ⟨?_, ?_, ?_⟩
    · unfold erI; rw [w1, ht]; rfl
    · unfold kaI; rw [ht]; rfl
    · unfold baI; rw [ht]; rfl
  · have hs : stB (ilt 0 a) u S = false := by
      unfold tkB at ht; cases hs : stB (ilt 0 a) u S
      · rfl
      · rw [hs] at ht; simp at ht
    have hlt := newer hs
    obtain ⟨p1, p2, p3, p4⟩ := up j c hc hlt
    have hst : 0 ≤ st8 k A ∧ st8 k A < 8 ∧ (k + st8 k A) % 8 = A % 8 := by unfold st8; omega
    have hka : kaI (ilt 0 a) M k told.1 told.2.2.1 told.2.1 told.2.2.2 u S A (-1) (-1) (-1) = k + st8 k A := by
      have e1 : iadd .i64 k (st8 k A) = k + st8 k A := by unfold iadd; rw [w_i64_in (by omega)]
      unfold kaI tol; rw [ht, n0, e1]; rfl
    have hba : baI (ilt 0 a) M k told.1 told.2.2.1 told.2.1 told.2.2.2 u S A (-1) (-1) (-1) = told.1 := by
      unfold baI; rw [n0, Bool.and_false]; rfl
    have b0 : ∀ v : Int, 1 - 1 ≤ v ∧ v ≤ 8388608 → byI true v (-1) = v := fun v hv => by unfold byI iadd; rw [fs_no, w_i64_in (by omega)]; simp only [cond_true]; omega
    have hle8 : k + st8 k A ≤ c.1 := by unfold st8; omega
    rw [hka]
    refine ⟨?_, by omega, by omega, hle8, fun he h7 => ?_, fun ex' he => ?_⟩
    · unfold erI; rw [w0, ht]; rfl
    · have := hex he; unfold st8; omega
    · exact ⟨hq' hlt S rfl, up', hg', ⟨t0, t1, te, te0, te1, ta0, ta1, tb0, tb1⟩, le.trans ⟨p1, p2, p3, p4⟩, hba, b0 _ (by omega), b0 _ (by omega), b0 _ (by omega), by omega, hle8, by omega, he⟩
  · refine ⟨?_, ?_, ?_⟩
    · unfold erI; rw [w0, ht]; rfl
    · unfold kaI; rw [ht]; rfl
    · unfold baI; rw [ht]; rfl
theorem iand7 (x : Int) : iand .i64 x 7 = x % 8 := iand_mask .i64 3 (by decide) x
set_option maxHeartbeats 4000000 in
theorem l3 {M : Int} (hM : 1 ≤ M ∧ M ≤ 65536) (m : Int) (l : List Int) (t : List Bool) (r : List Int) (C : List C4) (T : List Bool) (hr : ∀ v ∈ r, 0 ≤ v ∧ v ≤ 255) (hC : 0 < C.length ∧ C.length ≤ 100) (hT : T.length = C.length)
    (hg : ∀ (j : Nat) (c : C4), C[j]? = some c → Good M 100 c) (hmono : ∀ (i j : Nat) (x y : C4), C[i]? = some x → C[j]? = some y → i ≤ j → LeC x y) :
    ∀ (n i : Nat) (q k b x y z u a d : Int) (ex : Bool) (last told : C4), i + n = min 100 r.length → At M C i q k b x y z u a ex last told →
      L3L m l t r (n + 1) C T M (i : Int) k b x y z u a d ex true last.1 last.2.1 last.2.2.1 last.2.2.2 told.1 told.2.1 told.2.2.1 told.2.2.2 = some 1
  | 0, i, q, k, b, x, y, z, u, a, d, ex, last, told, h, ha => by
    rw [L3L]
    by_cases h1 : (i : Int) < r.length
    · rw [show ilt (i : Int) (nlen (lenI r)) = true from by simp only [ilt_d, nlen, lenI, decide_eq_true_eq]; omega, show ilt (i : Int) 100 = false from by simp only [ilt_d, decide_eq_false_iff_not]; omega]; rfl
    · rw [show ilt (i : Int) (nlen (lenI r)) = false from by simp only [ilt_d, nlen, lenI, decide_eq_false_iff_not]; omega]; rfl
  | n + 1, i, q, k, b, x, y, z, u, a, d, ex, last, told, h, ha => by
    have hi : i < r.length := by omega
    have e3 : iadd .i64 (i : Int) 1 = ((i + 1 : Nat) : Int) := by unfold iadd; rw [w_i64_in (by omega)]; omega
    have hv := hr r[i] (List.getElem_mem hi)
    obtain ⟨kk, hkk, hk⟩ : ∃ kk : Nat, kk < C.length ∧ kx r C (i : Int) = (kk : Int) := by
      have eg : getI r (idxN 0 (i : Int)) = r[i] := by
        unfold getI idxN; rw [Int.toNat_natCast, Nat.zero_add, List.getD_eq_getElem?_getD, List.getElem?_eq_getElem hi, Option.getD_some]
      have e1 : icv .i64 r[i] = r[i] := by unfold icv; rw [w_i64_in (by omega)]
      have e2 : kx r C (i : Int) = r[i] % (C.length : Int) := by
        unfold kx nlen lenR irem; rw [eg, e1, Int.tmod_eq_emod_of_nonneg hv.1]
      have p1 := Int.emod_nonneg r[i] (show (C.length : Int) ≠ 0 by omega)
      have p2 := Int.emod_lt_of_pos r[i] (show (0 : Int) < C.length by omega)
      exact ⟨(r[i] % (C.length : Int)).toNat, by omega, by rw [e2]; omega⟩
    obtain ⟨c, hc⟩ : ∃ c : C4, C[kk]? = some c := ⟨C[kk], List.getElem?_eq_getElem hkk⟩
    have hcx : cx r C (i : Int) = c := by
      show getR K4 C (idxN 0 (kx r C (i : Int))) = c
      rw [hk]
      have : C.getD kk (El.dflt K4) = c := by rw [List.getD_eq_getElem?_getD, hc, Option.getD_some]
      unfold getR idxN; rw [Int.toNat_natCast, Nat.zero_add]; exact this
    have gc := hg kk c hc
    have hA : acx r C (i : Int) = c.1 % 8 := by
      show icv .u8 (iand .i64 (cx r C (i : Int)).1 7) = c.1 % 8
      rw [hcx]
      show icv .u8 (iand .i64 c.1 7) = c.1 % 8
      rw [iand7]; unfold icv; rw [w_u8]; omega
    have hb0 : b0x r C (i : Int) = c.2.2.1 := by
      show f19r0 (cx r C (i : Int)).2.2.1 16777216 = c.2.2.1
      rw [hcx]; exact low_in (x := c.2.2.1) ⟨by have := gc.a0; omega, by have := gc.a1; omega⟩
    have hb1 : b1x r C (i : Int) = c.2.1 := by
      show f19r0 (cx r C (i : Int)).2.1 16777216 = c.2.1
      rw [hcx]; exact low_in (x := c.2.1) ⟨gc.e0, by have := gc.e1; omega⟩
    have hb2 : b2x r C (i : Int) = c.2.2.2 := by
      show f19r0 (cx r C (i : Int)).2.2.2 16777216 = c.2.2.2
      rw [hcx]; exact low_in (x := c.2.2.2) ⟨by have := gc.b0; omega, by have := gc.b1; omega⟩
    have hS : stx r C (i : Int) = icv .u32 (iadd .i64 4294967246 (kk : Int)) := by
      show icv .u32 (iadd .i64 4294967246 (kx r C (i : Int))) = _; rw [hk]
    obtain ⟨R1, R2, R3, R4⟩ := one_round hM ha hg hmono (by omega) hc (by omega) hS hA
    have i1 := decide_eq_true (show inB (i : Int) (lenI r) from ⟨by omega, by unfold lenI; omega⟩)
    have i2 := decide_eq_true (show ltN (idxN 0 (i : Int)) (lenI r) from by unfold ltN idxN lenI; omega)
    have i3 := decide_eq_true (show nz (nlen (lenR K4 C)) from by unfold nz nlen lenR; omega)
    have i4 := decide_eq_true (show inB ((kk : Nat) : Int) (lenR K4 C) from ⟨by omega, by unfold lenR; omega⟩)
    have i5 := decide_eq_true (show ltN (idxN 0 ((kk : Nat) : Int)) (lenR K4 C) from by unfold ltN idxN lenR; omega)
    have i6 := decide_eq_true (show inB ((kk : Nat) : Int) (lenB T) from ⟨by omega, by unfold lenB; omega⟩)
    have i7 := decide_eq_true (show ltN (idxN 0 ((kk : Nat) : Int)) (lenB T) from by unfold ltN idxN lenB; omega)
    have i8 := decide_eq_true (show 0 ≤ c.1 % 8 ∧ c.1 % 8 ≤ 255 from by omega)
    have i9 := decide_eq_true (show -9223372036854775808 ≤ M ∧ M ≤ 9223372036854775807 from by omega)
    have z8 : ∀ v w : Int, 0 ≤ v ∧ v ≤ 1000 → 0 ≤ w ∧ w ≤ 1000 → (v - w) % 8 = 0 → ine (iand .i64 (isub .i64 v w) 7) 0 = false := fun v w hv hw h => by
      unfold isub; rw [w_i64_in (by omega), iand7, h]; rfl
    rw [L3L, show ilt (i : Int) (nlen (lenI r)) = true from by simp only [ilt_d, nlen, lenI, decide_eq_true_eq]; omega, show ilt (i : Int) 100 = true from by simp only [ilt_d, decide_eq_true_eq]; omega, e3]
    have gc0 := gc.c0
    have gc1 := gc.c1
    cases htell : getB T (idxN 0 (kk : Int)) with
    | true =>
      cases htk : tkB (ilt 0 a) x y z u (stx r C (i : Int)) (acx r C (i : Int)) c.2.2.1 c.2.1 c.2.2.2 with
      | true =>
        obtain ⟨q1, q2, q3, q4⟩ := R1 htk
        have ih := fun dd => l3 hM m l t r C T hr hC hT hg hmono n (i + 1) _ _ _ _ _ _ _ _ dd _ _ _ (by omega) q4
        have t1 : tk1 r C (i : Int) a x y z u = true := by show tkB _ _ _ _ _ _ _ (b0x r C (i : Int)) (b1x r C (i : Int)) (b2x r C (i : Int)) = true; rw [hb0, hb1, hb2]; exact htk
        have t2 : er1 r C (i : Int) a x y z u = 0 := by show erI _ _ _ _ _ _ _ (b0x r C (i : Int)) (b1x r C (i : Int)) (b2x r C (i : Int)) = 0; rw [hb0, hb1, hb2]; exact q1
        have t3 : ka1 r C (i : Int) a M k b x y z u = c.1 := by show kaI _ _ _ _ _ _ _ _ _ _ (b0x r C (i : Int)) (b1x r C (i : Int)) (b2x r C (i : Int)) = c.1; rw [hb0, hb1, hb2]; exact q2
        have t4 : ba1 r C (i : Int) a M k b x y z u = baI (ilt 0 a) M k b x y z u (stx r C (i : Int)) (acx r C (i : Int)) c.2.2.1 c.2.1 c.2.2.2 := by show baI _ _ _ _ _ _ _ _ _ _ (b0x r C (i : Int)) (b1x r C (i : Int)) (b2x r C (i : Int)) = _; rw [hb0, hb1, hb2]
        have z1 : ine (iand .i64 (isub .i64 c.1 c.1) 7) 0 = false := z8 _ _ (by omega) (by omega) (by omega)
        have z2 : ine c.1 c.1 = false := by simp [ine_d]
        have n0 : ine 0 0 = false := rfl
        rw [hk, hcx, htell, t1, t2, t3, t4, hb0, hb1, hb2, n0, i1, i2, i3, i4, i5, i6, i7]
        simp only [cond_true, cond_false]
        rw [hA, i8, i9]
        simp only [cond_true, cond_false]
        rw [show f11r0 told.1 told.2.1 told.2.2.1 told.2.2.2 c.1 c.2.1 c.2.2.1 c.2.2.2 = true from q3]
        rw [hA] at ih
        simp only [cond_true, cond_false]
        refine (congrArg (fun x => bif x then some 0 else bif ine c.1 c.1 then some 0 else _) z1).trans ?_
        refine (congrArg (fun x => bif x then some 0 else _) z2).trans ?_
        exact ih _
      | false =>
        obtain ⟨q1, q2, q3⟩ := R2 htk
        have ih := fun dd => l3 hM m l t r C T hr hC hT hg hmono n (i + 1) _ _ _ _ _ _ _ _ dd _ _ _ (by omega) ha.next
        have t1 : tk1 r C (i : Int) a x y z u = false := by show tkB _ _ _ _ _ _ _ (b0x r C (i : Int)) (b1x r C (i : Int)) (b2x r C (i : Int)) = false; rw [hb0, hb1, hb2]; exact htk
        have t2 : er1 r C (i : Int) a x y z u = 11 := by show erI _ _ _ _ _ _ _ (b0x r C (i : Int)) (b1x r C (i : Int)) (b2x r C (i : Int)) = 11; rw [hb0, hb1, hb2]; exact q1
        have t3 : ka1 r C (i : Int) a M k b x y z u = k := by show kaI _ _ _ _ _ _ _ _ _ _ (b0x r C (i : Int)) (b1x r C (i : Int)) (b2x r C (i : Int)) = k; rw [hb0, hb1, hb2]; exact q2
        have t4 : ba1 r C (i : Int) a M k b x y z u = b := by show baI _ _ _ _ _ _ _ _ _ _ (b0x r C (i : Int)) (b1x r C (i : Int)) (b2x r C (i : Int)) = b; rw [hb0, hb1, hb2]; exact q3
        have n0 : ine 11 0 = true := rfl
        have y0 : ∀ v w : Int, byI false v w = v := fun v w => rfl
        rw [hk, hcx, htell, t1, t2, t3, t4, y0, y0, y0, n0, i1, i2, i3, i4, i5, i6, i7]
        simp only [cond_true, cond_false]
        rw [hA, i8, i9]
        simp only [cond_true, cond_false]
        exact ih _
    | false =>
      cases htk : tkB (ilt 0 a) x y z u (stx r C (i : Int)) (acx r C (i : Int)) (-1) (-1) (-1) with
      | true =>
        obtain ⟨q1, q2, q3, q4, q5, q6⟩ := R3 htk
        have z1 : ine (iand .i64 (isub .i64 (ka0 r C (i : Int) a M k b x y z u) c.1) 7) 0 = false := z8 _ _ (by have : ka0 r C (i : Int) a M k b x y z u ≤ c.1 := q4; have : 5 ≤ ka0 r C (i : Int) a M k b x y z u := q3; omega) (by omega) q2
        have n0 : ine 0 0 = false := rfl
        have t1 : tk0 r C (i : Int) a x y z u = true := htk
        have t2 : er0 r C (i : Int) a x y z u = 0 := q1
        have hl0 := ha.gl.c0
        have hl1 := ha.gl.c1
        have s1 : isub .i64 c.1 last.1 = c.1 - last.1 := by unfold isub; rw [w_i64_in (by omega)]
        have ih := fun dd ex' hx => l3 hM m l t r C T hr hC hT hg hmono n (i + 1) _ _ _ _ _ _ _ _ dd _ _ _ (by omega) (q6 ex' hx)
        have i8' : decide (0 ≤ acx r C (i : Int) ∧ acx r C (i : Int) ≤ 255) = true := by rw [hA]; exact i8
        rw [hk, hcx, htell, t1, t2, n0, i1, i2, i3, i4, i5, i6, i7, i8', i9]
        simp only [cond_true, cond_false]
        cases hex : ex with
        | false =>
          simp only [cond_true, cond_false]
          refine (congrArg (fun x => bif x then some 0 else _) z1).trans ?_
          exact ih _ false (fun h => by simp at h)
        | true =>
          simp only [cond_true, cond_false]
          refine (congrArg (fun x => bif x then some 0 else bif ile (isub .i64 c.1 last.1) 7 then _ else _) z1).trans ?_
          simp only [cond_true, cond_false]
          cases h7 : ile (isub .i64 c.1 last.1) 7 with
          | true =>
            have q7 := q5 hex (by rw [s1, ile_d, decide_eq_true_eq] at h7; exact h7)
            have z2 : ine (ka0 r C (i : Int) a M k b x y z u) c.1 = false := by
              show ine (kaI _ _ _ _ _ _ _ _ _ _ _ _ _) _ = false; rw [q7]; simp [ine_d]
            simp only [cond_true, cond_false]
            refine (congrArg (fun x => bif x then some 0 else _) z2).trans ?_
            simp only [cond_true, cond_false]
            exact ih _ true (fun _ => q7)
          | false =>
            simp only [cond_true, cond_false]
            exact ih _ false (fun h => by simp at h)
      | false =>
        obtain ⟨q1, q2, q3⟩ := R4 htk
        have ih := fun dd => l3 hM m l t r C T hr hC hT hg hmono n (i + 1) _ _ _ _ _ _ _ _ dd _ _ _ (by omega) ha.next
        have t1 : tk0 r C (i : Int) a x y z u = false := htk
        have t2 : er0 r C (i : Int) a x y z u = 11 := q1
        have t3 : ka0 r C (i : Int) a M k b x y z u = k := q2
        have t4 : ba0 r C (i : Int) a M k b x y z u = b := q3
        have n0 : ine 11 0 = true := rfl
        have y0 : ∀ v w : Int, byI false v w = v := fun v w => rfl
        rw [hk, hcx, htell, t1, t2, t3, t4, y0, y0, y0, n0, i1, i2, i3, i4, i5, i6, i7]
        simp only [cond_true, cond_false]
        rw [hA, i8, i9]
        simp only [cond_true, cond_false]
        exact ih _
theorem counts (m : Int) (hm : 0 ≤ m ∧ m ≤ 65535) (l : List Int) (t : List Bool) (r : List Int) (hr : ∀ v ∈ r, 0 ≤ v ∧ v ≤ 255) :
    ACalls Try.prog 3 [AV.agg [AV.v (.int .u16 m), AV.sw 0 1, AV.sw 1 1, AV.sw 2 1]] [AObj.ints 0 false .u8 l, AObj.bools 0 false t, AObj.ints 0 false .u8 r] (AV.v (Value.bool true)) [] [] := by
  have hM : iadd .i64 (icv .i64 m) 1 = m + 1 := by unfold icv iadd; rw [w_i64_in (x := m) (by omega), w_i64_in (by omega)]
  have hlen : (cl6 m l).length = min 100 l.length := by unfold cl6; rw [cls_len]; simp
  have hg5 : Good (m + 1) 0 ((5, 0, 1, 1) : C4) := ⟨by simp, by simp, by simp, by simp, by simp, by simp, by simp, by simp, by simp⟩
  have h := f3 m l t r 1 0 (min 100 r.length + 1) (fun _ h => by simp at h) (fun hne _ => by
    have hne' : ¬ (cl6 m l).length = 0 := by simp only [ieq_d, decide_eq_false_iff_not, nlen, lenR] at hne; omega
    have hl : (l.take 100).length ≤ 100 := by simp; omega
    rw [hM]
    exact l3 (M := m + 1) (by omega) m l t r (cl6 m l) (tl6 l t) hr ⟨by omega, by omega⟩ (by unfold tl6; rw [tls_len, hlen])
      (fun j c hc => (cls_good (M := m + 1) (by omega) hM (l.take 100) 0 _ (by omega) (by omega) hg5 j c hc).1)
      (fun i j x y hx hy hij => cls_mono (M := m + 1) (by omega) hM (l.take 100) 0 _ (by omega) (by omega) hg5 i j x y hx hy hij)
      (min 100 r.length) 0 (-1) 5 5 1 0 1 0 0 0 true (5, 0, 1, 1) (5, 0, 1, 1) (by omega)
      ⟨.inl ⟨rfl, rfl⟩, fun j c hc _ => (cls_good (M := m + 1) (by omega) hM (l.take 100) 0 _ (by omega) (by omega) hg5 j c hc).2, hg5.mono (by omega), hg5.mono (by omega), LeC.refl _, rfl, rfl, rfl, rfl, by omega, by simp, by simp, fun _ => rfl⟩)
  have e : f3r0 m l t r 1 0 (min 100 r.length + 1) = true := by
    unfold f3r0; cases ieq (nlen (lenR K4 (cl6 m l))) 0 <;> rfl
  rw [e] at h; exact h
end Go.Proofs.Ytmaalibjfjokeaa.Fk
