import Derived.Test.YtlnmjjefjhblcaaCfL
import Derived.Test.YtlnmjjefjhblcaaAbsWf
set_option maxRecDepth 100000
set_option linter.all false
set_option maxHeartbeats 4000000
namespace Go.Proofs.Ytlnmjjefjhblcaa.Cf
open Go.Abs
theorem eqE_iff (a b : El FF) : eqE a b = true ↔ a = b := by
  obtain ⟨a0, a1, a2, a3, a4, a5, a6, a7, a8, a9⟩ := a
  obtain ⟨b0, b1, b2, b3, b4, b5, b6, b7, b8, b9⟩ := b
  simp [eqE, andB, ieq]
theorem eqr_iff (p : Nat → Bool) : ∀ k i, eqr p k i = true ↔ ∀ j, i ≤ j → j < i + k → p j = true
  | 0, i => by simp [eqr]; intro j h1 h2; omega
  | k + 1, i => by
    rw [eqr]
    cases hp : p i with
    | true =>
      rw [cond_true, eqr_iff p k (i + 1)]
      exact ⟨fun h j h1 h2 => by
        rcases Nat.eq_or_lt_of_le h1 with rfl | h3
        · exact hp
        · exact h j h3 (by omega), fun h j h1 h2 => h j (by omega) (by omega)⟩
    | false =>
      simp only [cond_false, Bool.false_eq_true, false_iff]
      intro h
      have := h i (Nat.le_refl _) (by omega)
      rw [hp] at this; simp at this
theorem ieq_n (m n : Nat) : ieq (nlen m) (nlen n) = true ↔ m = n := by unfold ieq nlen; simp; omega
theorem and_iff' (a b : Bool) : (bif a then b else false) = true ↔ a = true ∧ b = true := by cases a <;> simp
theorem getR_get {l : List (El FF)} {i : Nat} (h : i < l.length) : getR FF l i = l[i] := by
  unfold getR; rw [List.getD_eq_getElem?_getD, List.getElem?_eq_getElem h]; rfl
theorem getI_get {l : List Int} {i : Nat} (h : i < l.length) : getI l i = l[i] := by
  unfold getI; rw [List.getD_eq_getElem?_getD, List.getElem?_eq_getElem h]; rfl
theorem eqF_iff (l m : List (El FF)) : eqF l m = true ↔ l = m := by
  unfold eqF
  rw [and_iff', ieq_n, eqr_iff]
  refine ⟨fun ⟨h1, h2⟩ => List.ext_getElem h1 fun i hi hi2 => ?_, fun h => by subst h; exact ⟨rfl, fun j _ _ => (eqE_iff _ _).2 rfl⟩⟩
  have := (eqE_iff _ _).1 (h2 i (Nat.zero_le _) (by omega))
  rwa [getR_get hi, getR_get hi2] at this
theorem eqI_iff (l m : List Int) : eqI l m = true ↔ l = m := by
  unfold eqI
  rw [and_iff', ieq_n, eqr_iff]
  refine ⟨fun ⟨h1, h2⟩ => List.ext_getElem h1 fun i hi hi2 => ?_, fun h => by subst h; exact ⟨rfl, fun j _ _ => by unfold ieq; simp⟩⟩
  have := h2 i (Nat.zero_le _) (by omega)
  unfold ieq at this
  have := eq_of_beq this
  rwa [getI_get hi, getI_get hi2] at this
theorem kp_wt {x lo hi : Int} (h : lo ≤ hi) : kp x lo hi = x ↔ wt x lo hi = true := by
  unfold kp wt imin imax; simp; omega
theorem ieq_kp {x lo hi : Int} (h : lo ≤ hi) : ieq x (kp x lo hi) = wt x lo hi := by
  have := kp_wt (x := x) h
  unfold ieq
  by_cases q : kp x lo hi = x
  · rw [q, this.1 q]; simp
  · have q2 : wt x lo hi = false := by cases hw : wt x lo hi <;> simp_all
    rw [q2]; simp; exact fun e => q e.symm
theorem lF_lF (E : El FF) : lF (lF E) = lF E := by
  obtain ⟨k, m, f, t, l, o, g, d, a, b⟩ := E
  have h1 := kp_lo l (show (1 : Int) ≤ 1125899906842624 by decide)
  have h2 := kp_lo m (show (1 : Int) ≤ 65536 by decide)
  simp only [lF]
  rw [kp_kp k (by decide), kp_kp m (by decide), kp_kp f (by decide), kp_kp t (by decide), kp_kp l (by decide), kp_kp g (by decide), kp_kp d (by decide), kp_kp a (by decide), kp_kp o h1.2, kp_kp b (by omega)]
theorem lF0_eq : lF0 = lF (0, 0, 0, 0, 0, 0, 0, 0, 0, 0) := rfl
theorem sF_iff (E : El FF) : sF E = true ↔ lF E = E := by
  have : sF E = eqE E (lF E) := rfl
  rw [this, eqE_iff]; exact eq_comm
theorem flAt_lF (j0 : List (El FF)) (i : Nat) : lF (flAt j0 i) = flAt j0 i := by
  unfold flAt; split
  · exact lF_lF _
  · rw [lF0_eq]; exact lF_lF _
theorem bsAt_wt (j1 : List Int) (i : Nat) : wt (bsAt j1 i) 1 1073741824 = true := by
  unfold bsAt; split
  · exact (kp_wt (by decide)).1 (kp_kp _ (by decide))
  · exact (kp_wt (by decide)).1 (kp_kp _ (by decide))
theorem cFl_len (j0 : List (El FF)) : (cFl j0).length = cN j0 := by simp [cFl]
theorem cBs_len (j0 : List (El FF)) (j1 : List Int) : (cBs j0 j1).length = cN j0 := by simp [cBs]
theorem cFl_get {j0 : List (El FF)} {i : Nat} (h : i < cN j0) : getR FF (cFl j0) i = flAt j0 i := by
  rw [getR_get (by rw [cFl_len]; exact h)]; simp [cFl]
theorem cBs_get {j0 : List (El FF)} {j1 : List Int} {i : Nat} (h : i < cN j0) : getI (cBs j0 j1) i = bsAt j1 i := by
  rw [getI_get (by rw [cBs_len]; exact h)]; simp [cBs]
theorem cN_cN (j0 : List (El FF)) : cN (cFl j0) = cN j0 := by unfold cN; rw [cFl_len]; unfold cN; omega
theorem cFl_cFl (j0 : List (El FF)) : cFl (cFl j0) = cFl j0 := by
  refine List.ext_getElem (by rw [cFl_len, cFl_len, cN_cN]) fun i h1 h2 => ?_
  rw [cFl_len, cN_cN] at h1
  rw [← getR_get (by rw [cFl_len, cN_cN]; exact h1), ← getR_get (by rw [cFl_len]; exact h1), cFl_get (by rw [cN_cN]; exact h1), flAt, if_pos (by rw [cFl_len]; exact h1), cFl_get h1]
  exact flAt_lF j0 i
theorem cBs_cBs (j0 : List (El FF)) (j1 : List Int) : cBs (cFl j0) (cBs j0 j1) = cBs j0 j1 := by
  refine List.ext_getElem (by rw [cBs_len, cBs_len, cN_cN]) fun i h1 h2 => ?_
  rw [cBs_len, cN_cN] at h1
  rw [← getI_get (by rw [cBs_len, cN_cN]; exact h1), ← getI_get (by rw [cBs_len]; exact h1), cBs_get (by rw [cN_cN]; exact h1), bsAt, if_pos (by rw [cBs_len]; exact h1), cBs_get h1]
  exact (kp_wt (by decide)).2 (bsAt_wt j1 i)
theorem cPl_cPl (l : List Int) : cPl (cPl l) = cPl l := by
  unfold cPl
  rw [← List.map_take, List.map_map, List.take_take, Nat.min_self]
  refine List.map_congr_left fun x _ => ?_
  exact kp_kp x (by decide)
theorem cDr_cDr (l : List Int) : cDr (cDr l) = cDr l := by unfold cDr; rw [List.take_take, Nat.min_self]
theorem bfr_iff (j0 : List (El FF)) (j1 : List Int) : ∀ k i, bfr j0 j1 k i = 0 ↔ ∀ j, i ≤ j → j < i + k → bad j0 j1 j = false
  | 0, i => by simp [bfr]; intro j h1 h2; omega
  | k + 1, i => by
    rw [bfr]
    cases hp : bad j0 j1 i with
    | false =>
      rw [cond_false, bfr_iff j0 j1 k (i + 1)]
      exact ⟨fun h j h1 h2 => by
        rcases Nat.eq_or_lt_of_le h1 with rfl | h3
        · exact hp
        · exact h j h3 (by omega), fun h j h1 h2 => h j (by omega) (by omega)⟩
    | true =>
      rw [cond_true]
      refine ⟨fun h => by omega, fun h => ?_⟩
      have := h i (Nat.le_refl _) (by omega)
      rw [hp] at this; simp at this
theorem pixr_iff (l : List Int) : ∀ k i, pixr l k i = -1 ↔ ∀ j, i ≤ j → j < i + k → wt (getI l j) (-1) 1073741824 = true
  | 0, i => by simp [pixr]; intro j h1 h2; omega
  | k + 1, i => by
    rw [pixr]
    cases hp : wt (getI l i) (-1) 1073741824 with
    | true =>
      rw [show notB true = false from rfl, cond_false, pixr_iff l k (i + 1)]
      exact ⟨fun h j h1 h2 => by
        rcases Nat.eq_or_lt_of_le h1 with rfl | h3
        · exact hp
        · exact h j h3 (by omega), fun h j h1 h2 => h j (by omega) (by omega)⟩
    | false =>
      rw [show notB false = true from rfl, cond_true]
      refine ⟨fun h => by omega, fun h => ?_⟩
      have := h i (Nat.le_refl _) (by omega)
      rw [hp] at this; simp at this
theorem bad_f (j0 : List (El FF)) (j1 : List Int) (i : Nat) : bad j0 j1 i = false ↔ lF (getR FF j0 i) = getR FF j0 i ∧ wt (getI j1 i) 1 1073741824 = true := by
  rw [← sF_iff]; unfold bad notB
  cases sF (getR FF j0 i) <;> cases wt (getI j1 i) 1 1073741824 <;> simp
theorem fb_clean (j0 : List (El FF)) (j1 : List Int) : fb (cFl j0) (cBs j0 j1) = 0 := by
  refine (bfr_iff _ _ _ _).2 fun j _ hj => (bad_f _ _ _).2 ?_
  rw [cFl_len] at hj
  rw [cFl_get (by omega), cBs_get (by omega)]
  exact ⟨flAt_lF _ _, bsAt_wt _ _⟩
theorem pix_clean (l : List Int) : pix (cPl l) = -1 := by
  refine (pixr_iff _ _ _).2 fun j _ hj => ?_
  rw [getI_get (by omega)]
  simp only [cPl, List.getElem_map]
  exact (kp_wt (by decide)).1 (kp_kp _ (by decide))
theorem eqs_true {x y : Int} : ine x y = false ↔ x = y := by unfold ine; simp
theorem ckE_iff (r a0 a1 a2 a3 a4 a5 a6 a7 y z : Int) (n0 n1 n2 n3 : Nat) (f p : Int) : ckE r a0 a1 a2 a3 a4 a5 a6 a7 y z n0 n1 n2 n3 f p = 0 ↔
    (n0 ≠ 0 ∧ n0 ≤ 256 ∧ n1 = n0 ∧ f = 0 ∧ wt r 1 1099511627776 = true ∧ sA a0 a1 a2 a3 a4 a5 a6 a7 = true ∧ n2 ≤ 4096 ∧ p = -1 ∧ n3 ≤ 4096 ∧ wt y 0 1000 = true ∧ wt z 0 1099511627776 = true) := by
  have e1 : ieq (nlen n0) 0 = decide (n0 = 0) := by unfold ieq nlen; by_cases h : n0 = 0 <;> simp [h]
  have e2 : ∀ (a : Int) (b n : Nat), a = (b : Int) → ilt a (nlen n) = decide (b < n) := fun a b n h => by subst h; unfold ilt nlen; by_cases q : b < n <;> simp [q]
  have e3 : ine (nlen n1) (nlen n0) = !decide (n1 = n0) := by unfold ine nlen; by_cases h : n1 = n0 <;> simp [h]; omega
  have e4 : ieq f 0 = decide (f = 0) := by unfold ieq; by_cases h : f = 0 <;> simp [h]
  have e5 : ieq p (-1) = decide (p = -1) := by unfold ieq; by_cases h : p = -1 <;> simp [h]
  unfold ckE
  rw [e1, e2 256 256 n0 rfl, e2 4096 4096 n2 rfl, e2 4096 4096 n3 rfl, e3, e4, e5]
  unfold notB
  by_cases c1 : n0 = 0
  · simp [c1]
  by_cases c2 : 256 < n0
  · simp [c1, c2]; omega
  by_cases c3 : n1 = n0
  rotate_left
  · simp [c1, c2, c3]
  by_cases c4 : f = 0
  rotate_left
  · simp [c1, c2, c3, c4]
  cases c5 : wt r 1 1099511627776
  · simp [c1, c2, c3, c4]
  cases c6 : sA a0 a1 a2 a3 a4 a5 a6 a7
  · simp [c1, c2, c3, c4]
  by_cases c7 : 4096 < n2
  · simp [c1, c2, c3, c4, c7]; omega
  by_cases c8 : p = -1
  rotate_left
  · simp [c1, c2, c3, c4, c7, c8]
  by_cases c9 : 4096 < n3
  · simp [c1, c2, c3, c4, c7, c8, c9]; omega
  cases c10 : wt y 0 1000
  · simp [c1, c2, c3, c4, c7, c8, c9]
  cases c11 : wt z 0 1099511627776
  · simp [c1, c2, c3, c4, c7, c8, c9]
  · simp [c1, c2, c3, c4, c7, c8, c9]; omega
theorem ckK_0 (r a0 a1 a2 a3 a4 a5 a6 a7 y z : Int) (n0 n1 n2 n3 : Nat) (f p : Int) (h : ckE r a0 a1 a2 a3 a4 a5 a6 a7 y z n0 n1 n2 n3 f p = 0) : ckK r a0 a1 a2 a3 a4 a5 a6 a7 y z n0 n1 n2 n3 f p = 0 := by
  obtain ⟨h0, h1, h2, h3, h4, h5, h6, h7, h8, h9, h10⟩ := (ckE_iff r a0 a1 a2 a3 a4 a5 a6 a7 y z n0 n1 n2 n3 f p).1 h
  have e1 : ieq (nlen n0) 0 = false := by unfold ieq nlen; simp; exact h0
  have e2 : ilt 256 (nlen n0) = false := by unfold ilt nlen; simp; omega
  have e3 : ilt 4096 (nlen n2) = false := by unfold ilt nlen; simp; omega
  have e4 : ilt 4096 (nlen n3) = false := by unfold ilt nlen; simp; omega
  have e5 : ine (nlen n1) (nlen n0) = false := by unfold ine nlen; simp [h2]
  unfold ckK
  rw [e1, e2, e3, e4, e5, h3, h4, h5, h7, h9, h10]; rfl
theorem smC_iff (r a0 a1 a2 a3 a4 a5 a6 a7 y z q b0 b1 b2 b3 b4 b5 b6 b7 u x : Int) (e0 e1 e2 e3 : Bool) : smC r a0 a1 a2 a3 a4 a5 a6 a7 y z q b0 b1 b2 b3 b4 b5 b6 b7 u x e0 e1 e2 e3 = true ↔ (r = q ∧ a0 = b0 ∧ a1 = b1 ∧ a2 = b2 ∧ a3 = b3 ∧ a4 = b4 ∧ a5 = b5 ∧ a6 = b6 ∧ a7 = b7 ∧ y = u ∧ z = x ∧ e0 = true ∧ e1 = true ∧ e2 = true ∧ e3 = true) := by
  unfold smC
  by_cases h1 : r = q
  rotate_left
  · rw [show ine r q = true from by unfold ine; simpa using h1]; simp [h1]
  rw [eqs_true.2 h1]
  by_cases h2 : a0 = b0 ∧ a1 = b1 ∧ a2 = b2 ∧ a3 = b3 ∧ a4 = b4 ∧ a5 = b5 ∧ a6 = b6 ∧ a7 = b7
  rotate_left
  · rw [show notB (andB (ieq a0 b0) (andB (ieq a1 b1) (andB (ieq a2 b2) (andB (ieq a3 b3) (andB (ieq a4 b4) (andB (ieq a5 b5) (andB (ieq a6 b6) (ieq a7 b7)))))))) = true from by unfold notB; simp only [andB, ieq, Bool.not_eq_true']; rw [← Bool.not_eq_true]; simp only [Bool.and_eq_true, beq_iff_eq]; exact h2]
    simp only [cond_false, cond_true, Bool.false_eq_true, false_iff]
    rintro ⟨-, k0, k1, k2, k3, k4, k5, k6, k7, -⟩
    exact h2 ⟨k0, k1, k2, k3, k4, k5, k6, k7⟩
  obtain ⟨k0, k1, k2, k3, k4, k5, k6, k7⟩ := h2
  rw [show notB (andB (ieq a0 b0) (andB (ieq a1 b1) (andB (ieq a2 b2) (andB (ieq a3 b3) (andB (ieq a4 b4) (andB (ieq a5 b5) (andB (ieq a6 b6) (ieq a7 b7)))))))) = false from by unfold notB; simp only [andB, ieq, Bool.not_eq_false', Bool.and_eq_true, beq_iff_eq]; exact ⟨k0, k1, k2, k3, k4, k5, k6, k7⟩]
  by_cases h3 : y = u
  rotate_left
  · rw [show ine y u = true from by unfold ine; simpa using h3]; simp [h3]
  rw [eqs_true.2 h3]
  by_cases h4 : z = x
  rotate_left
  · rw [show ine z x = true from by unfold ine; simpa using h4]; simp [h4]
  rw [eqs_true.2 h4]
  cases e0 <;> cases e1 <;> cases e2 <;> cases e3 <;> simp [h1, h3, h4, k0, k1, k2, k3, k4, k5, k6, k7]
end Go.Proofs.Ytlnmjjefjhblcaa.Cf
