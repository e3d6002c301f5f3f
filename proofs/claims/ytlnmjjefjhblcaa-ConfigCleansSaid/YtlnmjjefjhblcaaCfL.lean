import Derived.Test.YtlnmjjefjhblcaaCfH
import Derived.Test.YtlnmjjefjhblcaaCfI
set_option maxRecDepth 100000
set_option linter.all false
set_option maxHeartbeats 4000000
namespace Go.Proofs.Ytlnmjjefjhblcaa.Cf
open Go.Abs
/-- two configurations are the same -/
def smC (r a0 a1 a2 a3 a4 a5 a6 a7 y z q b0 b1 b2 b3 b4 b5 b6 b7 u x : Int) (e0 e1 e2 e3 : Bool) : Bool := bif ine r q then false else bif notB (andB (ieq a0 b0) (andB (ieq a1 b1) (andB (ieq a2 b2) (andB (ieq a3 b3) (andB (ieq a4 b4) (andB (ieq a5 b5) (andB (ieq a6 b6) (ieq a7 b7)))))))) then false else bif ine y u then false else bif ine z x then false else bif e0 then bif e1 then bif e2 then e3 else false else false else false
theorem g11 (w v : Bool) (j0 k0 : List (El FF)) (j1 j2 j3 k1 k2 k3 : List Int) (r a0 a1 a2 a3 a4 a5 a6 a7 y z q b0 b1 b2 b3 b4 b5 b6 b7 u x : Int) (h0 : decide (lenR FF j0 ≤ 1000000) = true) (h1 : decide (lenI j1 ≤ 1000000) = true) (h2 : decide (lenI j2 ≤ 1000000) = true) (h3 : decide (lenI j3 ≤ 1000000) = true) : ACalls Try.prog 11 [cC r a0 a1 a2 a3 a4 a5 a6 a7 y z, cD q b0 b1 b2 b3 b4 b5 b6 b7 u x] [AObj.rows w FF j0, AObj.ints 0 w .i64 j1, AObj.ints 0 w .i64 j2, AObj.ints 0 w .u32 j3, AObj.rows v FF k0, AObj.ints 0 v .i64 k1, AObj.ints 0 v .i64 k2, AObj.ints 0 v .u32 k3] (iB (smC r a0 a1 a2 a3 a4 a5 a6 a7 y z q b0 b1 b2 b3 b4 b5 b6 b7 u x (eqF j0 k0) (eqI j1 k1) (eqI j2 k2) (eqI j3 k3))) [] [] :=
  f11 w v j0 k0 j1 j2 j3 k1 k2 k3 r a0 a1 a2 a3 a4 a5 a6 a7 y z q b0 b1 b2 b3 b4 b5 b6 b7 u x (fun _ _ _ _ => h0) (fun _ _ _ _ _ => h1) (fun _ _ _ _ _ _ => h2) (fun _ _ _ _ _ _ _ => h3)
theorem l12a (w v : Bool) (j0 k0 : List (El FF)) (j1 j2 j3 k1 k2 k3 : List Int) (r a0 a1 a2 a3 a4 a5 a6 a7 y z q b0 b1 b2 b3 b4 b5 b6 b7 u x : Int) (he : j0.length = k0.length) (hs : j0.length ≤ 1000000) : ∀ k i : Nat, i + k = j0.length →
    L12aL w v j0 k0 j1 j2 j3 k1 k2 k3 r a0 a1 a2 a3 a4 a5 a6 a7 y z q b0 b1 b2 b3 b4 b5 b6 b7 u x (k + 1) (i : Int) = bif eqr (fun i => eqE (getR FF j0 i) (getR FF k0 i)) k i then some 1 else some 0
  | 0, i, h => by rw [L12aL, lt_f (show lenR FF j0 ≤ i from by unfold lenR; omega)]; rfl
  | k + 1, i, h => by
    have h1 : i < lenR FF j0 := by unfold lenR; omega
    have h2 : i < lenR FF k0 := by unfold lenR; omega
    rw [L12aL, lt_t h1, in_t h1, in_t h2, ix0, l_t h1, l_t h2, inc hs (by omega), eqr, l12a w v j0 k0 j1 j2 j3 k1 k2 k3 r a0 a1 a2 a3 a4 a5 a6 a7 y z q b0 b1 b2 b3 b4 b5 b6 b7 u x he hs k (i + 1) (by omega)]
    rw [show (notB (eqE (getR FF j0 i) (getR FF k0 i))) = notB (eqE (getR FF j0 i) (getR FF k0 i)) from rfl]
    cases eqE (getR FF j0 i) (getR FF k0 i) <;> rfl
theorem l12b (w v : Bool) (j0 k0 : List (El FF)) (j1 j2 j3 k1 k2 k3 : List Int) (r a0 a1 a2 a3 a4 a5 a6 a7 y z q b0 b1 b2 b3 b4 b5 b6 b7 u x : Int) (he : j1.length = k1.length) (hs : j1.length ≤ 1000000) : ∀ k i : Nat, i + k = j1.length →
    L12bL w v j0 k0 j1 j2 j3 k1 k2 k3 r a0 a1 a2 a3 a4 a5 a6 a7 y z q b0 b1 b2 b3 b4 b5 b6 b7 u x (k + 1) (i : Int) = bif eqr (fun i => ieq (getI j1 i) (getI k1 i)) k i then some 1 else some 0
  | 0, i, h => by rw [L12bL, lt_f (show lenI j1 ≤ i from by unfold lenI; omega)]; rfl
  | k + 1, i, h => by
    have h1 : i < lenI j1 := by unfold lenI; omega
    have h2 : i < lenI k1 := by unfold lenI; omega
    rw [L12bL, lt_t h1, in_t h1, in_t h2, ix0, l_t h1, l_t h2, inc hs (by omega), eqr, l12b w v j0 k0 j1 j2 j3 k1 k2 k3 r a0 a1 a2 a3 a4 a5 a6 a7 y z q b0 b1 b2 b3 b4 b5 b6 b7 u x he hs k (i + 1) (by omega)]
    rw [show (ine (getI j1 i) (getI k1 i)) = notB (ieq (getI j1 i) (getI k1 i)) from rfl]
    cases ieq (getI j1 i) (getI k1 i) <;> rfl
theorem l12c (w v : Bool) (j0 k0 : List (El FF)) (j1 j2 j3 k1 k2 k3 : List Int) (r a0 a1 a2 a3 a4 a5 a6 a7 y z q b0 b1 b2 b3 b4 b5 b6 b7 u x : Int) (he : j2.length = k2.length) (hs : j2.length ≤ 1000000) : ∀ k i : Nat, i + k = j2.length →
    L12cL w v j0 k0 j1 j2 j3 k1 k2 k3 r a0 a1 a2 a3 a4 a5 a6 a7 y z q b0 b1 b2 b3 b4 b5 b6 b7 u x (k + 1) (i : Int) = bif eqr (fun i => ieq (getI j2 i) (getI k2 i)) k i then some 1 else some 0
  | 0, i, h => by rw [L12cL, lt_f (show lenI j2 ≤ i from by unfold lenI; omega)]; rfl
  | k + 1, i, h => by
    have h1 : i < lenI j2 := by unfold lenI; omega
    have h2 : i < lenI k2 := by unfold lenI; omega
    rw [L12cL, lt_t h1, in_t h1, in_t h2, ix0, l_t h1, l_t h2, inc hs (by omega), eqr, l12c w v j0 k0 j1 j2 j3 k1 k2 k3 r a0 a1 a2 a3 a4 a5 a6 a7 y z q b0 b1 b2 b3 b4 b5 b6 b7 u x he hs k (i + 1) (by omega)]
    rw [show (ine (getI j2 i) (getI k2 i)) = notB (ieq (getI j2 i) (getI k2 i)) from rfl]
    cases ieq (getI j2 i) (getI k2 i) <;> rfl
theorem l12d (w v : Bool) (j0 k0 : List (El FF)) (j1 j2 j3 k1 k2 k3 : List Int) (r a0 a1 a2 a3 a4 a5 a6 a7 y z q b0 b1 b2 b3 b4 b5 b6 b7 u x : Int) (he : j3.length = k3.length) (hs : j3.length ≤ 1000000) : ∀ k i : Nat, i + k = j3.length →
    L12dL w v j0 k0 j1 j2 j3 k1 k2 k3 r a0 a1 a2 a3 a4 a5 a6 a7 y z q b0 b1 b2 b3 b4 b5 b6 b7 u x (k + 1) (i : Int) = bif eqr (fun i => ieq (getI j3 i) (getI k3 i)) k i then some 1 else some 0
  | 0, i, h => by rw [L12dL, lt_f (show lenI j3 ≤ i from by unfold lenI; omega)]; rfl
  | k + 1, i, h => by
    have h1 : i < lenI j3 := by unfold lenI; omega
    have h2 : i < lenI k3 := by unfold lenI; omega
    rw [L12dL, lt_t h1, in_t h1, in_t h2, ix0, l_t h1, l_t h2, inc hs (by omega), eqr, l12d w v j0 k0 j1 j2 j3 k1 k2 k3 r a0 a1 a2 a3 a4 a5 a6 a7 y z q b0 b1 b2 b3 b4 b5 b6 b7 u x he hs k (i + 1) (by omega)]
    rw [show (ine (getI j3 i) (getI k3 i)) = notB (ieq (getI j3 i) (getI k3 i)) from rfl]
    cases ieq (getI j3 i) (getI k3 i) <;> rfl
theorem g12 (w v : Bool) (j0 k0 : List (El FF)) (j1 j2 j3 k1 k2 k3 : List Int) (r a0 a1 a2 a3 a4 a5 a6 a7 y z q b0 b1 b2 b3 b4 b5 b6 b7 u x : Int) (h0 : decide (lenR FF j0 ≤ 1000000) = true) (h1 : decide (lenI j1 ≤ 1000000) = true) (h2 : decide (lenI j2 ≤ 1000000) = true) (h3 : decide (lenI j3 ≤ 1000000) = true) : ACalls Try.prog 12 [cC r a0 a1 a2 a3 a4 a5 a6 a7 y z, cD q b0 b1 b2 b3 b4 b5 b6 b7 u x] [AObj.rows w FF j0, AObj.ints 0 w .i64 j1, AObj.ints 0 w .i64 j2, AObj.ints 0 w .u32 j3, AObj.rows v FF k0, AObj.ints 0 v .i64 k1, AObj.ints 0 v .i64 k2, AObj.ints 0 v .u32 k3] (iB (smC r a0 a1 a2 a3 a4 a5 a6 a7 y z q b0 b1 b2 b3 b4 b5 b6 b7 u x (eqF j0 k0) (eqI j1 k1) (eqI j2 k2) (eqI j3 k3))) [] [] := by
  have t3 : ∀ {m n : Nat}, ine (nlen m) (nlen n) = false → m = n := fun q => by unfold ine nlen at q; simp at q; omega
  have h := f12 w v j0 k0 j1 j2 j3 k1 k2 k3 r a0 a1 a2 a3 a4 a5 a6 a7 y z q b0 b1 b2 b3 b4 b5 b6 b7 u x (if eqr (fun i => eqE (getR FF j0 i) (getR FF k0 i)) j0.length 0 = true then 1 else 0) (j0.length + 1) (j0.length + 1) (if eqr (fun i => ieq (getI j1 i) (getI k1 i)) j1.length 0 = true then 1 else 0) (j1.length + 1) (j1.length + 1) (if eqr (fun i => ieq (getI j2 i) (getI k2 i)) j2.length 0 = true then 1 else 0) (j2.length + 1) (j2.length + 1) (if eqr (fun i => ieq (getI j3 i) (getI k3 i)) j3.length 0 = true then 1 else 0) (j3.length + 1) (j3.length + 1)
    (fun _ _ _ _ c0 c1 c2 c3 hq => by
      have hl := l12a w v j0 k0 j1 j2 j3 k1 k2 k3 r a0 a1 a2 a3 a4 a5 a6 a7 y z q b0 b1 b2 b3 b4 b5 b6 b7 u x (t3 c0) (of_decide_eq_true h0) j0.length 0 (by omega)
      rw [cls] at hq
      rw [show eqr (fun i => eqE (getR FF j0 i) (getR FF k0 i)) j0.length 0 = false from by simpa using hq] at hl
      exact hl)
    (fun _ _ _ _ c0 c1 c2 c3 hq => by
      have hl := l12a w v j0 k0 j1 j2 j3 k1 k2 k3 r a0 a1 a2 a3 a4 a5 a6 a7 y z q b0 b1 b2 b3 b4 b5 b6 b7 u x (t3 c0) (of_decide_eq_true h0) j0.length 0 (by omega)
      rw [cls] at hq
      rw [show eqr (fun i => eqE (getR FF j0 i) (getR FF k0 i)) j0.length 0 = true from by simpa using hq] at hl
      exact hl)
    (fun _ _ _ _ c0 c1 c2 c3 _ hq => by
      have hl := l12b w v j0 k0 j1 j2 j3 k1 k2 k3 r a0 a1 a2 a3 a4 a5 a6 a7 y z q b0 b1 b2 b3 b4 b5 b6 b7 u x (t3 c1) (of_decide_eq_true h1) j1.length 0 (by omega)
      rw [cls] at hq
      rw [show eqr (fun i => ieq (getI j1 i) (getI k1 i)) j1.length 0 = false from by simpa using hq] at hl
      exact hl)
    (fun _ _ _ _ c0 c1 c2 c3 _ hq => by
      have hl := l12b w v j0 k0 j1 j2 j3 k1 k2 k3 r a0 a1 a2 a3 a4 a5 a6 a7 y z q b0 b1 b2 b3 b4 b5 b6 b7 u x (t3 c1) (of_decide_eq_true h1) j1.length 0 (by omega)
      rw [cls] at hq
      rw [show eqr (fun i => ieq (getI j1 i) (getI k1 i)) j1.length 0 = true from by simpa using hq] at hl
      exact hl)
    (fun _ _ _ _ c0 c1 c2 c3 _ _ hq => by
      have hl := l12c w v j0 k0 j1 j2 j3 k1 k2 k3 r a0 a1 a2 a3 a4 a5 a6 a7 y z q b0 b1 b2 b3 b4 b5 b6 b7 u x (t3 c2) (of_decide_eq_true h2) j2.length 0 (by omega)
      rw [cls] at hq
      rw [show eqr (fun i => ieq (getI j2 i) (getI k2 i)) j2.length 0 = false from by simpa using hq] at hl
      exact hl)
    (fun _ _ _ _ c0 c1 c2 c3 _ _ hq => by
      have hl := l12c w v j0 k0 j1 j2 j3 k1 k2 k3 r a0 a1 a2 a3 a4 a5 a6 a7 y z q b0 b1 b2 b3 b4 b5 b6 b7 u x (t3 c2) (of_decide_eq_true h2) j2.length 0 (by omega)
      rw [cls] at hq
      rw [show eqr (fun i => ieq (getI j2 i) (getI k2 i)) j2.length 0 = true from by simpa using hq] at hl
      exact hl)
    (fun _ _ _ _ c0 c1 c2 c3 _ _ _ hq => by
      have hl := l12d w v j0 k0 j1 j2 j3 k1 k2 k3 r a0 a1 a2 a3 a4 a5 a6 a7 y z q b0 b1 b2 b3 b4 b5 b6 b7 u x (t3 c3) (of_decide_eq_true h3) j3.length 0 (by omega)
      rw [cls] at hq
      rw [show eqr (fun i => ieq (getI j3 i) (getI k3 i)) j3.length 0 = false from by simpa using hq] at hl
      exact hl)
    (fun _ _ _ _ c0 c1 c2 c3 _ _ _ hq => by
      have hl := l12d w v j0 k0 j1 j2 j3 k1 k2 k3 r a0 a1 a2 a3 a4 a5 a6 a7 y z q b0 b1 b2 b3 b4 b5 b6 b7 u x (t3 c3) (of_decide_eq_true h3) j3.length 0 (by omega)
      rw [cls] at hq
      rw [show eqr (fun i => ieq (getI j3 i) (getI k3 i)) j3.length 0 = true from by simpa using hq] at hl
      exact hl)
  unfold f12r0 at h
  rw [cls, cls, cls, cls] at h
  unfold smC
  unfold eqF eqI
  have t4 : ∀ m n : Nat, ine (nlen m) (nlen n) = notB (ieq (nlen m) (nlen n)) := fun _ _ => rfl
  rw [t4, t4, t4, t4] at h
  revert h
  generalize ieq (nlen (lenR FF j0)) (nlen (lenR FF k0)) = p0
  generalize ieq (nlen (lenI j1)) (nlen (lenI k1)) = p1
  generalize ieq (nlen (lenI j2)) (nlen (lenI k2)) = p2
  generalize ieq (nlen (lenI j3)) (nlen (lenI k3)) = p3
  generalize eqr (fun i => eqE (getR FF j0 i) (getR FF k0 i)) j0.length 0 = q0
  generalize eqr (fun i => ieq (getI j1 i) (getI k1 i)) j1.length 0 = q1
  generalize eqr (fun i => ieq (getI j2 i) (getI k2 i)) j2.length 0 = q2
  generalize eqr (fun i => ieq (getI j3 i) (getI k3 i)) j3.length 0 = q3
  intro h
  have e : ∀ b : Bool, (bif notB p0 then false else bif notB p1 then false else bif notB p2 then false else bif notB p3 then false else bif !decide (q0 = true) then false else bif !decide (q1 = true) then false else bif !decide (q2 = true) then false else bif !decide (q3 = true) then false else b) =
      (bif bif p0 then q0 else false then bif bif p1 then q1 else false then bif bif p2 then q2 else false then bif bif p3 then q3 else false then b else false else false else false else false) := by
    intro b
    cases p0 <;> cases p1 <;> cases p2 <;> cases p3 <;> cases q0 <;> cases q1 <;> cases q2 <;> cases q3 <;> rfl
  rw [e] at h
  have e2 : ∀ b : Bool, (bif b then true else false) = b := fun b => by cases b <;> rfl
  rw [e2] at h
  exact h
/-- bytes under way at first -/
def und (j0 : List (El FF)) : Nat → Nat → Int → Int
  | 0, _, s => s
  | k + 1, i, s => und j0 k (i + 1) (iadd .i64 s (imul .i64 (kp (getR FF j0 i).snd.1 1 65536) (kp (getR FF j0 i).snd.snd.1 1 1000)))
theorem l14 (j0 : List (El FF)) (j1 j2 j3 : List Int) (hs : j0.length ≤ 1000000) : ∀ (k i : Nat) (s : Int), i + k = j0.length → L14L j0 j1 j2 j3 (k + 1) (nlen (lenR FF j0)) s (i : Int) = some (und j0 k i s)
  | 0, i, s, h => by rw [L14L, lt_f (show lenR FF j0 ≤ i from by unfold lenR; omega)]; rfl
  | k + 1, i, s, h => by
    have h1 : i < lenR FF j0 := by unfold lenR; omega
    rw [L14L, lt_t h1, in_t h1, ix0, l_t h1, inc hs (by omega), l14 j0 j1 j2 j3 hs k (i + 1) _ (by omega)]; rfl
theorem l15 (j0 : List (El FF)) (j1 j2 j3 : List Int) (r a0 a1 a2 a3 a4 a5 a6 a7 y z : Int) (hs : j0.length ≤ 1000000) : ∀ (k i : Nat) (s : Int), i + k = j0.length → L15L j0 j1 j2 j3 r a0 a1 a2 a3 a4 a5 a6 a7 y z (k + 1) s (i : Int) = some (und j0 k i s)
  | 0, i, s, h => by rw [L15L, lt_f (show lenR FF j0 ≤ i from by unfold lenR; omega)]; rfl
  | k + 1, i, s, h => by
    have h1 : i < lenR FF j0 := by unfold lenR; omega
    rw [L15L, lt_t h1, in_t h1, ix0, l_t h1, inc hs (by omega), l15 j0 j1 j2 j3 r a0 a1 a2 a3 a4 a5 a6 a7 y z hs k (i + 1) _ (by omega)]; rfl
theorem g14 (j0 : List (El FF)) (j1 j2 j3 : List Int) (r a0 a1 a2 a3 a4 a5 a6 a7 y z : Int) (hs : decide (lenR FF j0 ≤ 1000000) = true) : ACalls Try.prog 14 [cC r a0 a1 a2 a3 a4 a5 a6 a7 y z] (hH j0 j1 j2 j3) (iI (und j0 j0.length 0 0)) [] [] := f14 j0 j1 j2 j3 r a0 a1 a2 a3 a4 a5 a6 a7 y z _ _ (l14 j0 j1 j2 j3 (of_decide_eq_true hs) j0.length 0 0 (by omega))
theorem g15 (j0 : List (El FF)) (j1 j2 j3 : List Int) (r a0 a1 a2 a3 a4 a5 a6 a7 y z : Int) (hs : decide (lenR FF j0 ≤ 1000000) = true) : ACalls Try.prog 15 [cC r a0 a1 a2 a3 a4 a5 a6 a7 y z] (hH j0 j1 j2 j3) (iI (und j0 j0.length 0 0)) [] [] := f15 j0 j1 j2 j3 r a0 a1 a2 a3 a4 a5 a6 a7 y z _ _ (l15 j0 j1 j2 j3 r a0 a1 a2 a3 a4 a5 a6 a7 y z (of_decide_eq_true hs) j0.length 0 0 (by omega))
end Go.Proofs.Ytlnmjjefjhblcaa.Cf
