import Derived.Test.YtlmnohdgfjienaaSnC
import Derived.Test.YtlmnohdgfjienaaSnB
import Derived.Test.YtlmnohdgfjienaaAbsO
import Derived.Test.YtlmnohdgfjienaaAbsWf
import Derived.Test.YtlmnohdgfjienaaSnA
set_option maxRecDepth 100000
set_option linter.all false
set_option maxHeartbeats 0
namespace Go.Proofs.Ytlmnohdgfjienaa.Cf
open Go.Abs Go.Proofs.Ytlmnohdgfjienaa.Code Go.Proofs.Ytlmnohdgfjienaa.Code
theorem icvB (x : Int) : u64B (icv .u64 x) = true := by rw [u64B_iff]; unfold icv; rw [w_u64]; omega
/-- a flow's bytes -/
def feB (E : El FF) (x : Int) : List Int := vb (icv .u64 E.1) ++ zb [E.snd.1, E.snd.snd.1, E.snd.snd.snd.1, E.snd.snd.snd.snd.1, E.snd.snd.snd.snd.snd.1, E.snd.snd.snd.snd.snd.snd.1, E.snd.snd.snd.snd.snd.snd.snd.1, E.snd.snd.snd.snd.snd.snd.snd.snd.1, E.snd.snd.snd.snd.snd.snd.snd.snd.2, x]
def flB (j0 : List (El FF)) (j1 : List Int) : Nat → Nat → List Int
  | 0, _ => []
  | k + 1, i => feB (getR FF j0 i) (getI j1 i) ++ flB j0 j1 k (i + 1)
def drB (l : List Int) : List Int := l.flatMap fun x => vb (icv .u64 x)
/-- the bytes behind the word -/
def eB0 (j0 : List (El FF)) (j1 j2 j3 : List Int) (r a0 a1 a2 a3 a4 a5 a6 a7 y z : Int) : List Int := vb (icv .u64 (nlen (lenR FF j0))) ++ flB j0 j1 j0.length 0 ++ zb [r, a0, a1, a2, a3, a4, a5, a6, a7] ++ vb (icv .u64 (nlen (lenI j2))) ++ zb j2 ++ vb (icv .u64 (nlen (lenI j3))) ++ drB j3 ++ vb (icv .u64 y) ++ zb [z]
def eB (j0 : List (El FF)) (j1 j2 j3 : List Int) (r a0 a1 a2 a3 a4 a5 a6 a7 y z : Int) : List Int := bif ine (ckE r a0 a1 a2 a3 a4 a5 a6 a7 y z (lenR FF j0) (lenI j1) (lenI j2) (lenI j3) (fb j0 j1) (pix j2)) 0 then [] else 76 :: 69 :: 65 :: 84 :: eB0 j0 j1 j2 j3 r a0 a1 a2 a3 a4 a5 a6 a7 y z
def elB (E : El FF) : Bool := [E.1, E.snd.1, E.snd.snd.1, E.snd.snd.snd.1, E.snd.snd.snd.snd.1, E.snd.snd.snd.snd.snd.1, E.snd.snd.snd.snd.snd.snd.1, E.snd.snd.snd.snd.snd.snd.snd.1, E.snd.snd.snd.snd.snd.snd.snd.snd.1, E.snd.snd.snd.snd.snd.snd.snd.snd.2].all i64B
/-- numbers in their range, and no more than the law looks at -/
def cfgB (j0 : List (El FF)) (j1 j2 j3 : List Int) (r a0 a1 a2 a3 a4 a5 a6 a7 y z : Int) : Bool := j0.all elB && j1.all i64B && j2.all i64B && [r, a0, a1, a2, a3, a4, a5, a6, a7, y, z].all i64B && decide (j0.length ≤ 300 ∧ j1.length ≤ 300 ∧ j2.length + j3.length ≤ 1000 ∧ j3.length ≤ 1000)
theorem okZ_mk {m l : List Int} (h1 : l.all i64B = true) (h2 : m.length + 10 * l.length ≤ 50000) : okZ m l = true := by
  unfold okZ; rw [h1, decide_eq_true h2]; rfl
theorem feB_len {E : El FF} {x : Int} (hE : elB E = true) (hx : i64B x = true) : (feB E x).length ≤ 110 := by
  have h1 : [E.snd.1, E.snd.snd.1, E.snd.snd.snd.1, E.snd.snd.snd.snd.1, E.snd.snd.snd.snd.snd.1, E.snd.snd.snd.snd.snd.snd.1, E.snd.snd.snd.snd.snd.snd.snd.1, E.snd.snd.snd.snd.snd.snd.snd.snd.1, E.snd.snd.snd.snd.snd.snd.snd.snd.2, x].all i64B = true := by
    simp only [elB, List.all_cons, List.all_nil, Bool.and_eq_true] at hE ⊢
    obtain ⟨_, a, b, c, d, e, f, g, h, i, _⟩ := hE
    exact ⟨a, b, c, d, e, f, g, h, i, hx, trivial⟩
  have := zb_len h1
  have := vb_len (icvB E.1)
  unfold feB; rw [List.length_append]; simp at *; omega
theorem val_all {E : El FF} {x : Int} (hE : elB E = true) (hx : i64B x = true) : [E.snd.1, E.snd.snd.1, E.snd.snd.snd.1, E.snd.snd.snd.snd.1, E.snd.snd.snd.snd.snd.1, E.snd.snd.snd.snd.snd.snd.1, E.snd.snd.snd.snd.snd.snd.snd.1, E.snd.snd.snd.snd.snd.snd.snd.snd.1, E.snd.snd.snd.snd.snd.snd.snd.snd.2, x].all i64B = true := by
  simp only [elB, List.all_cons, List.all_nil, Bool.and_eq_true] at hE ⊢
  obtain ⟨_, a, b, c, d, e, f, g, h, i, _⟩ := hE
  exact ⟨a, b, c, d, e, f, g, h, i, hx, trivial⟩
theorem flB_len {j0 : List (El FF)} {j1 : List Int} (h0 : j0.all elB = true) (h1 : j1.all i64B = true) (he : j1.length = j0.length) : ∀ k i : Nat, i + k = j0.length → (flB j0 j1 k i).length ≤ 110 * k
  | 0, i, e => by simp [flB]
  | k + 1, i, e => by
    have hi : i < j0.length := by omega
    have hi1 : i < j1.length := by omega
    have := flB_len h0 h1 he k (i + 1) (by omega)
    have g0 : getR FF j0 i = j0[i] := by unfold getR; rw [List.getD_eq_getElem?_getD, List.getElem?_eq_getElem hi]; rfl
    have g1 : getI j1 i = j1[i] := by unfold getI; rw [List.getD_eq_getElem?_getD, List.getElem?_eq_getElem hi1]; rfl
    have := feB_len (List.all_eq_true.1 h0 _ (List.getElem_mem hi)) (List.all_eq_true.1 h1 _ (List.getElem_mem hi1))
    rw [flB, List.length_append, g0, g1]; omega
theorem e8a (j0 : List (El FF)) (j1 j2 j3 : List Int) (r a0 a1 a2 a3 a4 a5 a6 a7 yy z : Int) (h0 : j0.all elB = true) (h1 : j1.all i64B = true) (he : j1.length = j0.length) (hs : j0.length ≤ 300) : ∀ (k i : Nat) (y : List Int), i + k = j0.length → y.length + 110 * k ≤ 40000 →
    L8aL j0 j1 j2 j3 r a0 a1 a2 a3 a4 a5 a6 a7 yy z (k + 1) (nlen (lenR FF j0)) y (i : Int) = some (y ++ flB j0 j1 k i)
  | 0, i, y, e, hy => by
    rw [L8aL, lt_f (show lenR FF j0 ≤ i by unfold lenR; omega)]; simp [flB]
  | k + 1, i, y, e, hy => by
    have hi : i < j0.length := by omega
    have hi1 : i < j1.length := by omega
    have g0 : getR FF j0 i = j0[i] := by unfold getR; rw [List.getD_eq_getElem?_getD, List.getElem?_eq_getElem hi]; rfl
    have g1 : getI j1 i = j1[i] := by unfold getI; rw [List.getD_eq_getElem?_getD, List.getElem?_eq_getElem hi1]; rfl
    have hE : elB (getR FF j0 i) = true := by rw [g0]; exact List.all_eq_true.1 h0 _ (List.getElem_mem hi)
    have hx : i64B (getI j1 i) = true := by rw [g1]; exact List.all_eq_true.1 h1 _ (List.getElem_mem hi1)
    have hl := feB_len hE hx
    have hv := vb_len (icvB (getR FF j0 i).1)
    have hz := okZ_mk (m := y.append (vb (icv .u64 (getR FF j0 i).1))) (val_all hE hx) (by rw [show (y.append (vb (icv .u64 (getR FF j0 i).1))).length = y.length + (vb (icv .u64 (getR FF j0 i).1)).length from List.length_append]; simp; omega)
    rw [L8aL, lt_t (show i < lenR FF j0 from hi), in_t (show i < lenR FF j0 from hi), in_t (show i < lenI j1 from hi1), ix0, l_t (show i < lenR FF j0 from hi), l_t (show i < lenI j1 from hi1), inc (show j0.length ≤ 1000000 by omega) hi, decide_eq_true (icvB _), decide_eq_true (show y.length ≤ 50000 by omega), decide_eq_true hz]
    simp only [cond_true]
    have a := e8a j0 j1 j2 j3 r a0 a1 a2 a3 a4 a5 a6 a7 yy z h0 h1 he hs k (i + 1) (y ++ feB (getR FF j0 i) (getI j1 i)) (by omega) (by rw [List.length_append]; omega)
    rw [flB, ← List.append_assoc, ← a]
    unfold feB
    rw [← List.append_assoc]
    rfl
theorem e8b (j0 : List (El FF)) (j1 j2 j3 : List Int) (r a0 a1 a2 a3 a4 a5 a6 a7 yy z : Int) (hs : j3.length ≤ 1000) : ∀ (k i : Nat) (y : List Int), i + k = j3.length → y.length + 10 * k ≤ 50000 →
    L8bL j0 j1 j2 j3 r a0 a1 a2 a3 a4 a5 a6 a7 yy z (k + 1) (nlen (lenI j3)) y (i : Int) = some (y ++ drB (j3.drop i))
  | 0, i, y, e, hy => by
    rw [L8bL, lt_f (show lenI j3 ≤ i by unfold lenI; omega), List.drop_eq_nil_of_le (by omega)]; simp [drB]
  | k + 1, i, y, e, hy => by
    have hi : i < j3.length := by omega
    have g1 : getI j3 i = j3[i] := by unfold getI; rw [List.getD_eq_getElem?_getD, List.getElem?_eq_getElem hi]; rfl
    have hv := vb_len (icvB (getI j3 i))
    rw [L8bL, lt_t (show i < lenI j3 from hi), in_t (show i < lenI j3 from hi), ix0, l_t (show i < lenI j3 from hi), inc (show j3.length ≤ 1000000 by omega) hi, decide_eq_true (icvB _), decide_eq_true (show y.length ≤ 50000 by omega)]
    simp only [cond_true]
    have a := e8b j0 j1 j2 j3 r a0 a1 a2 a3 a4 a5 a6 a7 yy z hs k (i + 1) (y ++ vb (icv .u64 (getI j3 i))) (by omega) (by rw [List.length_append]; omega)
    rw [List.drop_eq_getElem_cons hi, ← g1]
    unfold drB at a ⊢
    rw [List.flatMap_cons, ← List.append_assoc, ← a]
    rfl
theorem e9a (j0 : List (El FF)) (j1 j2 j3 : List Int) (r a0 a1 a2 a3 a4 a5 a6 a7 yy z : Int) (h0 : j0.all elB = true) (h1 : j1.all i64B = true) (he : j1.length = j0.length) (hs : j0.length ≤ 300) : ∀ (k i : Nat) (y : List Int), i + k = j0.length → y.length + 110 * k ≤ 40000 →
    L9aL j0 j1 j2 j3 r a0 a1 a2 a3 a4 a5 a6 a7 yy z (k + 1) y (i : Int) = some (y ++ flB j0 j1 k i)
  | 0, i, y, e, hy => by
    rw [L9aL, lt_f (show lenR FF j0 ≤ i by unfold lenR; omega)]; simp [flB]
  | k + 1, i, y, e, hy => by
    have hi : i < j0.length := by omega
    have hi1 : i < j1.length := by omega
    have g0 : getR FF j0 i = j0[i] := by unfold getR; rw [List.getD_eq_getElem?_getD, List.getElem?_eq_getElem hi]; rfl
    have g1 : getI j1 i = j1[i] := by unfold getI; rw [List.getD_eq_getElem?_getD, List.getElem?_eq_getElem hi1]; rfl
    have hE : elB (getR FF j0 i) = true := by rw [g0]; exact List.all_eq_true.1 h0 _ (List.getElem_mem hi)
    have hx : i64B (getI j1 i) = true := by rw [g1]; exact List.all_eq_true.1 h1 _ (List.getElem_mem hi1)
    have hl := feB_len hE hx
    have hv := vb_len (icvB (getR FF j0 i).1)
    have hz := okZ_mk (m := y.append (vb (icv .u64 (getR FF j0 i).1))) (val_all hE hx) (by rw [show (y.append (vb (icv .u64 (getR FF j0 i).1))).length = y.length + (vb (icv .u64 (getR FF j0 i).1)).length from List.length_append]; simp; omega)
    rw [L9aL, lt_t (show i < lenR FF j0 from hi), in_t (show i < lenR FF j0 from hi), in_t (show i < lenI j1 from hi1), ix0, l_t (show i < lenR FF j0 from hi), l_t (show i < lenI j1 from hi1), inc (show j0.length ≤ 1000000 by omega) hi, decide_eq_true (icvB _), decide_eq_true (show y.length ≤ 50000 by omega), decide_eq_true hz]
    simp only [cond_true]
    have a := e9a j0 j1 j2 j3 r a0 a1 a2 a3 a4 a5 a6 a7 yy z h0 h1 he hs k (i + 1) (y ++ feB (getR FF j0 i) (getI j1 i)) (by omega) (by rw [List.length_append]; omega)
    rw [flB, ← List.append_assoc, ← a]
    unfold feB
    rw [← List.append_assoc]
    rfl
theorem e9b (j0 : List (El FF)) (j1 j2 j3 : List Int) (r a0 a1 a2 a3 a4 a5 a6 a7 yy z : Int) (hs : j3.length ≤ 1000) : ∀ (k i : Nat) (y : List Int), i + k = j3.length → y.length + 10 * k ≤ 50000 →
    L9bL j0 j1 j2 j3 r a0 a1 a2 a3 a4 a5 a6 a7 yy z (k + 1) y (i : Int) = some (y ++ drB (j3.drop i))
  | 0, i, y, e, hy => by
    rw [L9bL, lt_f (show lenI j3 ≤ i by unfold lenI; omega), List.drop_eq_nil_of_le (by omega)]; simp [drB]
  | k + 1, i, y, e, hy => by
    have hi : i < j3.length := by omega
    have g1 : getI j3 i = j3[i] := by unfold getI; rw [List.getD_eq_getElem?_getD, List.getElem?_eq_getElem hi]; rfl
    have hv := vb_len (icvB (getI j3 i))
    rw [L9bL, lt_t (show i < lenI j3 from hi), in_t (show i < lenI j3 from hi), ix0, l_t (show i < lenI j3 from hi), inc (show j3.length ≤ 1000000 by omega) hi, decide_eq_true (icvB _), decide_eq_true (show y.length ≤ 50000 by omega)]
    simp only [cond_true]
    have a := e9b j0 j1 j2 j3 r a0 a1 a2 a3 a4 a5 a6 a7 yy z hs k (i + 1) (y ++ vb (icv .u64 (getI j3 i))) (by omega) (by rw [List.length_append]; omega)
    rw [List.drop_eq_getElem_cons hi, ← g1]
    unfold drB at a ⊢
    rw [List.flatMap_cons, ← List.append_assoc, ← a]
    rfl
end Go.Proofs.Ytlmnohdgfjienaa.Cf

set_option maxRecDepth 100000
set_option linter.all false
set_option maxHeartbeats 4000000
namespace Go.Proofs.Ytlmnohdgfjienaa.Cf
open Go.Abs

end Go.Proofs.Ytlmnohdgfjienaa.Cf

set_option maxRecDepth 100000
set_option linter.all false
set_option maxHeartbeats 4000000
set_option linter.unusedSimpArgs false
set_option linter.unusedVariables false
namespace Go.Proofs.Ytlmnohdgfjienaa.Cf
open Go.Abs
/-- two flows are one -/
@[reducible] def eqE (a b : El FF) : Bool := andB (ieq a.1 b.1) (andB (ieq a.snd.1 b.snd.1) (andB (ieq a.snd.snd.1 b.snd.snd.1) (andB (ieq a.snd.snd.snd.1 b.snd.snd.snd.1) (andB (ieq a.snd.snd.snd.snd.1 b.snd.snd.snd.snd.1) (andB (ieq a.snd.snd.snd.snd.snd.1 b.snd.snd.snd.snd.snd.1) (andB (ieq a.snd.snd.snd.snd.snd.snd.1 b.snd.snd.snd.snd.snd.snd.1) (andB (ieq a.snd.snd.snd.snd.snd.snd.snd.1 b.snd.snd.snd.snd.snd.snd.snd.1) (andB (ieq a.snd.snd.snd.snd.snd.snd.snd.snd.1 b.snd.snd.snd.snd.snd.snd.snd.snd.1) (ieq a.snd.snd.snd.snd.snd.snd.snd.snd.2 b.snd.snd.snd.snd.snd.snd.snd.snd.2)))))))))
end Go.Proofs.Ytlmnohdgfjienaa.Cf

set_option maxRecDepth 100000
set_option linter.all false
set_option maxHeartbeats 4000000
namespace Go.Proofs.Ytlmnohdgfjienaa.Cf
open Go.Abs
theorem eqE_iff (a b : El FF) : eqE a b = true ↔ a = b := by
  obtain ⟨a0, a1, a2, a3, a4, a5, a6, a7, a8, a9⟩ := a
  obtain ⟨b0, b1, b2, b3, b4, b5, b6, b7, b8, b9⟩ := b
  simp [eqE, andB, ieq]
theorem sF_iff (E : El FF) : sF E = true ↔ lF E = E := by
  have : sF E = eqE E (lF E) := rfl
  rw [this, eqE_iff]; exact eq_comm
theorem bfr_iff (j0 : List (El FF)) (j1 : List Int) : ∀ k i, bfr j0 j1 k i = 0 ↔ ∀ j, i ≤ j → j < i + k → bad j0 j1 j = false
  | 0, i => by simp [bfr]; intro j h1 h2; omega
  | k + 1, i => by
    rw [bfr]
    cases hp : bad j0 j1 i with
    | false =>
      rw [cond_false, bfr_iff j0 j1 k (i + 1)]
      exact ⟨fun h j h1 h2 => by
        rcases Nat.eq_or_lt_of_le h1 with rfl | h3
        · exact hp
        · exact h j h3 (by omega), fun h j h1 h2 => h j (by omega) (by omega)⟩
    | true =>
      rw [cond_true]
      refine ⟨fun h => by omega, fun h => ?_⟩
      have := h i (Nat.le_refl _) (by omega)
      rw [hp] at this; simp at this
theorem bad_f (j0 : List (El FF)) (j1 : List Int) (i : Nat) : bad j0 j1 i = false ↔ lF (getR FF j0 i) = getR FF j0 i ∧ wt (getI j1 i) 1 1073741824 = true := by
  rw [← sF_iff]; unfold bad notB
  cases sF (getR FF j0 i) <;> cases wt (getI j1 i) 1 1073741824 <;> simp
theorem ckE_iff (r a0 a1 a2 a3 a4 a5 a6 a7 y z : Int) (n0 n1 n2 n3 : Nat) (f p : Int) : ckE r a0 a1 a2 a3 a4 a5 a6 a7 y z n0 n1 n2 n3 f p = 0 ↔
    (n0 ≠ 0 ∧ n0 ≤ 256 ∧ n1 = n0 ∧ f = 0 ∧ wt r 1 1099511627776 = true ∧ sA a0 a1 a2 a3 a4 a5 a6 a7 = true ∧ n2 ≤ 4096 ∧ p = -1 ∧ n3 ≤ 4096 ∧ wt y 0 1000 = true ∧ wt z 0 1099511627776 = true) := by
  have e1 : ieq (nlen n0) 0 = decide (n0 = 0) := by unfold ieq nlen; by_cases h : n0 = 0 <;> simp [h]
  have e2 : ∀ (a : Int) (b n : Nat), a = (b : Int) → ilt a (nlen n) = decide (b < n) := fun a b n h => by subst h; unfold ilt nlen; by_cases q : b < n <;> simp [q]
  have e3 : ine (nlen n1) (nlen n0) = !decide (n1 = n0) := by unfold ine nlen; by_cases h : n1 = n0 <;> simp [h]; omega
  have e4 : ieq f 0 = decide (f = 0) := by unfold ieq; by_cases h : f = 0 <;> simp [h]
  have e5 : ieq p (-1) = decide (p = -1) := by unfold ieq; by_cases h : p = -1 <;> simp [h]
  unfold ckE
  rw [e1, e2 256 256 n0 rfl, e2 4096 4096 n2 rfl, e2 4096 4096 n3 rfl, e3, e4, e5]
  unfold notB
  by_cases c1 : n0 = 0
  · simp [c1]
  by_cases c2 : 256 < n0
  · simp [c1, c2]; omega
  by_cases c3 : n1 = n0
  rotate_left
  · simp [c1, c2, c3]
  by_cases c4 : f = 0
  rotate_left
  · simp [c1, c2, c3, c4]
  cases c5 : wt r 1 1099511627776
  · simp [c1, c2, c3, c4]
  cases c6 : sA a0 a1 a2 a3 a4 a5 a6 a7
  · simp [c1, c2, c3, c4]
  by_cases c7 : 4096 < n2
  · simp [c1, c2, c3, c4, c7]; omega
  by_cases c8 : p = -1
  rotate_left
  · simp [c1, c2, c3, c4, c7, c8]
  by_cases c9 : 4096 < n3
  · simp [c1, c2, c3, c4, c7, c8, c9]; omega
  cases c10 : wt y 0 1000
  · simp [c1, c2, c3, c4, c7, c8, c9]
  cases c11 : wt z 0 1099511627776
  · simp [c1, c2, c3, c4, c7, c8, c9]
  · simp [c1, c2, c3, c4, c7, c8, c9]; omega
end Go.Proofs.Ytlmnohdgfjienaa.Cf

set_option maxRecDepth 100000
set_option linter.all false
set_option maxHeartbeats 0
namespace Go.Proofs.Ytlmnohdgfjienaa.Cf
open Go.Abs Go.Proofs.Ytlmnohdgfjienaa.Code Go.Proofs.Ytlmnohdgfjienaa.Code
theorem drB_len : ∀ l : List Int, (drB l).length ≤ 10 * l.length
  | [] => by simp [drB]
  | x :: l => by
    have h1 := vb_len (icvB x)
    have h2 := drB_len l
    have h3 : drB (x :: l) = vb (icv .u64 x) ++ drB l := rfl
    rw [h3, List.length_append, List.length_cons]; omega
theorem ck_len (j0 : List (El FF)) (j1 j2 j3 : List Int) (r a0 a1 a2 a3 a4 a5 a6 a7 y z : Int) (h : ckE r a0 a1 a2 a3 a4 a5 a6 a7 y z (lenR FF j0) (lenI j1) (lenI j2) (lenI j3) (fb j0 j1) (pix j2) = 0) : j1.length = j0.length :=
  ((ckE_iff r a0 a1 a2 a3 a4 a5 a6 a7 y z _ _ _ _ _ _).1 h).2.2.1
theorem g8 (j0 : List (El FF)) (j1 j2 j3 : List Int) (r a0 a1 a2 a3 a4 a5 a6 a7 y z : Int) (hB : cfgB j0 j1 j2 j3 r a0 a1 a2 a3 a4 a5 a6 a7 y z = true) : ACalls Try.prog 8 [cC r a0 a1 a2 a3 a4 a5 a6 a7 y z] (hH j0 j1 j2 j3) (AV.tup [AV.sw 4 1, iI (ckE r a0 a1 a2 a3 a4 a5 a6 a7 y z (lenR FF j0) (lenI j1) (lenI j2) (lenI j3) (fb j0 j1) (pix j2))]) [] [AObj.ints 0 true .u8 (eB j0 j1 j2 j3 r a0 a1 a2 a3 a4 a5 a6 a7 y z)] := by
  unfold cfgB at hB
  simp only [Bool.and_eq_true, decide_eq_true_eq] at hB
  obtain ⟨⟨⟨⟨b0, b1⟩, b2⟩, b3⟩, s0, s1, s2, s3⟩ := hB
  cases hc : ine (ckE r a0 a1 a2 a3 a4 a5 a6 a7 y z (lenR FF j0) (lenI j1) (lenI j2) (lenI j3) (fb j0 j1) (pix j2)) 0 with
  | true =>
    have hh := f8_1 j0 j1 j2 j3 r a0 a1 a2 a3 a4 a5 a6 a7 y z hc
    unfold eB; rw [hc]; exact hh
  | false =>
    have hk : ckE r a0 a1 a2 a3 a4 a5 a6 a7 y z (lenR FF j0) (lenI j1) (lenI j2) (lenI j3) (fb j0 j1) (pix j2) = 0 := by unfold ine at hc; simpa using hc
    have he : j1.length = j0.length := ck_len j0 j1 j2 j3 r a0 a1 a2 a3 a4 a5 a6 a7 y z hk
    simp only [List.all_cons, List.all_nil, Bool.and_eq_true] at b3
    obtain ⟨c0, c1, c2, c3, c4, c5, c6, c7, c8, c9, c10, -⟩ := b3
    have hA : [r, a0, a1, a2, a3, a4, a5, a6, a7].all i64B = true := by simp [c0, c1, c2, c3, c4, c5, c6, c7, c8]
    have hZ : [z].all i64B = true := by simp [c10]
    have v0 := vb_len (icvB (nlen (lenR FF j0)))
    have v2 := vb_len (icvB (nlen (lenI j2)))
    have v3 := vb_len (icvB (nlen (lenI j3)))
    have vy := vb_len (icvB y)
    have zA := zb_len hA
    have z2 := zb_len b2
    have zZ := zb_len hZ
    have fl := flB_len b0 b1 he j0.length 0 (by omega)
    simp only [List.length_cons, List.length_nil] at zA zZ
    have ka := e8a j0 j1 j2 j3 r a0 a1 a2 a3 a4 a5 a6 a7 y z b0 b1 he s0 j0.length 0 (76 :: 69 :: 65 :: 84 :: vb (icv .u64 (nlen (lenR FF j0)))) (by omega) (by simp only [List.length_cons]; omega)
    have kb := e8b j0 j1 j2 j3 r a0 a1 a2 a3 a4 a5 a6 a7 y z s3 j3.length 0 ((((((76 :: 69 :: 65 :: 84 :: vb (icv .u64 (nlen (lenR FF j0)))) ++ flB j0 j1 j0.length 0).append (zb [r, a0, a1, a2, a3, a4, a5, a6, a7])).append (vb (icv .u64 (nlen (lenI j2))))).append (zb j2)).append (vb (icv .u64 (nlen (lenI j3))))) (by omega) (by simp only [List.append_eq, List.length_append, List.length_cons]; omega)
    have hd := drB_len j3
    have hh := f8_2 j0 j1 j2 j3 r a0 a1 a2 a3 a4 a5 a6 a7 y z (d0 := hc) (v0h0 := fun _ => ka) (v1h0 := fun _ => kb) (s0 := fun _ => icvB _) (s2 := fun _ => icvB _) (s5 := fun _ => icvB _) (s7 := fun _ => icvB _) (s1 := fun _ => okZ_mk hA (by simp only [List.append_eq, List.length_append, List.length_cons, List.length_nil, List.drop_zero] at *; omega)) (s3 := fun _ => by simp only [List.append_eq, List.length_append, List.length_cons, List.length_nil, List.drop_zero] at *; omega) (s4 := fun _ => okZ_mk b2 (by simp only [List.append_eq, List.length_append, List.length_cons, List.length_nil, List.drop_zero] at *; omega)) (s6 := fun _ => by simp only [List.append_eq, List.length_append, List.length_cons, List.length_nil, List.drop_zero] at *; omega) (s8 := fun _ => by simp only [List.append_eq, List.length_append, List.length_cons, List.length_nil, List.drop_zero] at *; omega) (s9 := fun _ => okZ_mk hZ (by simp only [List.append_eq, List.length_append, List.length_cons, List.length_nil, List.drop_zero] at *; omega))
    rw [hk] 
    unfold eB eB0; rw [hc]
    simp only [cond_false]
    simp only [List.drop_zero, List.append_eq, List.cons_append, List.append_assoc] at hh ⊢
    exact hh
theorem g9 (j0 : List (El FF)) (j1 j2 j3 : List Int) (r a0 a1 a2 a3 a4 a5 a6 a7 y z : Int) (hB : cfgB j0 j1 j2 j3 r a0 a1 a2 a3 a4 a5 a6 a7 y z = true) : ACalls Try.prog 9 [cC r a0 a1 a2 a3 a4 a5 a6 a7 y z] (hH j0 j1 j2 j3) (AV.tup [AV.sw 4 1, iI (ckE r a0 a1 a2 a3 a4 a5 a6 a7 y z (lenR FF j0) (lenI j1) (lenI j2) (lenI j3) (fb j0 j1) (pix j2))]) [] [AObj.ints 0 true .u8 (eB j0 j1 j2 j3 r a0 a1 a2 a3 a4 a5 a6 a7 y z)] := by
  unfold cfgB at hB
  simp only [Bool.and_eq_true, decide_eq_true_eq] at hB
  obtain ⟨⟨⟨⟨b0, b1⟩, b2⟩, b3⟩, s0, s1, s2, s3⟩ := hB
  cases hc : ine (ckE r a0 a1 a2 a3 a4 a5 a6 a7 y z (lenR FF j0) (lenI j1) (lenI j2) (lenI j3) (fb j0 j1) (pix j2)) 0 with
  | true =>
    have hh := f9_1 j0 j1 j2 j3 r a0 a1 a2 a3 a4 a5 a6 a7 y z hc
    unfold eB; rw [hc]; exact hh
  | false =>
    have hk : ckE r a0 a1 a2 a3 a4 a5 a6 a7 y z (lenR FF j0) (lenI j1) (lenI j2) (lenI j3) (fb j0 j1) (pix j2) = 0 := by unfold ine at hc; simpa using hc
    have he : j1.length = j0.length := ck_len j0 j1 j2 j3 r a0 a1 a2 a3 a4 a5 a6 a7 y z hk
    simp only [List.all_cons, List.all_nil, Bool.and_eq_true] at b3
    obtain ⟨c0, c1, c2, c3, c4, c5, c6, c7, c8, c9, c10, -⟩ := b3
    have hA : [r, a0, a1, a2, a3, a4, a5, a6, a7].all i64B = true := by simp [c0, c1, c2, c3, c4, c5, c6, c7, c8]
    have hZ : [z].all i64B = true := by simp [c10]
    have v0 := vb_len (icvB (nlen (lenR FF j0)))
    have v2 := vb_len (icvB (nlen (lenI j2)))
    have v3 := vb_len (icvB (nlen (lenI j3)))
    have vy := vb_len (icvB y)
    have zA := zb_len hA
    have z2 := zb_len b2
    have zZ := zb_len hZ
    have fl := flB_len b0 b1 he j0.length 0 (by omega)
    simp only [List.length_cons, List.length_nil] at zA zZ
    have ka := e9a j0 j1 j2 j3 r a0 a1 a2 a3 a4 a5 a6 a7 y z b0 b1 he s0 j0.length 0 (76 :: 69 :: 65 :: 84 :: vb (icv .u64 (nlen (lenR FF j0)))) (by omega) (by simp only [List.length_cons]; omega)
    have kb := e9b j0 j1 j2 j3 r a0 a1 a2 a3 a4 a5 a6 a7 y z s3 j3.length 0 ((((((76 :: 69 :: 65 :: 84 :: vb (icv .u64 (nlen (lenR FF j0)))) ++ flB j0 j1 j0.length 0).append (zb [r, a0, a1, a2, a3, a4, a5, a6, a7])).append (vb (icv .u64 (nlen (lenI j2))))).append (zb j2)).append (vb (icv .u64 (nlen (lenI j3))))) (by omega) (by simp only [List.append_eq, List.length_append, List.length_cons]; omega)
    have hd := drB_len j3
    have hh := f9_2 j0 j1 j2 j3 r a0 a1 a2 a3 a4 a5 a6 a7 y z (d0 := hc) (v0h0 := fun _ => ka) (v1h0 := fun _ => kb) (s0 := fun _ => icvB _) (s2 := fun _ => icvB _) (s5 := fun _ => icvB _) (s7 := fun _ => icvB _) (s1 := fun _ => okZ_mk hA (by simp only [List.append_eq, List.length_append, List.length_cons, List.length_nil, List.drop_zero] at *; omega)) (s3 := fun _ => by simp only [List.append_eq, List.length_append, List.length_cons, List.length_nil, List.drop_zero] at *; omega) (s4 := fun _ => okZ_mk b2 (by simp only [List.append_eq, List.length_append, List.length_cons, List.length_nil, List.drop_zero] at *; omega)) (s6 := fun _ => by simp only [List.append_eq, List.length_append, List.length_cons, List.length_nil, List.drop_zero] at *; omega) (s8 := fun _ => by simp only [List.append_eq, List.length_append, List.length_cons, List.length_nil, List.drop_zero] at *; omega) (s9 := fun _ => okZ_mk hZ (by simp only [List.append_eq, List.length_append, List.length_cons, List.length_nil, List.drop_zero] at *; omega))
    rw [hk] 
    unfold eB eB0; rw [hc]
    simp only [cond_false]
    simp only [List.drop_zero, List.append_eq, List.cons_append, List.append_assoc] at hh ⊢
    exact hh
end Go.Proofs.Ytlmnohdgfjienaa.Cf

set_option maxRecDepth 100000
set_option linter.all false
set_option maxHeartbeats 0
namespace Go.Proofs.Ytlmnohdgfjienaa.Cf
open Go.Abs Go.Proofs.Ytlmnohdgfjienaa.Code Go.Proofs.Ytlmnohdgfjienaa.Code
/-- a reader is where this stands -/
structure At (M : List Int) (a : Int) (rest : List Int) : Prop where
  ok : okC M a = true
  at_ : M.drop a.toNat = rest
theorem at_up {M rest : List Int} {a y x : Int} (h : At M a (vb y ++ rest)) (hu : u64B y = true) (hx : y ≤ x) : upV M a 0 x = y ∧ upR M a 0 x = 0 ∧ At M (upA M a 0 x) rest := by
  have hn := num0_vb rest hu h.at_
  have ho := (okC_iff.1 h.ok).1
  have hk : upOk M a 0 x = true := by unfold upOk; rw [hn]; exact decide_eq_true ⟨rfl, rfl, hx⟩
  refine ⟨by unfold upV; rw [hk, hn]; rfl, by unfold upR; rw [hn]; simp [hx], ⟨upA_ok _ _ h.ok, ?_⟩⟩
  unfold upA; rw [hk, hn]
  simp only [cond_true]
  rw [show (a + ((vb y).length : Int)).toNat = a.toNat + (vb y).length by omega, ← List.drop_drop, h.at_]
  simp
theorem at_st {M rest : List Int} {a : Int} (l : List Int) (hl : l.all i64B = true) (h : At M a (zb l ++ rest)) : ∀ i, i ≤ l.length → stR M a 0 i = 0 ∧ At M (stA M a 0 i) (zb (l.drop i) ++ rest)
  | 0, _ => ⟨rfl, h⟩
  | i + 1, hi => by
    obtain ⟨h1, h2⟩ := at_st l hl h i (by omega)
    have hx : i64B l[i] = true := List.all_eq_true.1 hl _ (List.getElem_mem (by omega))
    rw [List.drop_eq_getElem_cons (show i < l.length by omega), zb_cons, List.append_assoc] at h2
    obtain ⟨k1, k2, k3⟩ := at_up h2 (zzB hx) (x := 18446744073709551615) (by have := u64B_iff.1 (zzB hx); omega)
    have e1 : stR M a 0 (i + 1) = upR M (stA M a 0 i) (stR M a 0 i) 18446744073709551615 := rfl
    have e2 : stA M a 0 (i + 1) = upA M (stA M a 0 i) (stR M a 0 i) 18446744073709551615 := rfl
    rw [e1, e2, h1]
    exact ⟨k2, k3⟩
theorem at_sv {M rest : List Int} {a : Int} (l : List Int) (hl : l.all i64B = true) (h : At M a (zb l ++ rest)) {i : Nat} (hi : i < l.length) : stV M a 0 i = l[i] := by
  obtain ⟨h1, h2⟩ := at_st l hl h i (by omega)
  have hx : i64B l[i] = true := List.all_eq_true.1 hl _ (List.getElem_mem hi)
  rw [List.drop_eq_getElem_cons hi, zb_cons, List.append_assoc] at h2
  obtain ⟨k1, -, -⟩ := at_up h2 (zzB hx) (x := 18446744073709551615) (by have := u64B_iff.1 (zzB hx); omega)
  unfold stV; rw [h1, k1]; exact uz_zz
theorem icv_i64 {x : Int} (h : -9223372036854775808 ≤ x ∧ x ≤ 9223372036854775807) : icv .i64 x = x := by unfold icv; exact w_i64_in h
theorem icv_u64 {x : Int} (h : 0 ≤ x ∧ x ≤ 18446744073709551615) : icv .u64 x = x := by unfold icv; exact w_u64_in h
/-- a flow that is let be -/
theorem kind_in {E : El FF} {x : Int} (hx : x = E.1) (h : lF E = E) : 0 ≤ x ∧ x ≤ 2 := by
  have : kp E.1 0 2 = E.1 := congrArg Prod.fst h
  rw [hx, ← this]; exact kp_lo _ (by decide)
theorem at_fl (j0 : List (El FF)) (j1 : List Int) {M rest : List Int} (h0 : j0.all elB = true) (h1 : j1.all i64B = true) (he : j1.length = j0.length) (hk : ∀ i, i < j0.length → lF (getR FF j0 i) = getR FF j0 i) :
    ∀ (k i : Nat) (a : Int), i + k = j0.length → At M a (flB j0 j1 k i ++ rest) → (frD M k a 0).2.1 = 0 ∧ (frD M k a 0).2.2.1 = j0.drop i ∧ (frD M k a 0).2.2.2 = j1.drop i ∧ At M (frD M k a 0).1 rest
  | 0, i, a, e, h => by
    rw [List.drop_eq_nil_of_le (show j0.length ≤ i by omega), List.drop_eq_nil_of_le (show j1.length ≤ i by omega)]
    exact ⟨rfl, rfl, rfl, h⟩
  | k + 1, i, a, e, h => by
    have hi : i < j0.length := by omega
    have hi1 : i < j1.length := by omega
    have g0 : getR FF j0 i = j0[i] := by unfold getR; rw [List.getD_eq_getElem?_getD, List.getElem?_eq_getElem hi]; rfl
    have g1 : getI j1 i = j1[i] := by unfold getI; rw [List.getD_eq_getElem?_getD, List.getElem?_eq_getElem hi1]; rfl
    have hE : elB (getR FF j0 i) = true := by rw [g0]; exact List.all_eq_true.1 h0 _ (List.getElem_mem hi)
    have hx : i64B (getI j1 i) = true := by rw [g1]; exact List.all_eq_true.1 h1 _ (List.getElem_mem hi1)
    have hkd := kind_in (x := (getR FF j0 i).1) rfl (hk i hi)
    rw [flB, feB, List.append_assoc, List.append_assoc] at h
    obtain ⟨u1, u2, u3⟩ := at_up h (icvB _) (x := 2) (by rw [icv_u64 (by omega)]; omega)
    have hv := val_all hE hx
    generalize hG : getR FF j0 i = E at *
    generalize hX : getI j1 i = x at *
    have s0 := at_st _ hv u3 10 (by simp)
    have q := fun (n : Nat) (hn : n < 10) => at_sv _ hv u3 (i := n) (by simpa using hn)
    have eE : fE M a 0 = E := by
      unfold fE
      rw [u2, u1, q 0 (by omega), q 1 (by omega), q 2 (by omega), q 3 (by omega), q 4 (by omega), q 5 (by omega), q 6 (by omega), q 7 (by omega), q 8 (by omega), icv_u64 (by omega), icv_i64 (by omega)]
      rfl
    have eX : fX M a 0 = x := by unfold fX; rw [u2, q 9 (by omega)]; rfl
    have eR : fR M a 0 = 0 := by unfold fR; rw [u2]; exact s0.1
    have eA : At M (fA M a 0) (flB j0 j1 k (i + 1) ++ rest) := by
      unfold fA; rw [u2]
      have := s0.2
      simpa [zb] using this
    obtain ⟨w1, w2, w3, w4⟩ := at_fl j0 j1 h0 h1 he hk k (i + 1) (fA M a 0) (by omega) eA
    rw [frD, if_neg (by omega), eR, eE, eX]
    refine ⟨w1, ?_, ?_, w4⟩
    · rw [List.drop_eq_getElem_cons hi, ← g0]; exact congrArg _ w2
    · rw [List.drop_eq_getElem_cons hi1, ← g1]; exact congrArg _ w3
theorem at_pl {M rest : List Int} : ∀ (l : List Int) (a : Int), l.all i64B = true → At M a (zb l ++ rest) → (plD M l.length a 0).2.1 = 0 ∧ (plD M l.length a 0).2.2 = l ∧ At M (plD M l.length a 0).1 rest ∧ plS M l.length a 0 = false
  | [], a, hl, h => ⟨rfl, rfl, h, rfl⟩
  | x :: l, a, hl, h => by
    have s := at_st (x :: l) hl h 1 (by simp)
    have v := at_sv (x :: l) hl h (i := 0) (by simp)
    simp only [List.all_cons, Bool.and_eq_true] at hl
    obtain ⟨w1, w2, w3, w4⟩ := at_pl l (stA M a 0 1) hl.2 s.2
    rw [List.length_cons, plD, if_neg (by omega), plS, if_neg (by omega), s.1]
    exact ⟨w1, by rw [v]; exact congrArg _ w2, w3, w4⟩
def u32B (x : Int) : Bool := decide (0 ≤ x ∧ x ≤ 4294967295)
theorem at_dr {M rest : List Int} : ∀ (l : List Int) (a : Int), l.all u32B = true → At M a (drB l ++ rest) → (drD M l.length a 0).2.1 = 0 ∧ (drD M l.length a 0).2.2 = l ∧ At M (drD M l.length a 0).1 rest ∧ drS M l.length a 0 = false
  | [], a, hl, h => ⟨rfl, rfl, h, rfl⟩
  | x :: l, a, hl, h => by
    simp only [List.all_cons, Bool.and_eq_true] at hl
    have hx := of_decide_eq_true hl.1
    have e : drB (x :: l) = vb (icv .u64 x) ++ drB l := rfl
    rw [e, List.append_assoc] at h
    obtain ⟨u1, u2, u3⟩ := at_up h (icvB _) (x := 4294967295) (by rw [icv_u64 (by omega)]; omega)
    obtain ⟨w1, w2, w3, w4⟩ := at_dr l _ hl.2 u3
    rw [List.length_cons, drD, if_neg (by omega), drS, if_neg (by omega), u2]
    refine ⟨w1, ?_, w3, w4⟩
    rw [u1, icv_u64 (by omega), show icv .u32 x = x from by unfold icv; rw [w_u32]; omega]
    exact congrArg _ w2
theorem eB_by (j0 : List (El FF)) (j1 j2 j3 : List Int) (r a0 a1 a2 a3 a4 a5 a6 a7 y z : Int) (hB : cfgB j0 j1 j2 j3 r a0 a1 a2 a3 a4 a5 a6 a7 y z = true) (he : j1.length = j0.length) : byB (eB0 j0 j1 j2 j3 r a0 a1 a2 a3 a4 a5 a6 a7 y z) = true := by
  unfold cfgB at hB
  simp only [Bool.and_eq_true, decide_eq_true_eq] at hB
  obtain ⟨⟨⟨⟨b0, b1⟩, b2⟩, b3⟩, -⟩ := hB
  have v : ∀ x, byB (vb (icv .u64 x)) = true := fun x => vb_by _ _ (Nat.le_refl _) (by have := u64B_iff.1 (icvB x); omega)
  have zv : ∀ l : List Int, l.all i64B = true → byB (zb l) = true := by
    intro l hl
    induction l with
    | nil => rfl
    | cons x l ih =>
      simp only [List.all_cons, Bool.and_eq_true] at hl
      rw [zb_cons]; exact byB_app (vb_by _ _ (Nat.le_refl _) (by have := u64B_iff.1 (zzB hl.1); omega)) (ih hl.2)
  have dv : ∀ l : List Int, byB (drB l) = true := by
    intro l
    induction l with
    | nil => rfl
    | cons x l ih => exact byB_app (v x) ih
  have fv : ∀ k i, i + k = j0.length → byB (flB j0 j1 k i) = true := by
    intro k
    induction k with
    | zero => intro i e; rfl
    | succ k ih =>
      intro i e
      have hi : i < j0.length := by omega
      have hi1 : i < j1.length := by omega
      have g0 : getR FF j0 i = j0[i] := by unfold getR; rw [List.getD_eq_getElem?_getD, List.getElem?_eq_getElem hi]; rfl
      have g1 : getI j1 i = j1[i] := by unfold getI; rw [List.getD_eq_getElem?_getD, List.getElem?_eq_getElem hi1]; rfl
      rw [flB, feB]
      refine byB_app (byB_app (v _) (zv _ (val_all ?_ ?_))) (ih (i + 1) (by omega))
      · rw [g0]; exact List.all_eq_true.1 b0 _ (List.getElem_mem hi)
      · rw [g1]; exact List.all_eq_true.1 b1 _ (List.getElem_mem hi1)
  simp only [List.all_cons, List.all_nil, Bool.and_eq_true] at b3
  obtain ⟨c0, c1, c2, c3, c4, c5, c6, c7, c8, c9, c10, -⟩ := b3
  unfold eB0
  exact byB_app (byB_app (byB_app (byB_app (byB_app (byB_app (byB_app (byB_app (v _) (fv _ _ (by omega))) (zv _ (by simp [c0, c1, c2, c3, c4, c5, c6, c7, c8]))) (v _)) (zv _ b2)) (v _)) (dv _)) (v _)) (zv _ (by simp [c10]))
end Go.Proofs.Ytlmnohdgfjienaa.Cf

set_option maxRecDepth 100000
set_option linter.all false
set_option maxHeartbeats 0
namespace Go.Proofs.Ytlmnohdgfjienaa.Cf
open Go.Abs Go.Proofs.Ytlmnohdgfjienaa.Code Go.Proofs.Ytlmnohdgfjienaa.Code
/-- from a to b the bytes of m are l -/
def Seg (m : List Int) (a b : Int) (l : List Int) : Prop := 0 ≤ a ∧ b = a + (l.length : Int) ∧ m.drop a.toNat = l ++ m.drop b.toNat
theorem Seg.nil {m : List Int} {a : Int} (h : 0 ≤ a) : Seg m a a [] := ⟨h, by simp, by simp⟩
theorem Seg.trans {m : List Int} {a b c : Int} {l k : List Int} (h1 : Seg m a b l) (h2 : Seg m b c k) : Seg m a c (l ++ k) := by
  obtain ⟨a1, a2, a3⟩ := h1
  obtain ⟨b1, b2, b3⟩ := h2
  exact ⟨a1, by rw [b2, a2, List.length_append]; push_cast; omega, by rw [a3, b3, List.append_assoc]⟩
theorem Seg.of {m : List Int} {a : Int} {l rest : List Int} (ha : 0 ≤ a) (h : m.drop a.toNat = l ++ rest) : Seg m a (a + (l.length : Int)) l := by
  refine ⟨ha, rfl, ?_⟩
  rw [show (a + (l.length : Int)).toNat = a.toNat + l.length by omega, ← List.drop_drop, h, List.drop_left]
theorem up_seg {m : List Int} {a r x : Int} (hb : byB m = true) (ha : 0 ≤ a) (h : upR m a r x = 0) :
    r = 0 ∧ 0 ≤ upV m a r x ∧ upV m a r x ≤ x ∧ Seg m a (upA m a r x) (vb (upV m a r x)) := by
  unfold upR at h
  by_cases h1 : r = 0
  rotate_left
  · rw [if_pos h1] at h; exact absurd h h1
  rw [if_neg (fun q => q h1)] at h
  by_cases h2 : (num0 m a).2.2 = 0
  rotate_left
  · rw [if_pos h2] at h; exact absurd h h2
  rw [if_neg (fun q => q h2)] at h
  by_cases h3 : (num0 m a).1 ≤ x
  rotate_left
  · rw [if_neg h3] at h; exact absurd h (by decide)
  have ok : upOk m a r x = true := decide_eq_true ⟨h1, h2, h3⟩
  obtain ⟨rest, y0, e1, e2⟩ := num0_inv (m := m) (a := a) (y := (num0 m a).1) (n := (num0 m a).2.1) hb (by rw [← h2])
  unfold upV upA
  rw [ok]
  refine ⟨h1, y0, h3, ?_⟩
  simp only [cond_true]
  rw [e2]
  exact Seg.of ha e1
theorem zz_uz {x : Int} (h : 0 ≤ x) : zz (uz x) = x := by unfold zz uz; split <;> split <;> omega
theorem st_seg {m : List Int} {a r : Int} (hb : byB m = true) (ha : 0 ≤ a) : ∀ n, stR m a r n = 0 → r = 0 ∧ 0 ≤ stA m a r n ∧ Seg m a (stA m a r n) (zb (sgL m a r n))
  | 0, h => ⟨h, ha, Seg.nil ha⟩
  | n + 1, h => by
    have e1 : stR m a r (n + 1) = upR m (stA m a r n) (stR m a r n) 18446744073709551615 := rfl
    have e2 : stA m a r (n + 1) = upA m (stA m a r n) (stR m a r n) 18446744073709551615 := rfl
    rw [e1] at h
    have h0 : stR m a r n = 0 := by
      unfold upR at h
      by_cases q : stR m a r n = 0
      · exact q
      · rw [if_pos q] at h; exact absurd h q
    obtain ⟨k1, k2, k3⟩ := st_seg hb ha n h0
    obtain ⟨-, p1, p2, p3⟩ := up_seg hb k2 h
    rw [e2]
    refine ⟨k1, ?_, ?_⟩
    · obtain ⟨b1, b2, -⟩ := p3
      rw [b2]; omega
    · have e3 : zb (sgL m a r (n + 1)) = zb (sgL m a r n) ++ vb (upV m (stA m a r n) (stR m a r n) 18446744073709551615) := by
        unfold sgL zb
        rw [List.range'_concat, List.map_append, List.flatMap_append]
        simp only [Nat.one_mul, Nat.zero_add, List.map_cons, List.map_nil, List.flatMap_cons, List.flatMap_nil, List.append_nil]
        congr 2
        show zz (uz _) = _
        exact zz_uz p1
      rw [e3]
      exact k3.trans p3
theorem dr_seg {m : List Int} (hb : byB m = true) : ∀ (k : Nat) (a r : Int), 0 ≤ a → (drD m k a r).2.1 = 0 → (drD m k a r).2.2.length = k ∧ r = 0 ∧ Seg m a (drD m k a r).1 (drB (drD m k a r).2.2)
  | 0, a, r, ha, h => ⟨rfl, h, Seg.nil ha⟩
  | k + 1, a, r, ha, h => by
    rw [drD] at h ⊢
    by_cases hr : r = 0
    rotate_left
    · rw [if_pos hr] at h; exact absurd h hr
    rw [if_neg (fun q => q hr)] at h ⊢
    have ha' : 0 ≤ upA m a r 4294967295 := by
      unfold upA
      cases hu : upOk m a r 4294967295
      · exact ha
      · obtain ⟨rest, y0, e1, e2⟩ := num0_inv (m := m) (a := a) (y := (num0 m a).1) (n := (num0 m a).2.1) hb (by rw [← (of_decide_eq_true hu).2.1])
        simp only [cond_true]; rw [e2]; omega
    obtain ⟨k0, k1, k2⟩ := dr_seg hb k _ _ ha' h
    obtain ⟨-, p1, p2, p3⟩ := up_seg hb ha k1
    refine ⟨by simp [k0], hr, ?_⟩
    have e : drB (icv .u32 (upV m a r 4294967295) :: (drD m k (upA m a r 4294967295) (upR m a r 4294967295)).2.2) = vb (upV m a r 4294967295) ++ drB (drD m k (upA m a r 4294967295) (upR m a r 4294967295)).2.2 := by
      unfold drB
      rw [List.flatMap_cons]
      congr 2
      have e3 : icv .u32 (upV m a r 4294967295) = upV m a r 4294967295 := by unfold icv; rw [w_u32]; omega
      rw [e3, icv_u64 ⟨p1, by omega⟩]
    rw [e]
    exact p3.trans k2
theorem sg1 (m : List Int) (a r : Int) : sgL m a r 1 = [stV m a r 0] := rfl
theorem pl_seg {m : List Int} (hb : byB m = true) : ∀ (k : Nat) (a r : Int), 0 ≤ a → (plD m k a r).2.1 = 0 → (plD m k a r).2.2.length = k ∧ r = 0 ∧ Seg m a (plD m k a r).1 (zb (plD m k a r).2.2)
  | 0, a, r, ha, h => ⟨rfl, h, Seg.nil ha⟩
  | k + 1, a, r, ha, h => by
    rw [plD] at h ⊢
    by_cases hr : r = 0
    rotate_left
    · rw [if_pos hr] at h; exact absurd h hr
    rw [if_neg (fun q => q hr)] at h ⊢
    have ha' : 0 ≤ stA m a r 1 := by
      show 0 ≤ upA m a r 18446744073709551615
      unfold upA
      cases hu : upOk m a r 18446744073709551615
      · exact ha
      · obtain ⟨rest, y0, e1, e2⟩ := num0_inv (m := m) (a := a) (y := (num0 m a).1) (n := (num0 m a).2.1) hb (by rw [← (of_decide_eq_true hu).2.1])
        simp only [cond_true]; rw [e2]; omega
    obtain ⟨k0, k1, k2⟩ := pl_seg hb k _ _ ha' h
    obtain ⟨-, -, p3⟩ := st_seg hb ha 1 k1
    refine ⟨by simp [k0], hr, ?_⟩
    have e : zb (stV m a r 0 :: (plD m k (stA m a r 1) (stR m a r 1)).2.2) = zb (sgL m a r 1) ++ zb (plD m k (stA m a r 1) (stR m a r 1)).2.2 := by
      rw [sg1]; unfold zb; simp
    rw [e]
    exact p3.trans k2
theorem up_pos {m : List Int} {a r x : Int} (hb : byB m = true) (ha : 0 ≤ a) : 0 ≤ upA m a r x := by
  unfold upA
  cases hu : upOk m a r x
  · exact ha
  · obtain ⟨rest, y0, e1, e2⟩ := num0_inv (m := m) (a := a) (y := (num0 m a).1) (n := (num0 m a).2.1) hb (by rw [← (of_decide_eq_true hu).2.1])
    simp only [cond_true]; rw [e2]; omega
theorem st_pos {m : List Int} {a r : Int} (hb : byB m = true) (ha : 0 ≤ a) : ∀ n, 0 ≤ stA m a r n
  | 0 => ha
  | n + 1 => up_pos hb (st_pos hb ha n)
theorem flB_cons (E : El FF) (x : Int) (F : List (El FF)) (B : List Int) : ∀ (k i : Nat), flB (E :: F) (x :: B) k (i + 1) = flB F B k i
  | 0, i => rfl
  | k + 1, i => by rw [flB, flB, flB_cons E x F B k (i + 1)]; rfl
theorem fr_seg {m : List Int} (hb : byB m = true) : ∀ (k : Nat) (a r : Int), 0 ≤ a → (frD m k a r).2.1 = 0 → (frD m k a r).2.2.1.length = k ∧ (frD m k a r).2.2.2.length = k ∧ r = 0 ∧ Seg m a (frD m k a r).1 (flB (frD m k a r).2.2.1 (frD m k a r).2.2.2 k 0)
  | 0, a, r, ha, h => ⟨rfl, rfl, h, Seg.nil ha⟩
  | k + 1, a, r, ha, h => by
    rw [frD] at h ⊢
    by_cases hr : r = 0
    rotate_left
    · rw [if_pos hr] at h; exact absurd h hr
    rw [if_neg (fun q => q hr)] at h ⊢
    have hu := up_pos (a := a) (r := r) (x := 2) hb ha
    obtain ⟨k0, k1, k2, k3⟩ := fr_seg hb k (fA m a r) (fR m a r) (st_pos hb hu 10) h
    obtain ⟨q0, -, q1⟩ := st_seg hb hu 10 k2
    obtain ⟨-, p1, p2, p3⟩ := up_seg hb ha q0
    refine ⟨by simp [k0], by simp [k1], hr, ?_⟩
    show Seg m a _ (flB (fE m a r :: _) (fX m a r :: _) (k + 1) 0)
    rw [flB, flB_cons]
    refine Seg.trans ?_ k3
    have e : feB (getR FF (fE m a r :: (frD m k (fA m a r) (fR m a r)).2.2.1) 0) (getI (fX m a r :: (frD m k (fA m a r) (fR m a r)).2.2.2) 0) = vb (upV m a r 2) ++ zb (sgL m (upA m a r 2) (upR m a r 2) 10) := by
      show vb (icv .u64 (icv .i64 (upV m a r 2))) ++ _ = _
      have e1 : icv .i64 (upV m a r 2) = upV m a r 2 := by unfold icv; rw [w_i64]; omega
      rw [e1, icv_u64 ⟨p1, by omega⟩]
      rfl
    rw [e]
    exact p3.trans q1
end Go.Proofs.Ytlmnohdgfjienaa.Cf

set_option maxRecDepth 100000
set_option linter.all false
set_option maxHeartbeats 0
namespace Go.Proofs.Ytlmnohdgfjienaa.Cf
open Go.Abs Go.Proofs.Ytlmnohdgfjienaa.Code Go.Proofs.Ytlmnohdgfjienaa.Code

end Go.Proofs.Ytlmnohdgfjienaa.Cf

set_option maxRecDepth 100000
set_option linter.all false
set_option maxHeartbeats 0
set_option linter.unusedSimpArgs false
set_option linter.unusedVariables false
namespace Go.Proofs.Ytlmnohdgfjienaa.Cf
open Go.Abs Go.Proofs.Ytlmnohdgfjienaa.Code Go.Proofs.Ytlmnohdgfjienaa.Code
end Go.Proofs.Ytlmnohdgfjienaa.Cf

set_option maxRecDepth 100000
set_option linter.all false
set_option maxHeartbeats 0
namespace Go.Proofs.Ytlmnohdgfjienaa.Cf
open Go.Abs Go.Proofs.Ytlmnohdgfjienaa.Code Go.Proofs.Ytlmnohdgfjienaa.Code
-- a reader with an error stays
-- reading at a + 4 is reading at a of what stands behind four
end Go.Proofs.Ytlmnohdgfjienaa.Cf

set_option maxRecDepth 100000
set_option linter.all false
set_option maxHeartbeats 0
namespace Go.Proofs.Ytlmnohdgfjienaa.Cf
open Go.Abs Go.Proofs.Ytlmnohdgfjienaa.Code Go.Proofs.Ytlmnohdgfjienaa.Code
/-- the reference's states are the program's -/
structure Sh (m : List Int) : Prop where
  M : tl m = m.drop 4
  ok0 : okC (tl m) 0 = true
  okA : okC (tl m) (sA0 m) = true
theorem sh_mk {m : List Int} (h4 : 4 ≤ m.length) (hm : m.length ≤ 50000) (hb : byB m = true) : Sh m := by
  have hd := tl_drop m h4
  have o0 : okC (tl m) 0 = true := by
    rw [hd, okC_iff, List.length_drop]
    exact ⟨by omega, byB_iff.2 fun c hc => byB_iff.1 hb c (List.mem_of_mem_drop hc)⟩
  exact ⟨hd, o0, ok_fq _ o0⟩
end Go.Proofs.Ytlmnohdgfjienaa.Cf

set_option maxRecDepth 100000
set_option linter.all false
set_option maxHeartbeats 0
namespace Go.Proofs.Ytlmnohdgfjienaa.Cf
open Go.Abs Go.Proofs.Ytlmnohdgfjienaa.Code Go.Proofs.Ytlmnohdgfjienaa.Code
theorem mg_get {m : List Int} (h4 : 4 ≤ m.length) (hb : byB m = true) : mg m = true ↔ getI m 0 = 76 ∧ getI m 1 = 69 ∧ getI m 2 = 65 ∧ getI m 3 = 84 := by
  obtain ⟨x0, l0, rfl⟩ : ∃ x l, m = x :: l := by cases m with | nil => simp at h4 | cons x l => exact ⟨x, l, rfl⟩
  obtain ⟨x1, l1, rfl⟩ : ∃ x l, l0 = x :: l := by cases l0 with | nil => simp at h4 | cons x l => exact ⟨x, l, rfl⟩
  obtain ⟨x2, l2, rfl⟩ : ∃ x l, l1 = x :: l := by cases l1 with | nil => simp at h4 | cons x l => exact ⟨x, l, rfl⟩
  obtain ⟨x3, l3, rfl⟩ : ∃ x l, l2 = x :: l := by cases l2 with | nil => simp at h4 | cons x l => exact ⟨x, l, rfl⟩
  have e : subI (x0 :: x1 :: x2 :: x3 :: l3) 0 (subN (imin (nlen (lenI (x0 :: x1 :: x2 :: x3 :: l3))) 4) 0) = [x0, x1, x2, x3] := by
    have : subN (imin (nlen (lenI (x0 :: x1 :: x2 :: x3 :: l3))) 4) 0 = 4 := by unfold subN imin nlen lenI; simp only [List.length_cons]; omega
    rw [this]; rfl
  have hr := byB_iff.1 hb
  have r0 := hr x0 (by simp)
  have r1 := hr x1 (by simp)
  have r2 := hr x2 (by simp)
  have r3 := hr x3 (by simp)
  constructor
  · intro h
    unfold mg f42r0 at h
    rw [e] at h
    have k : ∀ a b c d : Nat, a < 256 → b < 256 → c < 256 → d < 256 → (bif ile (slen (bs [76, 69, 65, 84])) (slen (strI [(a : Int), b, c, d])) then seqS (ssub (strI [(a : Int), b, c, d]) 0 (slen (bs [76, 69, 65, 84]))) (bs [76, 69, 65, 84]) else false) = true → a = 76 ∧ b = 69 ∧ c = 65 ∧ d = 84 := by
      intro a b c d ha hb hc hd hh
      have e1 : ile (slen (bs [76, 69, 65, 84])) (slen (strI [(a : Int), b, c, d])) = true := rfl
      rw [e1, cond_true] at hh
      have e2 : ssub (strI [(a : Int), b, c, d]) 0 (slen (bs [76, 69, 65, 84])) = strI [(a : Int), b, c, d] := rfl
      rw [e2] at hh
      unfold seqS at hh
      have hh2 : ((strI [(a : Int), b, c, d]).data == (bs [76, 69, 65, 84]).data) = true := hh
      have hh3 : (strI [(a : Int), b, c, d]).data.toList = (bs [76, 69, 65, 84]).data.toList := by rw [eq_of_beq hh2]
      have hh4 : [UInt8.ofNat a, UInt8.ofNat b, UInt8.ofNat c, UInt8.ofNat d] = [UInt8.ofNat 76, UInt8.ofNat 69, UInt8.ofNat 65, UInt8.ofNat 84] := hh3
      have inj : ∀ x y : Nat, x < 256 → y < 256 → UInt8.ofNat x = UInt8.ofNat y → x = y := fun x y hx hy hq => by
        have := congrArg UInt8.toNat hq
        simp only [UInt8.toNat_ofNat'] at this
        omega
      simp only [List.cons.injEq, and_true] at hh4
      exact ⟨inj _ _ ha (by omega) hh4.1, inj _ _ hb (by omega) hh4.2.1, inj _ _ hc (by omega) hh4.2.2.1, inj _ _ hd (by omega) hh4.2.2.2⟩
    obtain ⟨n0, rfl⟩ := Int.eq_ofNat_of_zero_le r0.1
    obtain ⟨n1, rfl⟩ := Int.eq_ofNat_of_zero_le r1.1
    obtain ⟨n2, rfl⟩ := Int.eq_ofNat_of_zero_le r2.1
    obtain ⟨n3, rfl⟩ := Int.eq_ofNat_of_zero_le r3.1
    obtain ⟨q0, q1, q2, q3⟩ := k n0 n1 n2 n3 (by omega) (by omega) (by omega) (by omega) h
    subst q0 q1 q2 q3
    exact ⟨rfl, rfl, rfl, rfl⟩
  · rintro ⟨q0, q1, q2, q3⟩
    have q0' : x0 = 76 := q0
    have q1' : x1 = 69 := q1
    have q2' : x2 = 65 := q2
    have q3' : x3 = 84 := q3
    subst q0' q1' q2' q3'
    have : mg (76 :: 69 :: 65 :: 84 :: l3) = true := by
      unfold mg; rw [e]; decide
    exact this
end Go.Proofs.Ytlmnohdgfjienaa.Cf

set_option maxRecDepth 100000
set_option linter.all false
set_option maxHeartbeats 0
namespace Go.Proofs.Ytlmnohdgfjienaa.Cf
open Go.Abs Go.Proofs.Ytlmnohdgfjienaa.Code Go.Proofs.Ytlmnohdgfjienaa.Code
theorem pl_bad (m : List Int) : ∀ (k : Nat) (a r : Int), plS m k a r = true → (plD m k a r).2.1 ≠ 0
  | 0, a, r, h => by simp [plS] at h
  | k + 1, a, r, h => by
    rw [plS] at h; rw [plD]
    by_cases hr : r = 0
    · rw [if_neg (fun q => q hr)] at h ⊢; exact pl_bad m k _ _ h
    · rw [if_pos hr]; exact hr
theorem dr_bad (m : List Int) : ∀ (k : Nat) (a r : Int), drS m k a r = true → (drD m k a r).2.1 ≠ 0
  | 0, a, r, h => by simp [drS] at h
  | k + 1, a, r, h => by
    rw [drS] at h; rw [drD]
    by_cases hr : r = 0
    · rw [if_neg (fun q => q hr)] at h ⊢; exact dr_bad m k _ _ h
    · rw [if_pos hr]; exact hr
theorem Seg.all {m l : List Int} (h : Seg m 0 (m.length : Int) l) : m = l := by
  obtain ⟨-, -, h⟩ := h
  rw [show (0 : Int).toNat = 0 from rfl, List.drop_zero, show ((m.length : Nat) : Int).toNat = m.length from Int.toNat_natCast _, List.drop_length, List.append_nil] at h
  exact h
/-- what was decoded without error is what is encoded of it -/
theorem dec_inv {m : List Int} (hm : m.length ≤ 50000) (hb : byB m = true) (h : er m = 0) :
    m = 76 :: 69 :: 65 :: 84 :: eB0 (fqF (tl m) 0 0) (fqB (tl m) 0 0) (rsP (tl m) (sA0 m) (sR0 m)) (rsL (tl m) (sA0 m) (sR0 m)) (dV m 0) (dV m 1) (dV m 2) (dV m 3) (dV m 4) (dV m 5) (dV m 6) (dV m 7) (dV m 8) (rsT (tl m) (sA0 m) (sR0 m)) (rsE (tl m) (sA0 m) (sR0 m)) := by
  obtain ⟨hmg, hR, hL, -⟩ := er_0 h
  have h4 := mg_len hmg
  obtain ⟨-, o0, oA⟩ := sh_mk h4 hm hb
  obtain ⟨e0, e1, e2, e3⟩ := (mg_get h4 hb).1 hmg
  have hd := tl_drop m h4
  have hM : m = 76 :: 69 :: 65 :: 84 :: tl m := by
    rw [hd]
    obtain ⟨x0, l0, rfl⟩ : ∃ x l, m = x :: l := by cases m with | nil => simp at h4 | cons x l => exact ⟨x, l, rfl⟩
    obtain ⟨x1, l1, rfl⟩ : ∃ x l, l0 = x :: l := by cases l0 with | nil => simp at h4 | cons x l => exact ⟨x, l, rfl⟩
    obtain ⟨x2, l2, rfl⟩ : ∃ x l, l1 = x :: l := by cases l1 with | nil => simp at h4 | cons x l => exact ⟨x, l, rfl⟩
    obtain ⟨x3, l3, rfl⟩ : ∃ x l, l2 = x :: l := by cases l2 with | nil => simp at h4 | cons x l => exact ⟨x, l, rfl⟩
    have f0 : x0 = 76 := e0
    have f1 : x1 = 69 := e1
    have f2 : x2 = 65 := e2
    have f3 : x3 = 84 := e3
    rw [f0, f1, f2, f3]; rfl
  have hbt : byB (tl m) = true := by rw [hd]; exact byB_iff.2 fun d q => byB_iff.1 hb d (List.mem_of_mem_drop q)
  have hlt : (tl m).length ≤ 50000 := by rw [hd, List.length_drop]; omega
  have hP : plE (tl m) (sA0 m) (sR0 m) = false := by
    cases q : plE (tl m) (sA0 m) (sR0 m) with
    | false => rfl
    | true => unfold rsR at hR; rw [q] at hR; exact absurd hR (pl_bad _ _ _ _ q)
  have hD : drE (tl m) (sA0 m) (sR0 m) = false := by
    cases q : drE (tl m) (sA0 m) (sR0 m) with
    | false => rfl
    | true => unfold rsR at hR; rw [hP, q] at hR; exact absurd hR (dr_bad _ _ _ _ q)
  have hA : rsA (tl m) (sA0 m) (sR0 m) = (tl m).length := by
    have o := okC_iff.1 (ok_rs (sR0 m) oA)
    have q := hL
    rw [hR] at q
    unfold lefC ilt at q
    simp only [if_true, decide_eq_false_iff_not] at q
    omega
  unfold rsT rsE rsL
  rw [hP, hD]
  unfold rsR at hR; unfold rsA at hA
  rw [hP, hD] at hR hA
  simp only [cond_false] at hR hA ⊢
  have o9 := ok_st (tl m) (sA0 m) (sR0 m) oA 9
  have op : okC (tl m) (plQ (tl m) (sA0 m) (sR0 m)).1 = true := ok_pl (tl m) _ _ _ (upA_ok _ _ o9)
  have od : okC (tl m) (drQ (tl m) (sA0 m) (sR0 m)).1 = true := ok_dr (tl m) _ _ _ (upA_ok _ _ op)
  have pA := (okC_iff.1 oA).1.1
  have p9 := (okC_iff.1 o9).1.1
  have pp := (okC_iff.1 op).1.1
  have pd := (okC_iff.1 od).1.1
  obtain ⟨r8, -, s8⟩ := st_seg hbt (up_pos hbt pd) 1 hR
  obtain ⟨r7, y0, y1, s7⟩ := up_seg hbt pd r8
  obtain ⟨n6, r6, s6⟩ := dr_seg hbt (d0N (tl m) (sA0 m) (sR0 m)) (d0A (tl m) (sA0 m) (sR0 m)) (d0R (tl m) (sA0 m) (sR0 m)) (up_pos hbt pp) r7
  obtain ⟨r5, -, -, s5⟩ := up_seg hbt pp r6
  obtain ⟨n4, r4, s4⟩ := pl_seg hbt (p0N (tl m) (sA0 m) (sR0 m)) (p0A (tl m) (sA0 m) (sR0 m)) (p0R (tl m) (sA0 m) (sR0 m)) (up_pos hbt p9) r5
  obtain ⟨r3, -, -, s3⟩ := up_seg hbt p9 r4
  obtain ⟨r2, -, s2⟩ := st_seg hbt pA 9 r3
  obtain ⟨n1, n1', r1, s1⟩ := fr_seg hbt (upN (tl m) 0 0 256) (upA (tl m) 0 0 256) (upR (tl m) 0 0 256) (up_pos hbt (Int.le_refl 0)) r2
  obtain ⟨-, -, -, s0⟩ := up_seg hbt (Int.le_refl 0) r1
  have S := s0.trans (s1.trans (s2.trans (s3.trans (s4.trans (s5.trans (s6.trans (s7.trans s8)))))))
  rw [hA] at S
  have S1 := Seg.all S
  have c0 := (upN_eq (x := 256) 0 o0 (by omega)).1
  have c4 := (upN_eq (x := 4096) (stR (tl m) (sA0 m) (sR0 m) 9) o9 (by omega)).1
  have c6 := (upN_eq (x := 4096) (plQ (tl m) (sA0 m) (sR0 m)).2.1 op (by omega)).1
  have i0 : icv .u64 (nlen (lenR FF (fqF (tl m) 0 0))) = upV (tl m) 0 0 256 := by
    have q : (fqF (tl m) 0 0).length = upN (tl m) 0 0 256 := n1
    have w := (upN_eq (x := 256) 0 o0 (by omega)).2
    unfold lenR nlen; rw [q, ← c0, icv_u64 (by omega)]
  have i4 : icv .u64 (nlen (lenI (rsP (tl m) (sA0 m) (sR0 m)))) = upV (tl m) (stA (tl m) (sA0 m) (sR0 m) 9) (stR (tl m) (sA0 m) (sR0 m) 9) 4096 := by
    have q : (rsP (tl m) (sA0 m) (sR0 m)).length = p0N (tl m) (sA0 m) (sR0 m) := n4
    have w := (upN_eq (x := 4096) (stR (tl m) (sA0 m) (sR0 m) 9) o9 (by omega)).2
    unfold lenI nlen; rw [q, ← c4]; unfold p0N; rw [icv_u64 (by omega)]
  have i6 : icv .u64 (nlen (lenI (drQ (tl m) (sA0 m) (sR0 m)).2.2)) = upV (tl m) (plQ (tl m) (sA0 m) (sR0 m)).1 (plQ (tl m) (sA0 m) (sR0 m)).2.1 4096 := by
    have q : (drQ (tl m) (sA0 m) (sR0 m)).2.2.length = d0N (tl m) (sA0 m) (sR0 m) := n6
    have w := (upN_eq (x := 4096) (plQ (tl m) (sA0 m) (sR0 m)).2.1 op (by omega)).2
    unfold lenI nlen; rw [q, ← c6]; unfold d0N; rw [icv_u64 (by omega)]
  have i7 : icv .u64 (icv .i64 (upV (tl m) (drQ (tl m) (sA0 m) (sR0 m)).1 (drQ (tl m) (sA0 m) (sR0 m)).2.1 1000)) = upV (tl m) (drQ (tl m) (sA0 m) (sR0 m)).1 (drQ (tl m) (sA0 m) (sR0 m)).2.1 1000 := by
    have e1 : icv .i64 (upV (tl m) (drQ (tl m) (sA0 m) (sR0 m)).1 (drQ (tl m) (sA0 m) (sR0 m)).2.1 1000) = upV (tl m) (drQ (tl m) (sA0 m) (sR0 m)).1 (drQ (tl m) (sA0 m) (sR0 m)).2.1 1000 := by unfold icv; rw [w_i64]; omega
    rw [e1, icv_u64 ⟨y0, by omega⟩]
  have nF : (fqF (tl m) 0 0).length = upN (tl m) 0 0 256 := n1
  unfold eB0
  rw [i0, i4, i6, i7, nF]
  refine Eq.trans hM ?_
  congr 4
  refine Eq.trans S1 ?_
  simp only [List.append_assoc]
  rfl
end Go.Proofs.Ytlmnohdgfjienaa.Cf

set_option maxRecDepth 100000
set_option linter.all false
set_option maxHeartbeats 0
namespace Go.Proofs.Ytlmnohdgfjienaa.Cf
open Go.Abs Go.Proofs.Ytlmnohdgfjienaa.Code Go.Proofs.Ytlmnohdgfjienaa.Code
/-- what is read of a script -/
structure Red (m : List Int) (j0 : List (El FF)) (j1 j2 j3 : List Int) (r a0 a1 a2 a3 a4 a5 a6 a7 y z : Int) : Prop where
  er : er m = 0
  F : fqF (tl m) 0 0 = j0
  B : fqB (tl m) 0 0 = j1
  P : rsP (tl m) (sA0 m) (sR0 m) = j2
  L : rsL (tl m) (sA0 m) (sR0 m) = j3
  V : dV m 0 = r ∧ dV m 1 = a0 ∧ dV m 2 = a1 ∧ dV m 3 = a2 ∧ dV m 4 = a3 ∧ dV m 5 = a4 ∧ dV m 6 = a5 ∧ dV m 7 = a6 ∧ dV m 8 = a7
  T : rsT (tl m) (sA0 m) (sR0 m) = y
  E : rsE (tl m) (sA0 m) (sR0 m) = z
theorem mg_cons (l : List Int) : mg (76 :: 69 :: 65 :: 84 :: l) = true := by
  unfold mg
  have e : subI (76 :: 69 :: 65 :: 84 :: l) 0 (subN (imin (nlen (lenI (76 :: 69 :: 65 :: 84 :: l))) 4) 0) = [76, 69, 65, 84] := by
    have : subN (imin (nlen (lenI (76 :: 69 :: 65 :: 84 :: l))) 4) 0 = 4 := by unfold subN imin nlen lenI; simp only [List.length_cons]; omega
    rw [this]; rfl
  rw [e]; decide
theorem tl_cons (l : List Int) : tl (76 :: 69 :: 65 :: 84 :: l) = l := by
  rw [tl_drop _ (by simp only [List.length_cons]; omega)]; rfl
theorem nB (n : Nat) (h : n ≤ 100000) : icv .u64 (nlen n) = nlen n := icv_u64 (by unfold nlen; omega)
theorem dec_enc (j0 : List (El FF)) (j1 j2 j3 : List Int) (r a0 a1 a2 a3 a4 a5 a6 a7 y z : Int) (hB : cfgB j0 j1 j2 j3 r a0 a1 a2 a3 a4 a5 a6 a7 y z = true) (h3 : j3.all u32B = true) (hk : ckE r a0 a1 a2 a3 a4 a5 a6 a7 y z (lenR FF j0) (lenI j1) (lenI j2) (lenI j3) (fb j0 j1) (pix j2) = 0) :
    Red (76 :: 69 :: 65 :: 84 :: eB0 j0 j1 j2 j3 r a0 a1 a2 a3 a4 a5 a6 a7 y z) j0 j1 j2 j3 r a0 a1 a2 a3 a4 a5 a6 a7 y z := by
  obtain ⟨k1, k2, k3, k4, k5, k6, k7, k8, k9, k10, k11⟩ := (ckE_iff r a0 a1 a2 a3 a4 a5 a6 a7 y z _ _ _ _ _ _).1 hk
  have he : j1.length = j0.length := k3
  have hby := eB_by j0 j1 j2 j3 r a0 a1 a2 a3 a4 a5 a6 a7 y z hB he
  have hB' := hB
  unfold cfgB at hB
  simp only [Bool.and_eq_true, decide_eq_true_eq] at hB
  obtain ⟨⟨⟨⟨b0, b1⟩, b2⟩, b3⟩, n0, n1, n2, n3⟩ := hB
  simp only [List.all_cons, List.all_nil, Bool.and_eq_true] at b3
  obtain ⟨c0, c1, c2, c3, c4, c5, c6, c7, c8, c9, c10, -⟩ := b3
  have hA : [r, a0, a1, a2, a3, a4, a5, a6, a7].all i64B = true := by simp [c0, c1, c2, c3, c4, c5, c6, c7, c8]
  have hZ : [z].all i64B = true := by simp [c10]
  have hlen : (eB0 j0 j1 j2 j3 r a0 a1 a2 a3 a4 a5 a6 a7 y z).length ≤ 60000 := by
    have v0 := vb_len (icvB (nlen (lenR FF j0)))
    have v2 := vb_len (icvB (nlen (lenI j2)))
    have v3 := vb_len (icvB (nlen (lenI j3)))
    have vy := vb_len (icvB y)
    have zA := zb_len hA
    have z2 := zb_len b2
    have zZ := zb_len hZ
    have fl := flB_len b0 b1 he j0.length 0 (by omega)
    have hd := drB_len j3
    simp only [List.length_cons, List.length_nil] at zA zZ
    unfold eB0
    simp only [List.length_append]; omega
  generalize hM : eB0 j0 j1 j2 j3 r a0 a1 a2 a3 a4 a5 a6 a7 y z = M at *
  have hm := tl_cons M
  -- the start
  have A0 : At M 0 (vb (nlen (lenR FF j0)) ++ (flB j0 j1 j0.length 0 ++ (zb [r, a0, a1, a2, a3, a4, a5, a6, a7] ++ (vb (nlen (lenI j2)) ++ (zb j2 ++ (vb (nlen (lenI j3)) ++ (drB j3 ++ (vb (icv .u64 y) ++ zb [z])))))))) := by
    refine ⟨okC_iff.2 ⟨⟨by omega, by omega, by omega⟩, hby⟩, ?_⟩
    rw [← hM]
    unfold eB0
    rw [nB _ (show lenR FF j0 ≤ 100000 by unfold lenR; omega), nB _ (show lenI j2 ≤ 100000 by unfold lenI; omega), nB _ (show lenI j3 ≤ 100000 by unfold lenI; omega)]
    simp [List.append_assoc]
  have un : ∀ n : Nat, n ≤ 100000 → u64B (nlen n) = true := fun n h => u64B_iff.2 (by unfold nlen; omega)
  have l0 : lenR FF j0 = j0.length := rfl
  have l2 : lenI j2 = j2.length := rfl
  have l3 : lenI j3 = j3.length := rfl
  obtain ⟨p1, p2, p3⟩ := at_up A0 (un _ (by omega)) (x := 256) (by unfold nlen; omega)
  have kf : ∀ i, i < j0.length → lF (getR FF j0 i) = getR FF j0 i := fun i hi => ((bad_f _ _ _).1 ((bfr_iff j0 j1 _ _).1 k4 i (Nat.zero_le _) (by omega))).1
  obtain ⟨f1, f2, f3, f4⟩ := at_fl j0 j1 b0 b1 he kf j0.length 0 _ (by omega) p3
  have eN : upN M 0 0 256 = j0.length := by unfold upN; rw [p1]; unfold nlen lenR; omega
  have eQ : frQ M 0 0 = frD M j0.length (upA M 0 0 256) 0 := by unfold frQ; rw [eN, p2]
  rw [← eQ] at f1 f2 f3 f4
  generalize hm' : (76 :: 69 :: 65 :: 84 :: M) = m at *
  have hR0 : sR0 m = 0 := by unfold sR0 fqR; rw [hm]; exact f1
  have hA0 : At M (sA0 m) (zb [r, a0, a1, a2, a3, a4, a5, a6, a7] ++ (vb (nlen (lenI j2)) ++ (zb j2 ++ (vb (nlen (lenI j3)) ++ (drB j3 ++ (vb (icv .u64 y) ++ zb [z])))))) := by unfold sA0 fqA; rw [hm]; exact f4
  -- nine numbers
  have s9 := at_st _ hA hA0 9 (by simp)
  have q := fun (n : Nat) (hn : n < 9) => at_sv _ hA hA0 (i := n) (by simpa using hn)
  have hV : ∀ n, dV m n = stV M (sA0 m) 0 n := fun n => by unfold dV; rw [hm, hR0]
  -- the plan
  have s9' : At M (stA M (sA0 m) 0 9) (vb (nlen (lenI j2)) ++ (zb j2 ++ (vb (nlen (lenI j3)) ++ (drB j3 ++ (vb (icv .u64 y) ++ zb [z]))))) := by
    have := s9.2
    rwa [show ([r, a0, a1, a2, a3, a4, a5, a6, a7].drop 9) = [] from rfl, show zb [] = [] from rfl, List.nil_append] at this
  obtain ⟨g1, g2, g3⟩ := at_up s9' (un _ (by omega)) (x := 4096) (by unfold nlen; omega)
  obtain ⟨h1, h2, h4, h5⟩ := at_pl j2 _ b2 g3
  have eP : plQ M (sA0 m) 0 = plD M j2.length (upA M (stA M (sA0 m) 0 9) 0 4096) 0 := by
    unfold plQ p0N p0A p0R upN; rw [s9.1, g1, g2]; unfold nlen lenI; rw [Int.toNat_natCast]
  have eS : plE M (sA0 m) 0 = false := by
    unfold plE p0N p0A p0R upN; rw [s9.1, g1, g2]; unfold nlen lenI; rw [Int.toNat_natCast]; exact h5
  rw [← eP] at h1 h2 h4
  -- the draws
  obtain ⟨i1, i2, i3⟩ := at_up h4 (un _ (by omega)) (x := 4096) (by unfold nlen; omega)
  obtain ⟨o1, o2, o4, o5⟩ := at_dr j3 _ h3 i3
  have eD : drQ M (sA0 m) 0 = drD M j3.length (upA M (plQ M (sA0 m) 0).1 0 4096) 0 := by
    unfold drQ d0N d0A d0R upN; rw [h1, i1, i2]; unfold nlen lenI; rw [Int.toNat_natCast]
  have eT : drE M (sA0 m) 0 = false := by
    unfold drE d0N d0A d0R upN; rw [h1, i1, i2]; unfold nlen lenI; rw [Int.toNat_natCast]; exact o5
  rw [← eD] at o1 o2 o4
  -- how often, and the end
  have hy : 0 ≤ y ∧ y ≤ 1000 := by unfold wt at k10; exact of_decide_eq_true k10
  have o4' : At M (drQ M (sA0 m) 0).1 (vb (icv .u64 y) ++ (zb [z] ++ [])) := by rw [List.append_nil]; exact o4
  obtain ⟨t1, t2, t3⟩ := at_up o4' (icvB _) (x := 1000) (by rw [icv_u64 (by omega)]; omega)
  have e1 := at_st _ hZ t3 1 (by simp)
  have e2 := at_sv _ hZ t3 (i := 0) (by simp)
  have rR : rsR (tl m) (sA0 m) (sR0 m) = 0 := by unfold rsR; rw [hm, hR0, eS, eT, o1, t2]; exact e1.1
  have rA : rsA (tl m) (sA0 m) (sR0 m) = M.length := by
    unfold rsA; rw [hm, hR0, eS, eT, o1, t2]
    simp only [cond_false]
    have w := e1.2
    have w1 := (okC_iff.1 w.ok).1
    have w2 := w.at_
    rw [show ([z].drop 1) = [] from rfl, show zb [] = [] from rfl, List.append_nil, List.drop_eq_nil_iff] at w2
    omega
  have hF : fqF (tl m) 0 0 = j0 := by unfold fqF; rw [hm]; exact f2
  have hBb : fqB (tl m) 0 0 = j1 := by unfold fqB; rw [hm]; exact f3
  have hP : rsP (tl m) (sA0 m) (sR0 m) = j2 := by unfold rsP; rw [hm, hR0]; exact h2
  have hL : rsL (tl m) (sA0 m) (sR0 m) = j3 := by unfold rsL; rw [hm, hR0, eS]; exact o2
  have hT : rsT (tl m) (sA0 m) (sR0 m) = y := by unfold rsT; rw [hm, hR0, eS, eT, o1, t1, icv_u64 (by omega)]; exact icv_i64 (by omega)
  have hE : rsE (tl m) (sA0 m) (sR0 m) = z := by unfold rsE; rw [hm, hR0, eS, eT, o1, t2]; exact e2
  have hVs : dV m 0 = r ∧ dV m 1 = a0 ∧ dV m 2 = a1 ∧ dV m 3 = a2 ∧ dV m 4 = a3 ∧ dV m 5 = a4 ∧ dV m 6 = a5 ∧ dV m 7 = a6 ∧ dV m 8 = a7 := by
    refine ⟨?_, ?_, ?_, ?_, ?_, ?_, ?_, ?_, ?_⟩
    · rw [hV]; exact q 0 (by omega)
    · rw [hV]; exact q 1 (by omega)
    · rw [hV]; exact q 2 (by omega)
    · rw [hV]; exact q 3 (by omega)
    · rw [hV]; exact q 4 (by omega)
    · rw [hV]; exact q 5 (by omega)
    · rw [hV]; exact q 6 (by omega)
    · rw [hV]; exact q 7 (by omega)
    · rw [hV]; exact q 8 (by omega)
  refine ⟨?_, hF, hBb, hP, hL, hVs, hT, hE⟩
  have hmg : mg m = true := by rw [← hm']; exact mg_cons M
  have hlf : lefC (tl m) (rsA (tl m) (sA0 m) (sR0 m)) (rsR (tl m) (sA0 m) (sR0 m)) = 0 := by unfold lefC; rw [rR, rA, hm]; simp
  obtain ⟨v0, v1, v2, v3, v4, v5, v6, v7, v8⟩ := hVs
  unfold er dck
  rw [hmg, rR, rA]
  rw [rR, rA] at hlf
  rw [hlf, v0, v1, v2, v3, v4, v5, v6, v7, v8, hT, hE, hF, hBb, hP, hL, hk]
  rfl
end Go.Proofs.Ytlmnohdgfjienaa.Cf

set_option maxRecDepth 100000
set_option linter.all false
set_option maxHeartbeats 0
set_option linter.unusedSimpArgs false
set_option linter.unusedVariables false
namespace Go.Proofs.Ytlmnohdgfjienaa.Cf
open Go.Abs Go.Proofs.Ytlmnohdgfjienaa.Code Go.Proofs.Ytlmnohdgfjienaa.Code
@[reducible] def kScAb0 := [AObj.cells 0 true [AV.v (Value.slice none 0 0), AV.v (Value.slice none 0 0), AV.v (.int .i64 0), AV.v (.int .i64 0), AV.v (.int .i64 0), AV.v (.int .i64 0), AV.v (.int .i64 0), AV.v (.int .i64 0), AV.v (.int .i64 0), AV.v (.int .i64 0), AV.v (.int .i64 0), AV.v (Value.slice none 0 0), AV.v (Value.slice none 0 0), AV.v (.int .i64 0), AV.v (.int .i64 5)], AObj.cells 0 true [AV.v (Value.slice none 0 0), AV.v (Value.slice none 0 0), AV.v (.int .i64 0), AV.v (.int .i64 0), AV.v (.int .i64 0), AV.v (.int .i64 0), AV.v (.int .i64 0), AV.v (.int .i64 0), AV.v (.int .i64 0), AV.v (.int .i64 0), AV.v (.int .i64 0), AV.v (Value.slice none 0 0), AV.v (Value.slice none 0 0), AV.v (.int .i64 0), AV.v (.int .i64 0)], AObj.cells 0 true [AV.sw 3 10, AV.sw 4 1, AV.v (.int .i64 (kp 0 1 1099511627776)), AV.v (.int .i64 (kp 0 1 1073741824)), AV.v (.int .i64 (kp 0 0 67108864)), AV.v (.int .i64 (kp 0 1 1125899906842624)), AV.v (.int .i64 (kp 0 0 17179869184)), AV.v (.int .i64 (kp 0 0 17179869184)), AV.v (.int .i64 (kp 0 0 65536)), AV.v (.int .i64 (kp 0 0 67108864)), AV.v (.int .i64 (kp 0 0 67108864)), AV.v (Value.slice none 0 0), AV.v (Value.slice none 0 0), AV.v (.int .i64 (kp 0 0 1000)), AV.v (.int .i64 (kp 5 0 1099511627776))], AObj.rows true FF [(kp (getR FF [(0, 0, 0, 0, 0, 0, 0, 0, 0, 0)] 0).1 0 2, kp (getR FF [(0, 0, 0, 0, 0, 0, 0, 0, 0, 0)] 0).snd.1 1 65536, kp (getR FF [(0, 0, 0, 0, 0, 0, 0, 0, 0, 0)] 0).snd.snd.1 1 1000, kp (getR FF [(0, 0, 0, 0, 0, 0, 0, 0, 0, 0)] 0).snd.snd.snd.1 0 1099511627776, kp (getR FF [(0, 0, 0, 0, 0, 0, 0, 0, 0, 0)] 0).snd.snd.snd.snd.1 1 1125899906842624, kp (getR FF [(0, 0, 0, 0, 0, 0, 0, 0, 0, 0)] 0).snd.snd.snd.snd.snd.1 (kp (getR FF [(0, 0, 0, 0, 0, 0, 0, 0, 0, 0)] 0).snd.snd.snd.snd.1 1 1125899906842624) 1125899906842624, kp (getR FF [(0, 0, 0, 0, 0, 0, 0, 0, 0, 0)] 0).snd.snd.snd.snd.snd.snd.1 1 1125899906842624, kp (getR FF [(0, 0, 0, 0, 0, 0, 0, 0, 0, 0)] 0).snd.snd.snd.snd.snd.snd.snd.1 1 1125899906842624, kp (getR FF [(0, 0, 0, 0, 0, 0, 0, 0, 0, 0)] 0).snd.snd.snd.snd.snd.snd.snd.snd.1 262144 16777216, kp (getR FF [(0, 0, 0, 0, 0, 0, 0, 0, 0, 0)] 0).snd.snd.snd.snd.snd.snd.snd.snd.2 (kp (getR FF [(0, 0, 0, 0, 0, 0, 0, 0, 0, 0)] 0).snd.1 1 65536) 1073741824)], AObj.ints 0 true .i64 [1000]]
@[reducible] def kScAb1 := (getR FF [(0, 0, 0, 0, 0, 0, 0, 0, 0, 0)] 0)
@[reducible] def kScAb2 := [AObj.cells 0 true [AV.v (Value.slice none 0 0), AV.v (Value.slice none 0 0), AV.v (.int .i64 0), AV.v (.int .i64 0), AV.v (.int .i64 0), AV.v (.int .i64 0), AV.v (.int .i64 0), AV.v (.int .i64 0), AV.v (.int .i64 0), AV.v (.int .i64 0), AV.v (.int .i64 0), AV.v (Value.slice none 0 0), AV.v (Value.slice none 0 0), AV.v (.int .i64 0), AV.v (.int .i64 5)], AObj.cells 0 true [AV.v (Value.slice none 0 0), AV.v (Value.slice none 0 0), AV.v (.int .i64 0), AV.v (.int .i64 0), AV.v (.int .i64 0), AV.v (.int .i64 0), AV.v (.int .i64 0), AV.v (.int .i64 0), AV.v (.int .i64 0), AV.v (.int .i64 0), AV.v (.int .i64 0), AV.v (Value.slice none 0 0), AV.v (Value.slice none 0 0), AV.v (.int .i64 0), AV.v (.int .i64 0)], AObj.cells 0 true [AV.sw 4 10, AV.sw 5 1, AV.v (.int .i64 (kp 0 1 1099511627776)), AV.v (.int .i64 (kp 0 1 1073741824)), AV.v (.int .i64 (kp 0 0 67108864)), AV.v (.int .i64 (kp 0 1 1125899906842624)), AV.v (.int .i64 (kp 0 0 17179869184)), AV.v (.int .i64 (kp 0 0 17179869184)), AV.v (.int .i64 (kp 0 0 65536)), AV.v (.int .i64 (kp 0 0 67108864)), AV.v (.int .i64 (kp 0 0 67108864)), AV.v (Value.slice none 0 0), AV.v (Value.slice none 0 0), AV.v (.int .i64 (kp 0 0 1000)), AV.v (.int .i64 (kp 5 0 1099511627776))], AObj.rows true FF [(0, 0, 0, 0, 0, 0, 0, 0, 0, 0)], AObj.rows true FF [(kp (kScAb1).1 0 2, kp (kScAb1).snd.1 1 65536, kp (kScAb1).snd.snd.1 1 1000, kp (kScAb1).snd.snd.snd.1 0 1099511627776, kp (kScAb1).snd.snd.snd.snd.1 1 1125899906842624, kp (kScAb1).snd.snd.snd.snd.snd.1 (kp (kScAb1).snd.snd.snd.snd.1 1 1125899906842624) 1125899906842624, kp (kScAb1).snd.snd.snd.snd.snd.snd.1 1 1125899906842624, kp (kScAb1).snd.snd.snd.snd.snd.snd.snd.1 1 1125899906842624, kp (kScAb1).snd.snd.snd.snd.snd.snd.snd.snd.1 262144 16777216, kp (kScAb1).snd.snd.snd.snd.snd.snd.snd.snd.2 (kp (kScAb1).snd.1 1 65536) 1073741824)], AObj.ints 0 true .i64 [1000]]
@[reducible] def kScAb3 := [AObj.cells 0 true [AV.v (Value.slice none 0 0), AV.v (Value.slice none 0 0), AV.v (.int .i64 0), AV.v (.int .i64 0), AV.v (.int .i64 0), AV.v (.int .i64 0), AV.v (.int .i64 0), AV.v (.int .i64 0), AV.v (.int .i64 0), AV.v (.int .i64 0), AV.v (.int .i64 0), AV.v (Value.slice none 0 0), AV.v (Value.slice none 0 0), AV.v (.int .i64 0), AV.v (.int .i64 0)], AObj.cells 0 true [AV.sw 2 10, AV.sw 3 1, AV.v (.int .i64 (kp 0 1 1099511627776)), AV.v (.int .i64 (kp 0 1 1073741824)), AV.v (.int .i64 (kp 0 0 67108864)), AV.v (.int .i64 (kp 0 1 1125899906842624)), AV.v (.int .i64 (kp 0 0 17179869184)), AV.v (.int .i64 (kp 0 0 17179869184)), AV.v (.int .i64 (kp 0 0 65536)), AV.v (.int .i64 (kp 0 0 67108864)), AV.v (.int .i64 (kp 0 0 67108864)), AV.v (Value.slice none 0 0), AV.v (Value.slice none 0 0), AV.v (.int .i64 (kp 0 0 1000)), AV.v (.int .i64 (kp 5 0 1099511627776))], AObj.rows true FF [(kp (kScAb1).1 0 2, kp (kScAb1).snd.1 1 65536, kp (kScAb1).snd.snd.1 1 1000, kp (kScAb1).snd.snd.snd.1 0 1099511627776, kp (kScAb1).snd.snd.snd.snd.1 1 1125899906842624, kp (kScAb1).snd.snd.snd.snd.snd.1 (kp (kScAb1).snd.snd.snd.snd.1 1 1125899906842624) 1125899906842624, kp (kScAb1).snd.snd.snd.snd.snd.snd.1 1 1125899906842624, kp (kScAb1).snd.snd.snd.snd.snd.snd.snd.1 1 1125899906842624, kp (kScAb1).snd.snd.snd.snd.snd.snd.snd.snd.1 262144 16777216, kp (kScAb1).snd.snd.snd.snd.snd.snd.snd.snd.2 (kp (kScAb1).snd.1 1 65536) 1073741824)], AObj.ints 0 true .i64 [1000]]
@[reducible] def kScAb4 := (AV.agg [AV.v (.int .i64 (kp (kScAb1).1 0 2)), AV.v (.int .i64 (kp (kScAb1).snd.1 1 65536)), AV.v (.int .i64 (kp (kScAb1).snd.snd.1 1 1000)), AV.v (.int .i64 (kp (kScAb1).snd.snd.snd.1 0 1099511627776)), AV.v (.int .i64 (kp (kScAb1).snd.snd.snd.snd.1 1 1125899906842624)), AV.v (.int .i64 (kp (kScAb1).snd.snd.snd.snd.snd.1 (kp (kScAb1).snd.snd.snd.snd.1 1 1125899906842624) 1125899906842624)), AV.v (.int .i64 (kp (kScAb1).snd.snd.snd.snd.snd.snd.1 1 1125899906842624)), AV.v (.int .i64 (kp (kScAb1).snd.snd.snd.snd.snd.snd.snd.1 1 1125899906842624)), AV.v (.int .i64 (kp (kScAb1).snd.snd.snd.snd.snd.snd.snd.snd.1 262144 16777216)), AV.v (.int .i64 (kp (kScAb1).snd.snd.snd.snd.snd.snd.snd.snd.2 (kp (kScAb1).snd.1 1 65536) 1073741824))])
@[reducible] def kScAb5 := [AV.sw 0 10, AV.sw 1 1, AV.v (.int .i64 (kp 0 1 1099511627776)), AV.v (.int .i64 (kp 0 1 1073741824)), AV.v (.int .i64 (kp 0 0 67108864)), AV.v (.int .i64 (kp 0 1 1125899906842624)), AV.v (.int .i64 (kp 0 0 17179869184)), AV.v (.int .i64 (kp 0 0 17179869184)), AV.v (.int .i64 (kp 0 0 65536)), AV.v (.int .i64 (kp 0 0 67108864)), AV.v (.int .i64 (kp 0 0 67108864)), AV.sw 2 1, AV.sw 3 1, AV.v (.int .i64 (kp 0 0 1000)), AV.v (.int .i64 (kp 5 0 1099511627776))]
@[reducible] def kScAb6 := [AV.v (Value.slice none 0 0), AV.v (Value.slice none 0 0), AV.v (.int .i64 0), AV.v (.int .i64 0), AV.v (.int .i64 0), AV.v (.int .i64 0), AV.v (.int .i64 0), AV.v (.int .i64 0), AV.v (.int .i64 0), AV.v (.int .i64 0), AV.v (.int .i64 0), AV.v (Value.slice none 0 0), AV.v (Value.slice none 0 0), AV.v (.int .i64 0), AV.v (.int .i64 5)]
@[reducible] def kScAb7 := [AV.agg [AV.sw 0 10, AV.sw 1 1, AV.v (.int .i64 0), AV.v (.int .i64 0), AV.v (.int .i64 0), AV.v (.int .i64 0), AV.v (.int .i64 0), AV.v (.int .i64 0), AV.v (.int .i64 0), AV.v (.int .i64 0), AV.v (.int .i64 0), AV.sw 2 1, AV.sw 3 1, AV.v (.int .i64 0), AV.v (.int .i64 0)], AV.v (.int .i64 5), AV.v (.int .i64 0)]
@[reducible] def kScAb8 := (AV.agg [AV.v (.int .i64 (kp 0 1 1073741824)), AV.v (.int .i64 (kp 0 0 67108864)), AV.v (.int .i64 (kp 0 1 1125899906842624)), AV.v (.int .i64 (kp 0 0 17179869184)), AV.v (.int .i64 (kp 0 0 17179869184)), AV.v (.int .i64 (kp 0 0 65536)), AV.v (.int .i64 (kp 0 0 67108864)), AV.v (.int .i64 (kp 0 0 67108864))])
theorem q8 (j0 : List (El FF)) (j1 j2 j3 : List Int) (r a0 a1 a2 a3 a4 a5 a6 a7 y z : Int) (hB : cfgB j0 j1 j2 j3 r a0 a1 a2 a3 a4 a5 a6 a7 y z = true) : ACalls Try.prog 8 [cC r a0 a1 a2 a3 a4 a5 a6 a7 y z] (hH j0 j1 j2 j3) (AV.tup [AV.sw 4 1, iI (ckE r a0 a1 a2 a3 a4 a5 a6 a7 y z (lenR FF j0) (lenI j1) (lenI j2) (lenI j3) (fb j0 j1) (pix j2))]) [] [AObj.ints 0 false .u8 (eB j0 j1 j2 j3 r a0 a1 a2 a3 a4 a5 a6 a7 y z)] := (g8 j0 j1 j2 j3 r a0 a1 a2 a3 a4 a5 a6 a7 y z hB).freeze
theorem q9 (j0 : List (El FF)) (j1 j2 j3 : List Int) (r a0 a1 a2 a3 a4 a5 a6 a7 y z : Int) (hB : cfgB j0 j1 j2 j3 r a0 a1 a2 a3 a4 a5 a6 a7 y z = true) : ACalls Try.prog 9 [cC r a0 a1 a2 a3 a4 a5 a6 a7 y z] (hH j0 j1 j2 j3) (AV.tup [AV.sw 4 1, iI (ckE r a0 a1 a2 a3 a4 a5 a6 a7 y z (lenR FF j0) (lenI j1) (lenI j2) (lenI j3) (fb j0 j1) (pix j2))]) [] [AObj.ints 0 false .u8 (eB j0 j1 j2 j3 r a0 a1 a2 a3 a4 a5 a6 a7 y z)] := (g9 j0 j1 j2 j3 r a0 a1 a2 a3 a4 a5 a6 a7 y z hB).freeze
theorem f13e_1  : ACalls Try.prog 13 [AV.agg (kScAb6)] [] (AV.agg (kScAb5)) [] [AObj.rows true FF [(kp (kScAb1).1 0 2, kp (kScAb1).snd.1 1 65536, kp (kScAb1).snd.snd.1 1 1000, kp (kScAb1).snd.snd.snd.1 0 1099511627776, kp (kScAb1).snd.snd.snd.snd.1 1 1125899906842624, kp (kScAb1).snd.snd.snd.snd.snd.1 (kp (kScAb1).snd.snd.snd.snd.1 1 1125899906842624) 1125899906842624, kp (kScAb1).snd.snd.snd.snd.snd.snd.1 1 1125899906842624, kp (kScAb1).snd.snd.snd.snd.snd.snd.snd.1 1 1125899906842624, kp (kScAb1).snd.snd.snd.snd.snd.snd.snd.snd.1 262144 16777216, kp (kScAb1).snd.snd.snd.snd.snd.snd.snd.snd.2 (kp (kScAb1).snd.1 1 65536) 1073741824)], AObj.ints 0 true .i64 [1000], AObj.ints 0 true .i64 [], AObj.ints 0 true IntKind.u32 []] :=
  ACalls.nb (res := AV.agg (kScAb5)) (.of_out [Orc.call [] (AV.v (.int .i64 (kp 0 1 1099511627776))) [] [], Orc.call [] (kScAb8) [] [], Orc.call [] (AV.v (.int .i64 (kp 0 0 1000))) [] [], Orc.call [] (AV.v (.int .i64 (kp 5 0 1099511627776))) [] [], Orc.br true, Orc.loop [1, 2, 3, 4, 5] [0, 1, 2, 3] (AExit.exit 0) (tg [(1, AV.ptr 0 0), (0, AV.ptr 1 0), (0, AV.ptr 2 0)] 109) (kScAb0), Orc.loop [1, 2, 3, 6] [0, 1, 2, 3, 4] (AExit.exit 2) (tg [(1, AV.ptr 0 0), (0, AV.ptr 1 0), (0, AV.ptr 2 0)] 109) (kScAb0), Orc.loop [1, 2, 3, 7] [0, 1, 2, 3, 4] (AExit.exit 4) (tg [(2, AV.ptr 0 0), (0, AV.ptr 1 0)] 109) (kScAb3), Orc.fin (Gh.nilc 0 11 1 (AObj.ints 0 true .i64 [])), Orc.fin (Gh.nilc 0 12 1 (AObj.ints 0 true IntKind.u32 []))] [2, 3, 4, 5] [Mixed Try.prog, ACalls Try.prog 30 [AV.v (.int .i64 0), AV.v (.int .i64 1), AV.v (.int .i64 1099511627776)] [] (AV.v (.int .i64 (kp 0 1 1099511627776))) [] [], ACalls Try.prog 31 [AV.agg [AV.v (.int .i64 0), AV.v (.int .i64 0), AV.v (.int .i64 0), AV.v (.int .i64 0), AV.v (.int .i64 0), AV.v (.int .i64 0), AV.v (.int .i64 0), AV.v (.int .i64 0)]] [] (kScAb8) [] [], ACalls Try.prog 30 [AV.v (.int .i64 0), AV.v (.int .i64 0), AV.v (.int .i64 1000)] [] (AV.v (.int .i64 (kp 0 0 1000))) [] [], ACalls Try.prog 30 [AV.v (.int .i64 5), AV.v (.int .i64 0), AV.v (.int .i64 1099511627776)] [] (AV.v (.int .i64 (kp 5 0 1099511627776))) [] [], isB true true, _, _, _] Try.func13 (by kernel_rfl) (by kernel_rfl) (.cons (by show _ = _; kernel_rfl) (.cons (by apply g30) (.cons (by apply g31) (.cons (by apply g30) (.cons (by apply g30) (.cons (by show _ = _; kernel_rfl) (.cons (ARun.round (P := Try.prog) (n := 0) (c := lp Try.f13 0) (tm := (tg [(1, AV.ptr 0 0), (0, AV.ptr 1 0), (0, AV.ptr 2 0), (0, AV.sw 3 10), (0, AV.v (.int .i64 0))] 107)) (h := [AObj.cells 0 true (kScAb6), AObj.cells 0 true [AV.v (Value.slice none 0 0), AV.v (Value.slice none 0 0), AV.v (.int .i64 0), AV.v (.int .i64 0), AV.v (.int .i64 0), AV.v (.int .i64 0), AV.v (.int .i64 0), AV.v (.int .i64 0), AV.v (.int .i64 0), AV.v (.int .i64 0), AV.v (.int .i64 0), AV.v (Value.slice none 0 0), AV.v (Value.slice none 0 0), AV.v (.int .i64 0), AV.v (.int .i64 0)], AObj.cells 0 true [AV.v (Value.slice none 0 0), AV.v (Value.slice none 0 0), AV.v (.int .i64 (kp 0 1 1099511627776)), AV.v (.int .i64 (kp 0 1 1073741824)), AV.v (.int .i64 (kp 0 0 67108864)), AV.v (.int .i64 (kp 0 1 1125899906842624)), AV.v (.int .i64 (kp 0 0 17179869184)), AV.v (.int .i64 (kp 0 0 17179869184)), AV.v (.int .i64 (kp 0 0 65536)), AV.v (.int .i64 (kp 0 0 67108864)), AV.v (.int .i64 (kp 0 0 67108864)), AV.v (Value.slice none 0 0), AV.v (Value.slice none 0 0), AV.v (.int .i64 (kp 0 0 1000)), AV.v (.int .i64 (kp 5 0 1099511627776))], AObj.rows true FF [(0, 0, 0, 0, 0, 0, 0, 0, 0, 0)]]) (tm1 := (tg [(1, AV.ptr 0 0), (0, AV.ptr 1 0), (0, AV.ptr 2 0), (0, AV.sw 3 10), (0, AV.v (.int .i64 1))] 107)) (h1 := (kScAb2)) [Orc.br true, Orc.br true, Orc.call [] (kScAb4) [] [], Orc.br false] [1, 2, 3, 4, 5] [0, 1, 2, 3, 5, 7] [isB true true, isB true true, Mixed Try.prog, inB 0 1, ltN 0 1, ACalls Try.prog 32 [AV.agg [AV.v (.int .i64 (kScAb1).1), AV.v (.int .i64 (kScAb1).snd.1), AV.v (.int .i64 (kScAb1).snd.snd.1), AV.v (.int .i64 (kScAb1).snd.snd.snd.1), AV.v (.int .i64 (kScAb1).snd.snd.snd.snd.1), AV.v (.int .i64 (kScAb1).snd.snd.snd.snd.snd.1), AV.v (.int .i64 (kScAb1).snd.snd.snd.snd.snd.snd.1), AV.v (.int .i64 (kScAb1).snd.snd.snd.snd.snd.snd.snd.1), AV.v (.int .i64 (kScAb1).snd.snd.snd.snd.snd.snd.snd.snd.1), AV.v (.int .i64 (kScAb1).snd.snd.snd.snd.snd.snd.snd.snd.2)]] [] (kScAb4) [] [], fitN 1 80, isB false false, fitN 1 8] (by kernel_rfl) (.cons (by show _ = _; kernel_rfl) (.cons (by show _ = _; kernel_rfl) (.cons (by show _ = _; kernel_rfl) (.cons (by first | decide | simp [nz, nn, inB, ltN, leN, eqN, eqZ, inC, zOk, growN, fitN]) (.cons (by first | decide | simp [nz, nn, inB, ltN, leN, eqN, eqZ, inC, zOk, growN, fitN]) (.cons (by apply g32) (.cons (by first | decide | simp [nz, nn, inB, ltN, leN, eqN, eqZ, inC, zOk, growN, fitN]) (.cons (by show _ = _; kernel_rfl) (.cons (by first | decide | simp [nz, nn, inB, ltN, leN, eqN, eqZ, inC, zOk, growN, fitN]) .nil))))))))) (ARun.last (id := 0) (P := Try.prog) (n := 0) (c := lp Try.f13 0) (tm := (tg [(1, AV.ptr 0 0), (0, AV.ptr 1 0), (0, AV.ptr 2 0), (0, AV.sw 3 10), (0, AV.v (.int .i64 1))] 107)) (h := (kScAb2)) (tm1 := (tg [(1, AV.ptr 0 0), (0, AV.ptr 1 0), (0, AV.ptr 2 0)] 109)) (h1 := (kScAb0)) [Orc.br false, Orc.br false] [1, 2, 3, 6, 7, 77, 99] [0, 1, 2, 4, 5] [isB false false, isB false false] (by kernel_rfl) (.cons (by show _ = _; kernel_rfl) (.cons (by show _ = _; kernel_rfl) .nil)))) (.cons (ARun.last (id := 2) (P := Try.prog) (n := 0) (c := lp Try.f13 1) (tm := (tg [(1, AV.ptr 0 0), (0, AV.ptr 1 0), (0, AV.ptr 2 0), (2, AV.v (.int .i64 0))] 106)) (h := (kScAb0)) (tm1 := (tg [(1, AV.ptr 0 0), (0, AV.ptr 1 0), (0, AV.ptr 2 0)] 109)) (h1 := (kScAb0)) [Orc.br false, Orc.br false] [1, 2, 3, 7, 99] [0, 1, 2, 3, 4] [isB false false, isB false false] (by kernel_rfl) (.cons (by show _ = _; kernel_rfl) (.cons (by show _ = _; kernel_rfl) .nil))) (.cons (ARun.last (id := 4) (P := Try.prog) (n := 0) (c := lp Try.f13 2) (tm := (tg [(1, AV.ptr 0 0), (0, AV.ptr 1 0), (0, AV.ptr 2 0), (3, AV.v (.int .i64 0))] 105)) (h := (kScAb0)) (tm1 := (tg [(2, AV.ptr 0 0), (0, AV.ptr 1 0)] 109)) (h1 := (kScAb3)) [Orc.br false, Orc.br false] [2, 3] [1, 2, 3, 4] [isB false false, isB false false] (by kernel_rfl) (.cons (by show _ = _; kernel_rfl) (.cons (by show _ = _; kernel_rfl) .nil))) .nil))))))))))
theorem f13e : ACalls Try.prog 13 [AV.agg [AV.v (Value.slice none 0 0), AV.v (Value.slice none 0 0), AV.v (.int .i64 0), AV.v (.int .i64 0), AV.v (.int .i64 0), AV.v (.int .i64 0), AV.v (.int .i64 0), AV.v (.int .i64 0), AV.v (.int .i64 0), AV.v (.int .i64 0), AV.v (.int .i64 0), AV.v (Value.slice none 0 0), AV.v (Value.slice none 0 0), AV.v (.int .i64 0), AV.v (.int .i64 5)]] [] (AV.agg [AV.sw 0 10, AV.sw 1 1, AV.v (.int .i64 (kp 0 1 1099511627776)), AV.v (.int .i64 (kp 0 1 1073741824)), AV.v (.int .i64 (kp 0 0 67108864)), AV.v (.int .i64 (kp 0 1 1125899906842624)), AV.v (.int .i64 (kp 0 0 17179869184)), AV.v (.int .i64 (kp 0 0 17179869184)), AV.v (.int .i64 (kp 0 0 65536)), AV.v (.int .i64 (kp 0 0 67108864)), AV.v (.int .i64 (kp 0 0 67108864)), AV.sw 2 1, AV.sw 3 1, AV.v (.int .i64 (kp 0 0 1000)), AV.v (.int .i64 (kp 5 0 1099511627776))]) [] [AObj.rows true FF [(kp (getR FF [(0, 0, 0, 0, 0, 0, 0, 0, 0, 0)] 0).1 0 2, kp (getR FF [(0, 0, 0, 0, 0, 0, 0, 0, 0, 0)] 0).snd.1 1 65536, kp (getR FF [(0, 0, 0, 0, 0, 0, 0, 0, 0, 0)] 0).snd.snd.1 1 1000, kp (getR FF [(0, 0, 0, 0, 0, 0, 0, 0, 0, 0)] 0).snd.snd.snd.1 0 1099511627776, kp (getR FF [(0, 0, 0, 0, 0, 0, 0, 0, 0, 0)] 0).snd.snd.snd.snd.1 1 1125899906842624, kp (getR FF [(0, 0, 0, 0, 0, 0, 0, 0, 0, 0)] 0).snd.snd.snd.snd.snd.1 (kp (getR FF [(0, 0, 0, 0, 0, 0, 0, 0, 0, 0)] 0).snd.snd.snd.snd.1 1 1125899906842624) 1125899906842624, kp (getR FF [(0, 0, 0, 0, 0, 0, 0, 0, 0, 0)] 0).snd.snd.snd.snd.snd.snd.1 1 1125899906842624, kp (getR FF [(0, 0, 0, 0, 0, 0, 0, 0, 0, 0)] 0).snd.snd.snd.snd.snd.snd.snd.1 1 1125899906842624, kp (getR FF [(0, 0, 0, 0, 0, 0, 0, 0, 0, 0)] 0).snd.snd.snd.snd.snd.snd.snd.snd.1 262144 16777216, kp (getR FF [(0, 0, 0, 0, 0, 0, 0, 0, 0, 0)] 0).snd.snd.snd.snd.snd.snd.snd.snd.2 (kp (getR FF [(0, 0, 0, 0, 0, 0, 0, 0, 0, 0)] 0).snd.1 1 65536) 1073741824)], AObj.ints 0 true .i64 [1000], AObj.ints 0 true .i64 [], AObj.ints 0 true IntKind.u32 []] := (f13e_1 )
theorem f10n_1  : ACalls Try.prog 10 [AV.v (Value.slice none 0 0)] [] (AV.tup (kScAb7)) [] [AObj.rows false FF [], AObj.ints 0 false .i64 [], AObj.ints 0 false .i64 [], AObj.ints 0 false IntKind.u32 []] :=
  ACalls.nb (res := AV.tup (kScAb7)) (.of_out [Orc.call [] (AV.v (Value.bool false)) [] [], Orc.br true, Orc.fin (Gh.nilc 0 0 10 (AObj.rows false FF [])), Orc.fin (Gh.nilc 0 1 1 (AObj.ints 0 false .i64 [])), Orc.fin (Gh.nilc 0 11 1 (AObj.ints 0 false .i64 [])), Orc.fin (Gh.nilc 0 12 1 (AObj.ints 0 false IntKind.u32 []))] [1, 2, 3, 4] [inC 0 0 0, ACalls Try.prog 21 [AV.v (Value.string (bs [])), AV.v (Value.string (bs [76, 69, 65, 84]))] [] (AV.v (Value.bool false)) [] [], isB true true] Try.func10 (by kernel_rfl) (by kernel_rfl) (.cons (by first | decide | simp [nz, nn, inB, ltN, leN, eqN, eqZ, inC, zOk, growN, fitN]) (.cons (by apply f21 <;> (first | (simp [nz, nn, inB, ltN]; done) | decide)) (.cons (by show _ = _; kernel_rfl) .nil))))
theorem f10n : ACalls Try.prog 10 [AV.v (Value.slice none 0 0)] [] (AV.tup [AV.agg [AV.sw 0 10, AV.sw 1 1, AV.v (.int .i64 0), AV.v (.int .i64 0), AV.v (.int .i64 0), AV.v (.int .i64 0), AV.v (.int .i64 0), AV.v (.int .i64 0), AV.v (.int .i64 0), AV.v (.int .i64 0), AV.v (.int .i64 0), AV.sw 2 1, AV.sw 3 1, AV.v (.int .i64 0), AV.v (.int .i64 0)], AV.v (.int .i64 5), AV.v (.int .i64 0)]) [] [AObj.rows false FF [], AObj.ints 0 false .i64 [], AObj.ints 0 false .i64 [], AObj.ints 0 false IntKind.u32 []] := (f10n_1 )
end Go.Proofs.Ytlmnohdgfjienaa.Cf

set_option maxRecDepth 100000
set_option linter.all false
set_option maxHeartbeats 0
namespace Go.Proofs.Ytlmnohdgfjienaa.Cf
open Go.Abs Go.Proofs.Ytlmnohdgfjienaa.Code Go.Proofs.Ytlmnohdgfjienaa.Code
def eX : El FF := (0, 1, 1, 0, 1, 1, 1, 1, 262144, 1)
/-- the example's bytes -/
def eBX : List Int := eB [eX] [1000] [] [] 1 1 0 1 0 0 0 0 0 0 5
theorem q13e : ACalls Try.prog 13 [AV.agg [AV.v (Value.slice none 0 0), AV.v (Value.slice none 0 0), iI 0, iI 0, iI 0, iI 0, iI 0, iI 0, iI 0, iI 0, iI 0, AV.v (Value.slice none 0 0), AV.v (Value.slice none 0 0), iI 0, iI 5]] [] (AV.agg [AV.sw 0 10, AV.sw 1 1, iI 1, iI 1, iI 0, iI 1, iI 0, iI 0, iI 0, iI 0, iI 0, AV.sw 2 1, AV.sw 3 1, iI 0, iI 5]) [] [AObj.rows false FF [eX], AObj.ints 0 false .i64 [1000], AObj.ints 0 false .i64 [], AObj.ints 0 false .u32 []] := f13e.freeze
theorem ckX : ckE 1 1 0 1 0 0 0 0 0 0 5 (lenR FF [eX]) (lenI [1000]) (lenI []) (lenI []) (fb [eX] [1000]) (pix []) = 0 := by decide
theorem cfX : cfgB [eX] [1000] [] [] 1 1 0 1 0 0 0 0 0 0 5 = true := by decide
theorem q8e : ACalls Try.prog 8 [cC 1 1 0 1 0 0 0 0 0 0 5] (hH [eX] [1000] [] []) (AV.tup [AV.sw 4 1, iI 0]) [] [AObj.ints 0 false .u8 eBX] := by
  have h := q8 [eX] [1000] [] [] 1 1 0 1 0 0 0 0 0 0 5 cfX
  rw [ckX] at h
  exact h
theorem eBX_eq : eBX = 76 :: 69 :: 65 :: 84 :: eB0 [eX] [1000] [] [] 1 1 0 1 0 0 0 0 0 0 5 := by
  unfold eBX eB; rw [ckX]; rfl
theorem redX : Red eBX [eX] [1000] [] [] 1 1 0 1 0 0 0 0 0 0 5 := by rw [eBX_eq]; exact dec_enc [eX] [1000] [] [] 1 1 0 1 0 0 0 0 0 0 5 cfX rfl ckX
theorem byX : byB eBX = true := by
  rw [eBX_eq]; exact byB_app (a := [76, 69, 65, 84]) (by decide) (eB_by [eX] [1000] [] [] 1 1 0 1 0 0 0 0 0 0 5 cfX rfl)
theorem lenX : eBX.length ≤ 50000 := by
  rw [eBX_eq]
  have v0 := vb_len (icvB (nlen (lenR FF [eX])))
  have v2 := vb_len (icvB (nlen (lenI [])))
  have vy := vb_len (icvB 0)
  have zA := zb_len (l := [1, 1, 0, 1, 0, 0, 0, 0, 0]) (by decide)
  have zZ := zb_len (l := [5]) (by decide)
  have fl : (flB [eX] [1000] (0 + 1) 0).length ≤ 110 := flB_len (j0 := [eX]) (j1 := [1000]) (by decide) (by decide) rfl 1 0 rfl
  unfold eB0
  simp only [List.length_cons, List.length_append, List.length_nil, zb, drB, List.flatMap_nil] at *
  omega
theorem g10e : ACalls Try.prog 10 [AV.sw 0 1] [AObj.ints 0 false .u8 eBX] (AV.tup [AV.agg [AV.sw 1 10, AV.sw 2 1, iI 1, iI 1, iI 0, iI 1, iI 0, iI 0, iI 0, iI 0, iI 0, AV.sw 3 1, AV.sw 4 1, iI 0, iI 5], iI 0, iI (plc eBX)]) [] [AObj.rows false FF [eX], AObj.ints 0 false .i64 [1000], AObj.ints 0 false .i64 [], AObj.ints 0 false .u32 []] := by
  have h := g10 eBX lenX byX
  obtain ⟨h1, h2, h3, h4, h5, ⟨v0, v1, v2, v3, v4, v5, v6, v7, v8⟩, h7, h8⟩ := redX
  unfold zI zL zF at h
  rw [h1, h2, h3, h4, h5, v0, v1, v2, v3, v4, v5, v6, v7, v8, h7, h8] at h
  exact h
end Go.Proofs.Ytlmnohdgfjienaa.Cf

set_option maxRecDepth 100000
set_option linter.all false
set_option maxHeartbeats 0
set_option linter.unusedSimpArgs false
set_option linter.unusedVariables false
namespace Go.Proofs.Ytlmnohdgfjienaa.Cf
open Go.Abs Go.Proofs.Ytlmnohdgfjienaa.Code Go.Proofs.Ytlmnohdgfjienaa.Code
theorem f7_1  : ACalls Try.prog 7 [] [] (AV.v (Value.bool true)) [] [] :=
  ACalls.nb (res := AV.v (Value.bool true)) (.of_out [Orc.call [] (AV.tup [AV.agg [AV.sw 0 10, AV.sw 1 1, AV.v (.int .i64 0), AV.v (.int .i64 0), AV.v (.int .i64 0), AV.v (.int .i64 0), AV.v (.int .i64 0), AV.v (.int .i64 0), AV.v (.int .i64 0), AV.v (.int .i64 0), AV.v (.int .i64 0), AV.sw 2 1, AV.sw 3 1, AV.v (.int .i64 0), AV.v (.int .i64 0)], AV.v (.int .i64 5), AV.v (.int .i64 0)]) [] [AObj.rows false FF [], AObj.ints 0 false .i64 [], AObj.ints 0 false .i64 [], AObj.ints 0 false IntKind.u32 []], Orc.call [] (AV.agg [AV.sw 0 10, AV.sw 1 1, AV.v (.int .i64 1), AV.v (.int .i64 1), AV.v (.int .i64 0), AV.v (.int .i64 1), AV.v (.int .i64 0), AV.v (.int .i64 0), AV.v (.int .i64 0), AV.v (.int .i64 0), AV.v (.int .i64 0), AV.sw 2 1, AV.sw 3 1, AV.v (.int .i64 0), AV.v (.int .i64 5)]) [] [AObj.rows false FF [(Int.ofNat 0, Int.ofNat 1, Int.ofNat 1, Int.ofNat 0, Int.ofNat 1, Int.ofNat 1, Int.ofNat 1, Int.ofNat 1, Int.ofNat 262144, Int.ofNat 1)], AObj.ints 0 false .i64 [1000], AObj.ints 0 false .i64 [], AObj.ints 0 false IntKind.u32 []], Orc.call [5, 6, 7, 8] (AV.tup [AV.sw 4 1, AV.v (.int .i64 0)]) [] [AObj.ints 0 false IntKind.u8 eBX], Orc.call [10] (AV.tup [AV.agg [AV.sw 1 10, AV.sw 2 1, AV.v (.int .i64 1), AV.v (.int .i64 1), AV.v (.int .i64 0), AV.v (.int .i64 1), AV.v (.int .i64 0), AV.v (.int .i64 0), AV.v (.int .i64 0), AV.v (.int .i64 0), AV.v (.int .i64 0), AV.sw 3 1, AV.sw 4 1, AV.v (.int .i64 0), AV.v (.int .i64 5)], AV.v (.int .i64 0), AV.v (.int .i64 (plc eBX))]) [] [AObj.rows false FF [(Int.ofNat 0, Int.ofNat 1, Int.ofNat 1, Int.ofNat 0, Int.ofNat 1, Int.ofNat 1, Int.ofNat 1, Int.ofNat 1, Int.ofNat 262144, Int.ofNat 1)], AObj.ints 0 false .i64 [1000], AObj.ints 0 false .i64 [], AObj.ints 0 false IntKind.u32 []], Orc.br true, Orc.br true, Orc.br true, Orc.br true] [] [ACalls Try.prog 10 [AV.v (Value.slice none 0 0)] [] (AV.tup [AV.agg [AV.sw 0 10, AV.sw 1 1, AV.v (.int .i64 0), AV.v (.int .i64 0), AV.v (.int .i64 0), AV.v (.int .i64 0), AV.v (.int .i64 0), AV.v (.int .i64 0), AV.v (.int .i64 0), AV.v (.int .i64 0), AV.v (.int .i64 0), AV.sw 2 1, AV.sw 3 1, AV.v (.int .i64 0), AV.v (.int .i64 0)], AV.v (.int .i64 5), AV.v (.int .i64 0)]) [] [AObj.rows false FF [], AObj.ints 0 false .i64 [], AObj.ints 0 false .i64 [], AObj.ints 0 false IntKind.u32 []], ACalls Try.prog 13 [AV.agg [AV.v (Value.slice none 0 0), AV.v (Value.slice none 0 0), AV.v (.int .i64 0), AV.v (.int .i64 0), AV.v (.int .i64 0), AV.v (.int .i64 0), AV.v (.int .i64 0), AV.v (.int .i64 0), AV.v (.int .i64 0), AV.v (.int .i64 0), AV.v (.int .i64 0), AV.v (Value.slice none 0 0), AV.v (Value.slice none 0 0), AV.v (.int .i64 0), AV.v (.int .i64 5)]] [] (AV.agg [AV.sw 0 10, AV.sw 1 1, AV.v (.int .i64 1), AV.v (.int .i64 1), AV.v (.int .i64 0), AV.v (.int .i64 1), AV.v (.int .i64 0), AV.v (.int .i64 0), AV.v (.int .i64 0), AV.v (.int .i64 0), AV.v (.int .i64 0), AV.sw 2 1, AV.sw 3 1, AV.v (.int .i64 0), AV.v (.int .i64 5)]) [] [AObj.rows false FF [(0, 1, 1, 0, 1, 1, 1, 1, 262144, 1)], AObj.ints 0 false .i64 [1000], AObj.ints 0 false .i64 [], AObj.ints 0 false IntKind.u32 []], ACalls Try.prog 8 [AV.agg [AV.sw 0 10, AV.sw 1 1, AV.v (.int .i64 1), AV.v (.int .i64 1), AV.v (.int .i64 0), AV.v (.int .i64 1), AV.v (.int .i64 0), AV.v (.int .i64 0), AV.v (.int .i64 0), AV.v (.int .i64 0), AV.v (.int .i64 0), AV.sw 2 1, AV.sw 3 1, AV.v (.int .i64 0), AV.v (.int .i64 5)]] [AObj.rows false FF [(0, 1, 1, 0, 1, 1, 1, 1, 262144, 1)], AObj.ints 0 false .i64 [1000], AObj.ints 0 false .i64 [], AObj.ints 0 false IntKind.u32 []] (AV.tup [AV.sw 4 1, AV.v (.int .i64 0)]) [] [AObj.ints 0 false IntKind.u8 eBX], ACalls Try.prog 10 [AV.sw 0 1] [AObj.ints 0 false IntKind.u8 eBX] (AV.tup [AV.agg [AV.sw 1 10, AV.sw 2 1, AV.v (.int .i64 1), AV.v (.int .i64 1), AV.v (.int .i64 0), AV.v (.int .i64 1), AV.v (.int .i64 0), AV.v (.int .i64 0), AV.v (.int .i64 0), AV.v (.int .i64 0), AV.v (.int .i64 0), AV.sw 3 1, AV.sw 4 1, AV.v (.int .i64 0), AV.v (.int .i64 5)], AV.v (.int .i64 0), AV.v (.int .i64 (plc eBX))]) [] [AObj.rows false FF [(0, 1, 1, 0, 1, 1, 1, 1, 262144, 1)], AObj.ints 0 false .i64 [1000], AObj.ints 0 false .i64 [], AObj.ints 0 false IntKind.u32 []], isB true true, isB true true, isB true true, isB true true] Try.func7 (by kernel_rfl) (by kernel_rfl) (.cons (by apply f10n) (.cons (by apply q13e) (.cons (by apply q8e) (.cons (by apply g10e) (.cons (by show _ = _; kernel_rfl) (.cons (by show _ = _; kernel_rfl) (.cons (by show _ = _; kernel_rfl) (.cons (by show _ = _; kernel_rfl) .nil)))))))))
theorem f7 : ACalls Try.prog 7 [] [] (AV.v (Value.bool true)) [] [] := (f7_1 )
def f6xr0 (j0 : List (El FF)) (j1 j2 j3 : List Int) (r a0 a1 a2 a3 a4 a5 a6 a7 y z : Int) : Bool := bif ilt 300 (nlen (lenR FF j0)) then true else bif ilt 300 (nlen (lenI j1)) then true else bif ilt 300 (nlen (lenI j2)) then true else ilt 300 (nlen (lenI j3))
theorem f6x_1 (j0 : List (El FF)) (j1 j2 j3 : List Int) (r a0 a1 a2 a3 a4 a5 a6 a7 y z : Int)  (d0 : (ilt 300 (nlen (lenR FF j0))) = true) : ACalls Try.prog 6 [(cC r a0 a1 a2 a3 a4 a5 a6 a7 y z)] (hH j0 j1 j2 j3) (AV.v (Value.bool true)) [] [] :=
  ACalls.nb (res := AV.v (Value.bool true)) (.of_out [Orc.br true, Orc.br true, Orc.br true] [0, 1, 2, 3] [isB (ilt 300 (nlen (lenR FF j0))) true, isB true true, isB true true] Try.func6 (by kernel_rfl) (by kernel_rfl) (.cons d0 (.cons (by show _ = _; kernel_rfl) (.cons (by show _ = _; kernel_rfl) .nil))))
theorem f6x_2 (j0 : List (El FF)) (j1 j2 j3 : List Int) (r a0 a1 a2 a3 a4 a5 a6 a7 y z : Int)  (d0 : (ilt 300 (nlen (lenR FF j0))) = false) (d1 : (ilt 300 (nlen (lenI j1))) = true) : ACalls Try.prog 6 [(cC r a0 a1 a2 a3 a4 a5 a6 a7 y z)] (hH j0 j1 j2 j3) (AV.v (Value.bool true)) [] [] :=
  ACalls.nb (res := AV.v (Value.bool true)) (.of_out [Orc.br false, Orc.br true, Orc.br true] [0, 1, 2, 3] [isB (ilt 300 (nlen (lenR FF j0))) false, isB (ilt 300 (nlen (lenI j1))) true, isB true true] Try.func6 (by kernel_rfl) (by kernel_rfl) (.cons d0 (.cons d1 (.cons (by show _ = _; kernel_rfl) .nil))))
theorem f6x_3 (j0 : List (El FF)) (j1 j2 j3 : List Int) (r a0 a1 a2 a3 a4 a5 a6 a7 y z : Int)  (d0 : (ilt 300 (nlen (lenR FF j0))) = false) (d1 : (ilt 300 (nlen (lenI j1))) = false) (d2 : (ilt 300 (nlen (lenI j2))) = true) : ACalls Try.prog 6 [(cC r a0 a1 a2 a3 a4 a5 a6 a7 y z)] (hH j0 j1 j2 j3) (AV.v (Value.bool true)) [] [] :=
  ACalls.nb (res := AV.v (Value.bool true)) (.of_out [Orc.br false, Orc.br false, Orc.br true] [0, 1, 2, 3] [isB (ilt 300 (nlen (lenR FF j0))) false, isB (ilt 300 (nlen (lenI j1))) false, isB (ilt 300 (nlen (lenI j2))) true] Try.func6 (by kernel_rfl) (by kernel_rfl) (.cons d0 (.cons d1 (.cons d2 .nil))))
theorem f6x_4 (j0 : List (El FF)) (j1 j2 j3 : List Int) (r a0 a1 a2 a3 a4 a5 a6 a7 y z : Int)  (d0 : (ilt 300 (nlen (lenR FF j0))) = false) (d1 : (ilt 300 (nlen (lenI j1))) = false) (d2 : (ilt 300 (nlen (lenI j2))) = false) : ACalls Try.prog 6 [(cC r a0 a1 a2 a3 a4 a5 a6 a7 y z)] (hH j0 j1 j2 j3) (AV.v (Value.bool (ilt 300 (nlen (lenI j3))))) [] [] :=
  ACalls.nb (res := AV.v (Value.bool (ilt 300 (nlen (lenI j3))))) (.of_out [Orc.br false, Orc.br false, Orc.br false] [0, 1, 2, 3] [isB (ilt 300 (nlen (lenR FF j0))) false, isB (ilt 300 (nlen (lenI j1))) false, isB (ilt 300 (nlen (lenI j2))) false] Try.func6 (by kernel_rfl) (by kernel_rfl) (.cons d0 (.cons d1 (.cons d2 .nil))))
theorem f6x (j0 : List (El FF)) (j1 j2 j3 : List Int) (r a0 a1 a2 a3 a4 a5 a6 a7 y z : Int) : ACalls Try.prog 6 [(cC r a0 a1 a2 a3 a4 a5 a6 a7 y z)] (hH j0 j1 j2 j3) (AV.v (Value.bool (f6xr0 j0 j1 j2 j3 r a0 a1 a2 a3 a4 a5 a6 a7 y z))) [] [] := by
  have h := (ACalls.cond (ilt 300 (nlen (lenR FF j0))) (fun d0 => (f6x_1 j0 j1 j2 j3 r a0 a1 a2 a3 a4 a5 a6 a7 y z d0)) (fun d0 => (ACalls.cond (ilt 300 (nlen (lenI j1))) (fun d1 => (f6x_2 j0 j1 j2 j3 r a0 a1 a2 a3 a4 a5 a6 a7 y z d0 d1)) (fun d1 => (ACalls.cond (ilt 300 (nlen (lenI j2))) (fun d2 => (f6x_3 j0 j1 j2 j3 r a0 a1 a2 a3 a4 a5 a6 a7 y z d0 d1 d2)) (fun d2 => (f6x_4 j0 j1 j2 j3 r a0 a1 a2 a3 a4 a5 a6 a7 y z d0 d1 d2)))))))
  simp only [c_int, c_bool, c_str, c_agg, c_tup, c_fn, c_ifc, c_sl, c_pe, c_ptr, c_rows, c_siter, c_consA, c_consU, c_consO, c_cells, c_ints, c_bools, c_strs, c_same] at h
  exact h
/-- is it longer than the law looks? -/
def gR (n0 n1 n2 n3 : Nat) : Bool := !decide (n0 ≤ 300 ∧ n1 ≤ 300 ∧ n2 ≤ 300 ∧ n3 ≤ 300)
theorem gR_f {n0 n1 n2 n3 : Nat} (h : gR n0 n1 n2 n3 = false) : n0 ≤ 300 ∧ n1 ≤ 300 ∧ n2 ≤ 300 ∧ n3 ≤ 300 := by
  unfold gR at h; simpa using h
theorem g6 (j0 : List (El FF)) (j1 j2 j3 : List Int) (r a0 a1 a2 a3 a4 a5 a6 a7 y z : Int) : ACalls Try.prog 6 [cC r a0 a1 a2 a3 a4 a5 a6 a7 y z] (hH j0 j1 j2 j3) (iB (gR (lenR FF j0) (lenI j1) (lenI j2) (lenI j3))) [] [] := by
  have h := f6x j0 j1 j2 j3 r a0 a1 a2 a3 a4 a5 a6 a7 y z
  have e : f6xr0 j0 j1 j2 j3 r a0 a1 a2 a3 a4 a5 a6 a7 y z = gR (lenR FF j0) (lenI j1) (lenI j2) (lenI j3) := by
    unfold f6xr0 gR ilt nlen
    by_cases h0 : lenR FF j0 ≤ 300 <;> by_cases h1 : lenI j1 ≤ 300 <;> by_cases h2 : lenI j2 ≤ 300 <;> by_cases h3 : lenI j3 ≤ 300 <;> simp [h0, h1, h2, h3] <;> omega
  rw [e] at h
  exact h
theorem f3_1 (j0 : List (El FF)) (j1 j2 j3 : List Int) (r a0 a1 a2 a3 a4 a5 a6 a7 y z : Int)  (d0 : (gR (lenR FF j0) (lenI j1) (lenI j2) (lenI j3)) = true) : ACalls Try.prog 3 [(cC r a0 a1 a2 a3 a4 a5 a6 a7 y z)] (hH j0 j1 j2 j3) (AV.v (Value.bool true)) [] [] :=
  ACalls.nb (res := AV.v (Value.bool true)) (.of_out [Orc.call [0, 1, 2, 3] (AV.v (Value.bool (gR (lenR FF j0) (lenI j1) (lenI j2) (lenI j3)))) [] [], Orc.br true, Orc.call [] (AV.v (Value.bool true)) [] []] [0, 1, 2, 3] [ACalls Try.prog 6 [(cC r a0 a1 a2 a3 a4 a5 a6 a7 y z)] (hH j0 j1 j2 j3) (AV.v (Value.bool (gR (lenR FF j0) (lenI j1) (lenI j2) (lenI j3)))) [] [], isB (gR (lenR FF j0) (lenI j1) (lenI j2) (lenI j3)) true, ACalls Try.prog 7 [] [] (AV.v (Value.bool true)) [] []] Try.func3 (by kernel_rfl) (by kernel_rfl) (.cons (by apply g6) (.cons d0 (.cons (by apply f7) .nil))))
theorem f3_2 (j0 : List (El FF)) (j1 j2 j3 : List Int) (r a0 a1 a2 a3 a4 a5 a6 a7 y z : Int)  (d0 : (gR (lenR FF j0) (lenI j1) (lenI j2) (lenI j3)) = false) (s0 : ((gR (lenR FF j0) (lenI j1) (lenI j2) (lenI j3)) = false) → cfgB j0 j1 j2 j3 r a0 a1 a2 a3 a4 a5 a6 a7 y z = true) : ACalls Try.prog 3 [(cC r a0 a1 a2 a3 a4 a5 a6 a7 y z)] (hH j0 j1 j2 j3) (AV.v (Value.bool true)) [] [] :=
  ACalls.nb (res := AV.v (Value.bool true)) (.of_out [Orc.call [0, 1, 2, 3] (AV.v (Value.bool (gR (lenR FF j0) (lenI j1) (lenI j2) (lenI j3)))) [] [], Orc.br false, Orc.call [0, 1, 2, 3] (AV.tup [AV.sw 4 1, AV.v (.int .i64 (ckE r a0 a1 a2 a3 a4 a5 a6 a7 y z (lenR FF j0) (lenI j1) (lenI j2) (lenI j3) (fb j0 j1) (pix j2)))]) [] [AObj.ints 0 false IntKind.u8 (eB j0 j1 j2 j3 r a0 a1 a2 a3 a4 a5 a6 a7 y z)], Orc.call [0, 1, 2, 3] (AV.tup [AV.sw 4 1, AV.v (.int .i64 (ckE r a0 a1 a2 a3 a4 a5 a6 a7 y z (lenR FF j0) (lenI j1) (lenI j2) (lenI j3) (fb j0 j1) (pix j2)))]) [] [AObj.ints 0 false IntKind.u8 (eB j0 j1 j2 j3 r a0 a1 a2 a3 a4 a5 a6 a7 y z)], Orc.br true, Orc.br true, Orc.call [] (AV.v (Value.bool true)) [] []] [0, 1, 2, 3] [ACalls Try.prog 6 [(cC r a0 a1 a2 a3 a4 a5 a6 a7 y z)] (hH j0 j1 j2 j3) (AV.v (Value.bool (gR (lenR FF j0) (lenI j1) (lenI j2) (lenI j3)))) [] [], isB (gR (lenR FF j0) (lenI j1) (lenI j2) (lenI j3)) false, ACalls Try.prog 8 [(cC r a0 a1 a2 a3 a4 a5 a6 a7 y z)] (hH j0 j1 j2 j3) (AV.tup [AV.sw 4 1, AV.v (.int .i64 (ckE r a0 a1 a2 a3 a4 a5 a6 a7 y z (lenR FF j0) (lenI j1) (lenI j2) (lenI j3) (fb j0 j1) (pix j2)))]) [] [AObj.ints 0 false IntKind.u8 (eB j0 j1 j2 j3 r a0 a1 a2 a3 a4 a5 a6 a7 y z)], ACalls Try.prog 9 [(cC r a0 a1 a2 a3 a4 a5 a6 a7 y z)] (hH j0 j1 j2 j3) (AV.tup [AV.sw 4 1, AV.v (.int .i64 (ckE r a0 a1 a2 a3 a4 a5 a6 a7 y z (lenR FF j0) (lenI j1) (lenI j2) (lenI j3) (fb j0 j1) (pix j2)))]) [] [AObj.ints 0 false IntKind.u8 (eB j0 j1 j2 j3 r a0 a1 a2 a3 a4 a5 a6 a7 y z)], isB (seqS (strI (eB j0 j1 j2 j3 r a0 a1 a2 a3 a4 a5 a6 a7 y z)) (strI (eB j0 j1 j2 j3 r a0 a1 a2 a3 a4 a5 a6 a7 y z))) true, isB (ieq (ckE r a0 a1 a2 a3 a4 a5 a6 a7 y z (lenR FF j0) (lenI j1) (lenI j2) (lenI j3) (fb j0 j1) (pix j2)) (ckE r a0 a1 a2 a3 a4 a5 a6 a7 y z (lenR FF j0) (lenI j1) (lenI j2) (lenI j3) (fb j0 j1) (pix j2))) true, ACalls Try.prog 7 [] [] (AV.v (Value.bool true)) [] []] Try.func3 (by kernel_rfl) (by kernel_rfl) (.cons (by apply g6) (.cons d0 (.cons (by apply q8 <;> (first | exact (s0 d0))) (.cons (by apply q9 <;> (first | exact (s0 d0))) (.cons (rf_seqS _) (.cons (rf_ieq _) (.cons (by apply f7) .nil))))))))
theorem f3 (j0 : List (El FF)) (j1 j2 j3 : List Int) (r a0 a1 a2 a3 a4 a5 a6 a7 y z : Int) (s0 : ((gR (lenR FF j0) (lenI j1) (lenI j2) (lenI j3)) = false) → cfgB j0 j1 j2 j3 r a0 a1 a2 a3 a4 a5 a6 a7 y z = true) : ACalls Try.prog 3 [(cC r a0 a1 a2 a3 a4 a5 a6 a7 y z)] (hH j0 j1 j2 j3) (AV.v (Value.bool true)) [] [] := by
  have h := (ACalls.cond (gR (lenR FF j0) (lenI j1) (lenI j2) (lenI j3)) (fun d0 => (f3_1 j0 j1 j2 j3 r a0 a1 a2 a3 a4 a5 a6 a7 y z d0)) (fun d0 => (f3_2 j0 j1 j2 j3 r a0 a1 a2 a3 a4 a5 a6 a7 y z d0 s0)))
  simp only [c_int, c_bool, c_str, c_agg, c_tup, c_fn, c_ifc, c_sl, c_pe, c_ptr, c_rows, c_siter, c_consA, c_consU, c_consO, c_cells, c_ints, c_bools, c_strs, c_same] at h
  exact h
end Go.Proofs.Ytlmnohdgfjienaa.Cf

set_option maxRecDepth 100000
set_option linter.all false
set_option maxHeartbeats 0
set_option linter.unusedSimpArgs false
set_option linter.unusedVariables false
namespace Go.Proofs.Ytlmnohdgfjienaa.Cf
open Go.Abs Go.Proofs.Ytlmnohdgfjienaa.Code Go.Proofs.Ytlmnohdgfjienaa.Code
@[reducible] def kSdP0 (j0 : List (El FF)) (j1 : List Int) (j2 : List Int) (j3 : List Int) (r : Int) (a0 : Int) (a1 : Int) (a2 : Int) (a3 : Int) (a4 : Int) (a5 : Int) (a6 : Int) (a7 : Int) (y : Int) (z : Int) := [AObj.rows false FF j0, AObj.ints 0 false .i64 j1, AObj.ints 0 false .i64 j2, AObj.ints 0 false IntKind.u32 j3, AObj.rows false FF j0, AObj.ints 0 false .i64 j1, AObj.ints 0 false .i64 j2, AObj.ints 0 false IntKind.u32 j3, AObj.cells 0 true [AV.sw 0 10, AV.sw 1 1, AV.v (.int .i64 r), AV.v (.int .i64 a0), AV.v (.int .i64 a1), AV.v (.int .i64 a2), AV.v (.int .i64 a3), AV.v (.int .i64 a4), AV.v (.int .i64 a5), AV.v (.int .i64 a6), AV.v (.int .i64 a7), AV.sw 2 1, AV.sw 3 1, AV.v (.int .i64 y), AV.v (.int .i64 z)], AObj.cells 0 true [AV.sw 4 10, AV.sw 5 1, AV.v (.int .i64 r), AV.v (.int .i64 a0), AV.v (.int .i64 a1), AV.v (.int .i64 a2), AV.v (.int .i64 a3), AV.v (.int .i64 a4), AV.v (.int .i64 a5), AV.v (.int .i64 a6), AV.v (.int .i64 a7), AV.sw 6 1, AV.sw 7 1, AV.v (.int .i64 y), AV.v (.int .i64 z)]]
def L12pS (j0 : List (El FF)) (j1 j2 j3 : List Int) (r a0 a1 a2 a3 a4 a5 a6 a7 y z x5 : Int) : Tm := (tg [(2, AV.ptr 8 0), (0, AV.ptr 9 0), (0, AV.v (Value.bool false)), (0, AV.v (.int .i64 x5))] 137)
def L12pH (j0 : List (El FF)) (j1 j2 j3 : List Int) (r a0 a1 a2 a3 a4 a5 a6 a7 y z x5 : Int) : List AObj := [AObj.rows false FF j0, AObj.ints 0 false .i64 j1, AObj.ints 0 false .i64 j2, AObj.ints 0 false IntKind.u32 j3, AObj.rows false FF j0, AObj.ints 0 false .i64 j1, AObj.ints 0 false .i64 j2, AObj.ints 0 false IntKind.u32 j3, AObj.cells 0 true [AV.sw 0 10, AV.sw 1 1, AV.v (.int .i64 r), AV.v (.int .i64 a0), AV.v (.int .i64 a1), AV.v (.int .i64 a2), AV.v (.int .i64 a3), AV.v (.int .i64 a4), AV.v (.int .i64 a5), AV.v (.int .i64 a6), AV.v (.int .i64 a7), AV.sw 2 1, AV.sw 3 1, AV.v (.int .i64 y), AV.v (.int .i64 z)], AObj.cells 0 true [AV.sw 4 10, AV.sw 5 1, AV.v (.int .i64 r), AV.v (.int .i64 a0), AV.v (.int .i64 a1), AV.v (.int .i64 a2), AV.v (.int .i64 a3), AV.v (.int .i64 a4), AV.v (.int .i64 a5), AV.v (.int .i64 a6), AV.v (.int .i64 a7), AV.sw 6 1, AV.sw 7 1, AV.v (.int .i64 y), AV.v (.int .i64 z)]]
def L12pT (j0 : List (El FF)) (j1 j2 j3 : List Int) (r a0 a1 a2 a3 a4 a5 a6 a7 y z : Int) : Tm := (tg [(2, AV.ptr 8 0), (0, AV.ptr 9 0), (0, AV.v (Value.bool false))] 138)
def L12pU (j0 : List (El FF)) (j1 j2 j3 : List Int) (r a0 a1 a2 a3 a4 a5 a6 a7 y z : Int) : List AObj := [AObj.rows false FF j0, AObj.ints 0 false .i64 j1, AObj.ints 0 false .i64 j2, AObj.ints 0 false IntKind.u32 j3, AObj.rows false FF j0, AObj.ints 0 false .i64 j1, AObj.ints 0 false .i64 j2, AObj.ints 0 false IntKind.u32 j3, AObj.cells 0 true [AV.sw 0 10, AV.sw 1 1, AV.v (.int .i64 r), AV.v (.int .i64 a0), AV.v (.int .i64 a1), AV.v (.int .i64 a2), AV.v (.int .i64 a3), AV.v (.int .i64 a4), AV.v (.int .i64 a5), AV.v (.int .i64 a6), AV.v (.int .i64 a7), AV.sw 2 1, AV.sw 3 1, AV.v (.int .i64 y), AV.v (.int .i64 z)], AObj.cells 0 true [AV.sw 4 10, AV.sw 5 1, AV.v (.int .i64 r), AV.v (.int .i64 a0), AV.v (.int .i64 a1), AV.v (.int .i64 a2), AV.v (.int .i64 a3), AV.v (.int .i64 a4), AV.v (.int .i64 a5), AV.v (.int .i64 a6), AV.v (.int .i64 a7), AV.sw 6 1, AV.sw 7 1, AV.v (.int .i64 y), AV.v (.int .i64 z)]]
theorem L12p_1 (j0 : List (El FF)) (j1 j2 j3 : List Int) (r a0 a1 a2 a3 a4 a5 a6 a7 y z x5 : Int)  (d0 : (ilt x5 (nlen (lenR FF j0))) = true) (s0 : inB x5 (lenR FF j0)) (s1 : ltN (idxN 0 x5) (lenR FF j0)) {e : AExit} {tm2 : Tm} {h2 : List AObj} (b : ARun Try.prog 8 (.loop (lp Try.f12 0)) (L12pS j0 j1 j2 j3 r a0 a1 a2 a3 a4 a5 a6 a7 y z  (iadd .i64 x5 1)) (L12pH j0 j1 j2 j3 r a0 a1 a2 a3 a4 a5 a6 a7 y z  (iadd .i64 x5 1)) e tm2 h2) : ARun Try.prog 8 (.loop (lp Try.f12 0)) (L12pS j0 j1 j2 j3 r a0 a1 a2 a3 a4 a5 a6 a7 y z  x5) (L12pH j0 j1 j2 j3 r a0 a1 a2 a3 a4 a5 a6 a7 y z  x5) e tm2 h2 :=
  .round [Orc.br true, Orc.br false] [2, 3, 4, 5] [0, 1, 2, 3, 4, 5, 6, 7, 8, 9] [isB (ilt x5 (nlen (lenR FF j0))) true, Mixed Try.prog, inB x5 (lenR FF j0), ltN (idxN 0 x5) (lenR FF j0), inB x5 (lenR FF j0), ltN (idxN 0 x5) (lenR FF j0), isB (notB (andB (ieq (getR FF j0 (idxN 0 x5)).1 (getR FF j0 (idxN 0 x5)).1) (andB (ieq (getR FF j0 (idxN 0 x5)).snd.1 (getR FF j0 (idxN 0 x5)).snd.1) (andB (ieq (getR FF j0 (idxN 0 x5)).snd.snd.1 (getR FF j0 (idxN 0 x5)).snd.snd.1) (andB (ieq (getR FF j0 (idxN 0 x5)).snd.snd.snd.1 (getR FF j0 (idxN 0 x5)).snd.snd.snd.1) (andB (ieq (getR FF j0 (idxN 0 x5)).snd.snd.snd.snd.1 (getR FF j0 (idxN 0 x5)).snd.snd.snd.snd.1) (andB (ieq (getR FF j0 (idxN 0 x5)).snd.snd.snd.snd.snd.1 (getR FF j0 (idxN 0 x5)).snd.snd.snd.snd.snd.1) (andB (ieq (getR FF j0 (idxN 0 x5)).snd.snd.snd.snd.snd.snd.1 (getR FF j0 (idxN 0 x5)).snd.snd.snd.snd.snd.snd.1) (andB (ieq (getR FF j0 (idxN 0 x5)).snd.snd.snd.snd.snd.snd.snd.1 (getR FF j0 (idxN 0 x5)).snd.snd.snd.snd.snd.snd.snd.1) (andB (ieq (getR FF j0 (idxN 0 x5)).snd.snd.snd.snd.snd.snd.snd.snd.1 (getR FF j0 (idxN 0 x5)).snd.snd.snd.snd.snd.snd.snd.snd.1) (ieq (getR FF j0 (idxN 0 x5)).snd.snd.snd.snd.snd.snd.snd.snd.2 (getR FF j0 (idxN 0 x5)).snd.snd.snd.snd.snd.snd.snd.snd.2))))))))))) false] (by kernel_rfl) (.cons d0 (.cons (by show _ = _; kernel_rfl) (.cons (s0) (.cons (s1) (.cons (s0) (.cons (s1) (.cons (rf_not (rf_and (rf_ieq _) (rf_and (rf_ieq _) (rf_and (rf_ieq _) (rf_and (rf_ieq _) (rf_and (rf_ieq _) (rf_and (rf_ieq _) (rf_and (rf_ieq _) (rf_and (rf_ieq _) (rf_and (rf_ieq _) (rf_ieq _))))))))))) .nil))))))) b
theorem L12p_2 (j0 : List (El FF)) (j1 j2 j3 : List Int) (r a0 a1 a2 a3 a4 a5 a6 a7 y z x5 : Int)  (d0 : (ilt x5 (nlen (lenR FF j0))) = false) : ARun Try.prog 8 (.loop (lp Try.f12 0)) (L12pS j0 j1 j2 j3 r a0 a1 a2 a3 a4 a5 a6 a7 y z  x5) (L12pH j0 j1 j2 j3 r a0 a1 a2 a3 a4 a5 a6 a7 y z  x5) (AExit.exit 0) (L12pT j0 j1 j2 j3 r a0 a1 a2 a3 a4 a5 a6 a7 y z ) (L12pU j0 j1 j2 j3 r a0 a1 a2 a3 a4 a5 a6 a7 y z ) :=
  .last [Orc.br false] [2, 3, 4, 6, 7, 8, 93, 106, 111, 124, 129, 142] [0, 1, 2, 3, 4, 5, 6, 7, 8, 9] [isB (ilt x5 (nlen (lenR FF j0))) false] (by kernel_rfl) (.cons d0 .nil)
def L12pL (j0 : List (El FF)) (j1 j2 j3 : List Int) (r a0 a1 a2 a3 a4 a5 a6 a7 y z : Int) : Nat → Int → Option (Unit)
  | 0, _ => none
  | fuel + 1, x5 => (bif ilt x5 (nlen (lenR FF j0)) then bif decide (inB x5 (lenR FF j0)) then bif decide (ltN (idxN 0 x5) (lenR FF j0)) then L12pL j0 j1 j2 j3 r a0 a1 a2 a3 a4 a5 a6 a7 y z  fuel (iadd .i64 x5 1) else none else none else some ())
theorem L12p (j0 : List (El FF)) (j1 j2 j3 : List Int) (r a0 a1 a2 a3 a4 a5 a6 a7 y z : Int) : ∀ (fuel : Nat) (x5 : Int) (_ : L12pL j0 j1 j2 j3 r a0 a1 a2 a3 a4 a5 a6 a7 y z  fuel  x5 = some ()), ARun Try.prog 8 (.loop (lp Try.f12 0)) (L12pS j0 j1 j2 j3 r a0 a1 a2 a3 a4 a5 a6 a7 y z  x5) (L12pH j0 j1 j2 j3 r a0 a1 a2 a3 a4 a5 a6 a7 y z  x5) (AExit.exit 0) (L12pT j0 j1 j2 j3 r a0 a1 a2 a3 a4 a5 a6 a7 y z ) (L12pU j0 j1 j2 j3 r a0 a1 a2 a3 a4 a5 a6 a7 y z )
  | 0, _, h => by simp [L12pL] at h
  | fuel + 1, x5, h => by
    simp only [L12pL] at h
    exact (splitB h (fun d0 h => (chk h (fun s0 h => chk h (fun s1 h => L12p_1 j0 j1 j2 j3 r a0 a1 a2 a3 a4 a5 a6 a7 y z  x5 d0 s0 s1 (L12p j0 j1 j2 j3 r a0 a1 a2 a3 a4 a5 a6 a7 y z  fuel (iadd .i64 x5 1)  h))))) (fun d0 h => ((by cases h; exact L12p_2 j0 j1 j2 j3 r a0 a1 a2 a3 a4 a5 a6 a7 y z  x5 d0))))
def L12qS (j0 : List (El FF)) (j1 j2 j3 : List Int) (r a0 a1 a2 a3 a4 a5 a6 a7 y z x6 : Int) : Tm := (tg [(2, AV.ptr 8 0), (0, AV.ptr 9 0), (0, AV.v (Value.bool false)), (1, AV.v (.int .i64 x6))] 136)
def L12qH (j0 : List (El FF)) (j1 j2 j3 : List Int) (r a0 a1 a2 a3 a4 a5 a6 a7 y z x6 : Int) : List AObj := [AObj.rows false FF j0, AObj.ints 0 false .i64 j1, AObj.ints 0 false .i64 j2, AObj.ints 0 false IntKind.u32 j3, AObj.rows false FF j0, AObj.ints 0 false .i64 j1, AObj.ints 0 false .i64 j2, AObj.ints 0 false IntKind.u32 j3, AObj.cells 0 true [AV.sw 0 10, AV.sw 1 1, AV.v (.int .i64 r), AV.v (.int .i64 a0), AV.v (.int .i64 a1), AV.v (.int .i64 a2), AV.v (.int .i64 a3), AV.v (.int .i64 a4), AV.v (.int .i64 a5), AV.v (.int .i64 a6), AV.v (.int .i64 a7), AV.sw 2 1, AV.sw 3 1, AV.v (.int .i64 y), AV.v (.int .i64 z)], AObj.cells 0 true [AV.sw 4 10, AV.sw 5 1, AV.v (.int .i64 r), AV.v (.int .i64 a0), AV.v (.int .i64 a1), AV.v (.int .i64 a2), AV.v (.int .i64 a3), AV.v (.int .i64 a4), AV.v (.int .i64 a5), AV.v (.int .i64 a6), AV.v (.int .i64 a7), AV.sw 6 1, AV.sw 7 1, AV.v (.int .i64 y), AV.v (.int .i64 z)]]
def L12qT (j0 : List (El FF)) (j1 j2 j3 : List Int) (r a0 a1 a2 a3 a4 a5 a6 a7 y z : Int) : Tm := (tg [(2, AV.ptr 8 0), (0, AV.ptr 9 0), (0, AV.v (Value.bool false))] 138)
def L12qU (j0 : List (El FF)) (j1 j2 j3 : List Int) (r a0 a1 a2 a3 a4 a5 a6 a7 y z : Int) : List AObj := [AObj.rows false FF j0, AObj.ints 0 false .i64 j1, AObj.ints 0 false .i64 j2, AObj.ints 0 false IntKind.u32 j3, AObj.rows false FF j0, AObj.ints 0 false .i64 j1, AObj.ints 0 false .i64 j2, AObj.ints 0 false IntKind.u32 j3, AObj.cells 0 true [AV.sw 0 10, AV.sw 1 1, AV.v (.int .i64 r), AV.v (.int .i64 a0), AV.v (.int .i64 a1), AV.v (.int .i64 a2), AV.v (.int .i64 a3), AV.v (.int .i64 a4), AV.v (.int .i64 a5), AV.v (.int .i64 a6), AV.v (.int .i64 a7), AV.sw 2 1, AV.sw 3 1, AV.v (.int .i64 y), AV.v (.int .i64 z)], AObj.cells 0 true [AV.sw 4 10, AV.sw 5 1, AV.v (.int .i64 r), AV.v (.int .i64 a0), AV.v (.int .i64 a1), AV.v (.int .i64 a2), AV.v (.int .i64 a3), AV.v (.int .i64 a4), AV.v (.int .i64 a5), AV.v (.int .i64 a6), AV.v (.int .i64 a7), AV.sw 6 1, AV.sw 7 1, AV.v (.int .i64 y), AV.v (.int .i64 z)]]
theorem L12q_1 (j0 : List (El FF)) (j1 j2 j3 : List Int) (r a0 a1 a2 a3 a4 a5 a6 a7 y z x6 : Int)  (d0 : (ilt x6 (nlen (lenI j1))) = true) (s0 : inB x6 (lenI j1)) (s1 : ltN (idxN 0 x6) (lenI j1)) {e : AExit} {tm2 : Tm} {h2 : List AObj} (b : ARun Try.prog 8 (.loop (lp Try.f12 1)) (L12qS j0 j1 j2 j3 r a0 a1 a2 a3 a4 a5 a6 a7 y z  (iadd .i64 x6 1)) (L12qH j0 j1 j2 j3 r a0 a1 a2 a3 a4 a5 a6 a7 y z  (iadd .i64 x6 1)) e tm2 h2) : ARun Try.prog 8 (.loop (lp Try.f12 1)) (L12qS j0 j1 j2 j3 r a0 a1 a2 a3 a4 a5 a6 a7 y z  x6) (L12qH j0 j1 j2 j3 r a0 a1 a2 a3 a4 a5 a6 a7 y z  x6) e tm2 h2 :=
  .round [Orc.br true, Orc.br false] [2, 3, 4, 6] [0, 1, 2, 3, 4, 5, 6, 7, 8, 9] [isB (ilt x6 (nlen (lenI j1))) true, Mixed Try.prog, inB x6 (lenI j1), ltN (idxN 0 x6) (lenI j1), inB x6 (lenI j1), ltN (idxN 0 x6) (lenI j1), isB (ine (getI j1 (idxN 0 x6)) (getI j1 (idxN 0 x6))) false] (by kernel_rfl) (.cons d0 (.cons (by show _ = _; kernel_rfl) (.cons (s0) (.cons (s1) (.cons (s0) (.cons (s1) (.cons (rf_ine _) .nil))))))) b
theorem L12q_2 (j0 : List (El FF)) (j1 j2 j3 : List Int) (r a0 a1 a2 a3 a4 a5 a6 a7 y z x6 : Int)  (d0 : (ilt x6 (nlen (lenI j1))) = false) : ARun Try.prog 8 (.loop (lp Try.f12 1)) (L12qS j0 j1 j2 j3 r a0 a1 a2 a3 a4 a5 a6 a7 y z  x6) (L12qH j0 j1 j2 j3 r a0 a1 a2 a3 a4 a5 a6 a7 y z  x6) (AExit.exit 2) (L12qT j0 j1 j2 j3 r a0 a1 a2 a3 a4 a5 a6 a7 y z ) (L12qU j0 j1 j2 j3 r a0 a1 a2 a3 a4 a5 a6 a7 y z ) :=
  .last [Orc.br false] [2, 3, 4, 7, 8, 111, 124, 129, 142] [0, 1, 2, 3, 4, 5, 6, 7, 8, 9] [isB (ilt x6 (nlen (lenI j1))) false] (by kernel_rfl) (.cons d0 .nil)
def L12qL (j0 : List (El FF)) (j1 j2 j3 : List Int) (r a0 a1 a2 a3 a4 a5 a6 a7 y z : Int) : Nat → Int → Option (Unit)
  | 0, _ => none
  | fuel + 1, x6 => (bif ilt x6 (nlen (lenI j1)) then bif decide (inB x6 (lenI j1)) then bif decide (ltN (idxN 0 x6) (lenI j1)) then L12qL j0 j1 j2 j3 r a0 a1 a2 a3 a4 a5 a6 a7 y z  fuel (iadd .i64 x6 1) else none else none else some ())
theorem L12q (j0 : List (El FF)) (j1 j2 j3 : List Int) (r a0 a1 a2 a3 a4 a5 a6 a7 y z : Int) : ∀ (fuel : Nat) (x6 : Int) (_ : L12qL j0 j1 j2 j3 r a0 a1 a2 a3 a4 a5 a6 a7 y z  fuel  x6 = some ()), ARun Try.prog 8 (.loop (lp Try.f12 1)) (L12qS j0 j1 j2 j3 r a0 a1 a2 a3 a4 a5 a6 a7 y z  x6) (L12qH j0 j1 j2 j3 r a0 a1 a2 a3 a4 a5 a6 a7 y z  x6) (AExit.exit 2) (L12qT j0 j1 j2 j3 r a0 a1 a2 a3 a4 a5 a6 a7 y z ) (L12qU j0 j1 j2 j3 r a0 a1 a2 a3 a4 a5 a6 a7 y z )
  | 0, _, h => by simp [L12qL] at h
  | fuel + 1, x6, h => by
    simp only [L12qL] at h
    exact (splitB h (fun d0 h => (chk h (fun s0 h => chk h (fun s1 h => L12q_1 j0 j1 j2 j3 r a0 a1 a2 a3 a4 a5 a6 a7 y z  x6 d0 s0 s1 (L12q j0 j1 j2 j3 r a0 a1 a2 a3 a4 a5 a6 a7 y z  fuel (iadd .i64 x6 1)  h))))) (fun d0 h => ((by cases h; exact L12q_2 j0 j1 j2 j3 r a0 a1 a2 a3 a4 a5 a6 a7 y z  x6 d0))))
def L12rS (j0 : List (El FF)) (j1 j2 j3 : List Int) (r a0 a1 a2 a3 a4 a5 a6 a7 y z x7 : Int) : Tm := (tg [(2, AV.ptr 8 0), (0, AV.ptr 9 0), (0, AV.v (Value.bool false)), (2, AV.v (.int .i64 x7))] 135)
def L12rH (j0 : List (El FF)) (j1 j2 j3 : List Int) (r a0 a1 a2 a3 a4 a5 a6 a7 y z x7 : Int) : List AObj := [AObj.rows false FF j0, AObj.ints 0 false .i64 j1, AObj.ints 0 false .i64 j2, AObj.ints 0 false IntKind.u32 j3, AObj.rows false FF j0, AObj.ints 0 false .i64 j1, AObj.ints 0 false .i64 j2, AObj.ints 0 false IntKind.u32 j3, AObj.cells 0 true [AV.sw 0 10, AV.sw 1 1, AV.v (.int .i64 r), AV.v (.int .i64 a0), AV.v (.int .i64 a1), AV.v (.int .i64 a2), AV.v (.int .i64 a3), AV.v (.int .i64 a4), AV.v (.int .i64 a5), AV.v (.int .i64 a6), AV.v (.int .i64 a7), AV.sw 2 1, AV.sw 3 1, AV.v (.int .i64 y), AV.v (.int .i64 z)], AObj.cells 0 true [AV.sw 4 10, AV.sw 5 1, AV.v (.int .i64 r), AV.v (.int .i64 a0), AV.v (.int .i64 a1), AV.v (.int .i64 a2), AV.v (.int .i64 a3), AV.v (.int .i64 a4), AV.v (.int .i64 a5), AV.v (.int .i64 a6), AV.v (.int .i64 a7), AV.sw 6 1, AV.sw 7 1, AV.v (.int .i64 y), AV.v (.int .i64 z)]]
def L12rT (j0 : List (El FF)) (j1 j2 j3 : List Int) (r a0 a1 a2 a3 a4 a5 a6 a7 y z : Int) : Tm := (tg [(2, AV.ptr 8 0), (0, AV.ptr 9 0), (0, AV.v (Value.bool false))] 138)
def L12rU (j0 : List (El FF)) (j1 j2 j3 : List Int) (r a0 a1 a2 a3 a4 a5 a6 a7 y z : Int) : List AObj := [AObj.rows false FF j0, AObj.ints 0 false .i64 j1, AObj.ints 0 false .i64 j2, AObj.ints 0 false IntKind.u32 j3, AObj.rows false FF j0, AObj.ints 0 false .i64 j1, AObj.ints 0 false .i64 j2, AObj.ints 0 false IntKind.u32 j3, AObj.cells 0 true [AV.sw 0 10, AV.sw 1 1, AV.v (.int .i64 r), AV.v (.int .i64 a0), AV.v (.int .i64 a1), AV.v (.int .i64 a2), AV.v (.int .i64 a3), AV.v (.int .i64 a4), AV.v (.int .i64 a5), AV.v (.int .i64 a6), AV.v (.int .i64 a7), AV.sw 2 1, AV.sw 3 1, AV.v (.int .i64 y), AV.v (.int .i64 z)], AObj.cells 0 true [AV.sw 4 10, AV.sw 5 1, AV.v (.int .i64 r), AV.v (.int .i64 a0), AV.v (.int .i64 a1), AV.v (.int .i64 a2), AV.v (.int .i64 a3), AV.v (.int .i64 a4), AV.v (.int .i64 a5), AV.v (.int .i64 a6), AV.v (.int .i64 a7), AV.sw 6 1, AV.sw 7 1, AV.v (.int .i64 y), AV.v (.int .i64 z)]]
theorem L12r_1 (j0 : List (El FF)) (j1 j2 j3 : List Int) (r a0 a1 a2 a3 a4 a5 a6 a7 y z x7 : Int)  (d0 : (ilt x7 (nlen (lenI j2))) = true) (s0 : inB x7 (lenI j2)) (s1 : ltN (idxN 0 x7) (lenI j2)) {e : AExit} {tm2 : Tm} {h2 : List AObj} (b : ARun Try.prog 8 (.loop (lp Try.f12 2)) (L12rS j0 j1 j2 j3 r a0 a1 a2 a3 a4 a5 a6 a7 y z  (iadd .i64 x7 1)) (L12rH j0 j1 j2 j3 r a0 a1 a2 a3 a4 a5 a6 a7 y z  (iadd .i64 x7 1)) e tm2 h2) : ARun Try.prog 8 (.loop (lp Try.f12 2)) (L12rS j0 j1 j2 j3 r a0 a1 a2 a3 a4 a5 a6 a7 y z  x7) (L12rH j0 j1 j2 j3 r a0 a1 a2 a3 a4 a5 a6 a7 y z  x7) e tm2 h2 :=
  .round [Orc.br true, Orc.br false] [2, 3, 4, 7] [0, 1, 2, 3, 4, 5, 6, 7, 8, 9] [isB (ilt x7 (nlen (lenI j2))) true, Mixed Try.prog, inB x7 (lenI j2), ltN (idxN 0 x7) (lenI j2), inB x7 (lenI j2), ltN (idxN 0 x7) (lenI j2), isB (ine (getI j2 (idxN 0 x7)) (getI j2 (idxN 0 x7))) false] (by kernel_rfl) (.cons d0 (.cons (by show _ = _; kernel_rfl) (.cons (s0) (.cons (s1) (.cons (s0) (.cons (s1) (.cons (rf_ine _) .nil))))))) b
theorem L12r_2 (j0 : List (El FF)) (j1 j2 j3 : List Int) (r a0 a1 a2 a3 a4 a5 a6 a7 y z x7 : Int)  (d0 : (ilt x7 (nlen (lenI j2))) = false) : ARun Try.prog 8 (.loop (lp Try.f12 2)) (L12rS j0 j1 j2 j3 r a0 a1 a2 a3 a4 a5 a6 a7 y z  x7) (L12rH j0 j1 j2 j3 r a0 a1 a2 a3 a4 a5 a6 a7 y z  x7) (AExit.exit 4) (L12rT j0 j1 j2 j3 r a0 a1 a2 a3 a4 a5 a6 a7 y z ) (L12rU j0 j1 j2 j3 r a0 a1 a2 a3 a4 a5 a6 a7 y z ) :=
  .last [Orc.br false] [2, 3, 4, 8, 129, 142] [0, 1, 2, 3, 4, 5, 6, 7, 8, 9] [isB (ilt x7 (nlen (lenI j2))) false] (by kernel_rfl) (.cons d0 .nil)
def L12rL (j0 : List (El FF)) (j1 j2 j3 : List Int) (r a0 a1 a2 a3 a4 a5 a6 a7 y z : Int) : Nat → Int → Option (Unit)
  | 0, _ => none
  | fuel + 1, x7 => (bif ilt x7 (nlen (lenI j2)) then bif decide (inB x7 (lenI j2)) then bif decide (ltN (idxN 0 x7) (lenI j2)) then L12rL j0 j1 j2 j3 r a0 a1 a2 a3 a4 a5 a6 a7 y z  fuel (iadd .i64 x7 1) else none else none else some ())
theorem L12r (j0 : List (El FF)) (j1 j2 j3 : List Int) (r a0 a1 a2 a3 a4 a5 a6 a7 y z : Int) : ∀ (fuel : Nat) (x7 : Int) (_ : L12rL j0 j1 j2 j3 r a0 a1 a2 a3 a4 a5 a6 a7 y z  fuel  x7 = some ()), ARun Try.prog 8 (.loop (lp Try.f12 2)) (L12rS j0 j1 j2 j3 r a0 a1 a2 a3 a4 a5 a6 a7 y z  x7) (L12rH j0 j1 j2 j3 r a0 a1 a2 a3 a4 a5 a6 a7 y z  x7) (AExit.exit 4) (L12rT j0 j1 j2 j3 r a0 a1 a2 a3 a4 a5 a6 a7 y z ) (L12rU j0 j1 j2 j3 r a0 a1 a2 a3 a4 a5 a6 a7 y z )
  | 0, _, h => by simp [L12rL] at h
  | fuel + 1, x7, h => by
    simp only [L12rL] at h
    exact (splitB h (fun d0 h => (chk h (fun s0 h => chk h (fun s1 h => L12r_1 j0 j1 j2 j3 r a0 a1 a2 a3 a4 a5 a6 a7 y z  x7 d0 s0 s1 (L12r j0 j1 j2 j3 r a0 a1 a2 a3 a4 a5 a6 a7 y z  fuel (iadd .i64 x7 1)  h))))) (fun d0 h => ((by cases h; exact L12r_2 j0 j1 j2 j3 r a0 a1 a2 a3 a4 a5 a6 a7 y z  x7 d0))))
def L12sS (j0 : List (El FF)) (j1 j2 j3 : List Int) (r a0 a1 a2 a3 a4 a5 a6 a7 y z x8 : Int) : Tm := (tg [(2, AV.ptr 8 0), (0, AV.ptr 9 0), (0, AV.v (Value.bool false)), (3, AV.v (.int .i64 x8))] 134)
def L12sH (j0 : List (El FF)) (j1 j2 j3 : List Int) (r a0 a1 a2 a3 a4 a5 a6 a7 y z x8 : Int) : List AObj := [AObj.rows false FF j0, AObj.ints 0 false .i64 j1, AObj.ints 0 false .i64 j2, AObj.ints 0 false IntKind.u32 j3, AObj.rows false FF j0, AObj.ints 0 false .i64 j1, AObj.ints 0 false .i64 j2, AObj.ints 0 false IntKind.u32 j3, AObj.cells 0 true [AV.sw 0 10, AV.sw 1 1, AV.v (.int .i64 r), AV.v (.int .i64 a0), AV.v (.int .i64 a1), AV.v (.int .i64 a2), AV.v (.int .i64 a3), AV.v (.int .i64 a4), AV.v (.int .i64 a5), AV.v (.int .i64 a6), AV.v (.int .i64 a7), AV.sw 2 1, AV.sw 3 1, AV.v (.int .i64 y), AV.v (.int .i64 z)], AObj.cells 0 true [AV.sw 4 10, AV.sw 5 1, AV.v (.int .i64 r), AV.v (.int .i64 a0), AV.v (.int .i64 a1), AV.v (.int .i64 a2), AV.v (.int .i64 a3), AV.v (.int .i64 a4), AV.v (.int .i64 a5), AV.v (.int .i64 a6), AV.v (.int .i64 a7), AV.sw 6 1, AV.sw 7 1, AV.v (.int .i64 y), AV.v (.int .i64 z)]]
def L12sT (j0 : List (El FF)) (j1 j2 j3 : List Int) (r a0 a1 a2 a3 a4 a5 a6 a7 y z : Int) : Tm := (tg [(4, AV.v (Value.bool false))] 138)
def L12sU (j0 : List (El FF)) (j1 j2 j3 : List Int) (r a0 a1 a2 a3 a4 a5 a6 a7 y z : Int) : List AObj := [AObj.rows false FF j0, AObj.ints 0 false .i64 j1, AObj.ints 0 false .i64 j2, AObj.ints 0 false IntKind.u32 j3, AObj.rows false FF j0, AObj.ints 0 false .i64 j1, AObj.ints 0 false .i64 j2, AObj.ints 0 false IntKind.u32 j3]
theorem L12s_1 (j0 : List (El FF)) (j1 j2 j3 : List Int) (r a0 a1 a2 a3 a4 a5 a6 a7 y z x8 : Int)  (d0 : (ilt x8 (nlen (lenI j3))) = true) (s0 : inB x8 (lenI j3)) (s1 : ltN (idxN 0 x8) (lenI j3)) {e : AExit} {tm2 : Tm} {h2 : List AObj} (b : ARun Try.prog 8 (.loop (lp Try.f12 3)) (L12sS j0 j1 j2 j3 r a0 a1 a2 a3 a4 a5 a6 a7 y z  (iadd .i64 x8 1)) (L12sH j0 j1 j2 j3 r a0 a1 a2 a3 a4 a5 a6 a7 y z  (iadd .i64 x8 1)) e tm2 h2) : ARun Try.prog 8 (.loop (lp Try.f12 3)) (L12sS j0 j1 j2 j3 r a0 a1 a2 a3 a4 a5 a6 a7 y z  x8) (L12sH j0 j1 j2 j3 r a0 a1 a2 a3 a4 a5 a6 a7 y z  x8) e tm2 h2 :=
  .round [Orc.br true, Orc.br false] [2, 3, 4, 8] [0, 1, 2, 3, 4, 5, 6, 7, 8, 9] [isB (ilt x8 (nlen (lenI j3))) true, Mixed Try.prog, inB x8 (lenI j3), ltN (idxN 0 x8) (lenI j3), inB x8 (lenI j3), ltN (idxN 0 x8) (lenI j3), isB (ine (getI j3 (idxN 0 x8)) (getI j3 (idxN 0 x8))) false] (by kernel_rfl) (.cons d0 (.cons (by show _ = _; kernel_rfl) (.cons (s0) (.cons (s1) (.cons (s0) (.cons (s1) (.cons (rf_ine _) .nil))))))) b
theorem L12s_2 (j0 : List (El FF)) (j1 j2 j3 : List Int) (r a0 a1 a2 a3 a4 a5 a6 a7 y z x8 : Int)  (d0 : (ilt x8 (nlen (lenI j3))) = false) : ARun Try.prog 8 (.loop (lp Try.f12 3)) (L12sS j0 j1 j2 j3 r a0 a1 a2 a3 a4 a5 a6 a7 y z  x8) (L12sH j0 j1 j2 j3 r a0 a1 a2 a3 a4 a5 a6 a7 y z  x8) (AExit.exit 6) (L12sT j0 j1 j2 j3 r a0 a1 a2 a3 a4 a5 a6 a7 y z ) (L12sU j0 j1 j2 j3 r a0 a1 a2 a3 a4 a5 a6 a7 y z ) :=
  .last [Orc.br false] [4] [0, 1, 2, 3, 4, 5, 6, 7] [isB (ilt x8 (nlen (lenI j3))) false] (by kernel_rfl) (.cons d0 .nil)
def L12sL (j0 : List (El FF)) (j1 j2 j3 : List Int) (r a0 a1 a2 a3 a4 a5 a6 a7 y z : Int) : Nat → Int → Option (Unit)
  | 0, _ => none
  | fuel + 1, x8 => (bif ilt x8 (nlen (lenI j3)) then bif decide (inB x8 (lenI j3)) then bif decide (ltN (idxN 0 x8) (lenI j3)) then L12sL j0 j1 j2 j3 r a0 a1 a2 a3 a4 a5 a6 a7 y z  fuel (iadd .i64 x8 1) else none else none else some ())
theorem L12s (j0 : List (El FF)) (j1 j2 j3 : List Int) (r a0 a1 a2 a3 a4 a5 a6 a7 y z : Int) : ∀ (fuel : Nat) (x8 : Int) (_ : L12sL j0 j1 j2 j3 r a0 a1 a2 a3 a4 a5 a6 a7 y z  fuel  x8 = some ()), ARun Try.prog 8 (.loop (lp Try.f12 3)) (L12sS j0 j1 j2 j3 r a0 a1 a2 a3 a4 a5 a6 a7 y z  x8) (L12sH j0 j1 j2 j3 r a0 a1 a2 a3 a4 a5 a6 a7 y z  x8) (AExit.exit 6) (L12sT j0 j1 j2 j3 r a0 a1 a2 a3 a4 a5 a6 a7 y z ) (L12sU j0 j1 j2 j3 r a0 a1 a2 a3 a4 a5 a6 a7 y z )
  | 0, _, h => by simp [L12sL] at h
  | fuel + 1, x8, h => by
    simp only [L12sL] at h
    exact (splitB h (fun d0 h => (chk h (fun s0 h => chk h (fun s1 h => L12s_1 j0 j1 j2 j3 r a0 a1 a2 a3 a4 a5 a6 a7 y z  x8 d0 s0 s1 (L12s j0 j1 j2 j3 r a0 a1 a2 a3 a4 a5 a6 a7 y z  fuel (iadd .i64 x8 1)  h))))) (fun d0 h => ((by cases h; exact L12s_2 j0 j1 j2 j3 r a0 a1 a2 a3 a4 a5 a6 a7 y z  x8 d0))))
theorem f12s_1 (j0 : List (El FF)) (j1 j2 j3 : List Int) (r a0 a1 a2 a3 a4 a5 a6 a7 y z : Int) (v0f v1f v2f v3f : Nat)  (v0h0 : L12pL j0 j1 j2 j3 r a0 a1 a2 a3 a4 a5 a6 a7 y z v0f 0 = some ()) (v1h0 : L12qL j0 j1 j2 j3 r a0 a1 a2 a3 a4 a5 a6 a7 y z v1f 0 = some ()) (v2h0 : L12rL j0 j1 j2 j3 r a0 a1 a2 a3 a4 a5 a6 a7 y z v2f 0 = some ()) (v3h0 : L12sL j0 j1 j2 j3 r a0 a1 a2 a3 a4 a5 a6 a7 y z v3f 0 = some ()) : ACalls Try.prog 12 [(cC r a0 a1 a2 a3 a4 a5 a6 a7 y z), AV.agg [AV.sw 4 10, AV.sw 5 1, AV.v (.int .i64 r), AV.v (.int .i64 a0), AV.v (.int .i64 a1), AV.v (.int .i64 a2), AV.v (.int .i64 a3), AV.v (.int .i64 a4), AV.v (.int .i64 a5), AV.v (.int .i64 a6), AV.v (.int .i64 a7), AV.sw 6 1, AV.sw 7 1, AV.v (.int .i64 y), AV.v (.int .i64 z)]] [AObj.rows false FF j0, AObj.ints 0 false .i64 j1, AObj.ints 0 false .i64 j2, AObj.ints 0 false IntKind.u32 j3, AObj.rows false FF j0, AObj.ints 0 false .i64 j1, AObj.ints 0 false .i64 j2, AObj.ints 0 false IntKind.u32 j3] (AV.v (Value.bool true)) [] [] :=
  ACalls.nb (res := AV.v (Value.bool true)) (.of_out [Orc.br false, Orc.br false, Orc.br false, Orc.br false, Orc.br false, Orc.br false, Orc.br false, Orc.br false, Orc.loop [2, 3, 4, 5] [0, 1, 2, 3, 4, 5, 6, 7, 8, 9] (AExit.exit 0) (tg [(2, AV.ptr 8 0), (0, AV.ptr 9 0), (0, AV.v (Value.bool false))] 138) (kSdP0 j0 j1 j2 j3 r a0 a1 a2 a3 a4 a5 a6 a7 y z), Orc.loop [2, 3, 4, 6] [0, 1, 2, 3, 4, 5, 6, 7, 8, 9] (AExit.exit 2) (tg [(2, AV.ptr 8 0), (0, AV.ptr 9 0), (0, AV.v (Value.bool false))] 138) (kSdP0 j0 j1 j2 j3 r a0 a1 a2 a3 a4 a5 a6 a7 y z), Orc.loop [2, 3, 4, 7] [0, 1, 2, 3, 4, 5, 6, 7, 8, 9] (AExit.exit 4) (tg [(2, AV.ptr 8 0), (0, AV.ptr 9 0), (0, AV.v (Value.bool false))] 138) (kSdP0 j0 j1 j2 j3 r a0 a1 a2 a3 a4 a5 a6 a7 y z), Orc.loop [2, 3, 4, 8] [0, 1, 2, 3, 4, 5, 6, 7, 8, 9] (AExit.exit 6) (tg [(4, AV.v (Value.bool false))] 138) [AObj.rows false FF j0, AObj.ints 0 false .i64 j1, AObj.ints 0 false .i64 j2, AObj.ints 0 false IntKind.u32 j3, AObj.rows false FF j0, AObj.ints 0 false .i64 j1, AObj.ints 0 false .i64 j2, AObj.ints 0 false IntKind.u32 j3]] [0, 1, 2, 3, 4, 5, 6, 7] [isB (ine r r) false, isB (notB (andB (ieq a0 a0) (andB (ieq a1 a1) (andB (ieq a2 a2) (andB (ieq a3 a3) (andB (ieq a4 a4) (andB (ieq a5 a5) (andB (ieq a6 a6) (ieq a7 a7))))))))) false, isB (ine y y) false, isB (ine z z) false, isB (ine (nlen (lenR FF j0)) (nlen (lenR FF j0))) false, isB (ine (nlen (lenI j1)) (nlen (lenI j1))) false, isB (ine (nlen (lenI j2)) (nlen (lenI j2))) false, isB (ine (nlen (lenI j3)) (nlen (lenI j3))) false, _, _, _, _] Try.func12 (by kernel_rfl) (by kernel_rfl) (.cons (rf_ine _) (.cons (rf_not (rf_and (rf_ieq _) (rf_and (rf_ieq _) (rf_and (rf_ieq _) (rf_and (rf_ieq _) (rf_and (rf_ieq _) (rf_and (rf_ieq _) (rf_and (rf_ieq _) (rf_ieq _))))))))) (.cons (rf_ine _) (.cons (rf_ine _) (.cons (rf_ine _) (.cons (rf_ine _) (.cons (rf_ine _) (.cons (rf_ine _) (.cons (L12p _ _ _ _ _ _ _ _ _ _ _ _ _ _ _ _ _ (v0h0)) (.cons (L12q _ _ _ _ _ _ _ _ _ _ _ _ _ _ _ _ _ (v1h0)) (.cons (L12r _ _ _ _ _ _ _ _ _ _ _ _ _ _ _ _ _ (v2h0)) (.cons (L12s _ _ _ _ _ _ _ _ _ _ _ _ _ _ _ _ _ (v3h0)) .nil)))))))))))))
theorem f12s (j0 : List (El FF)) (j1 j2 j3 : List Int) (r a0 a1 a2 a3 a4 a5 a6 a7 y z : Int) (v0f v1f v2f v3f : Nat) (v0h0 : L12pL j0 j1 j2 j3 r a0 a1 a2 a3 a4 a5 a6 a7 y z v0f 0 = some ()) (v1h0 : L12qL j0 j1 j2 j3 r a0 a1 a2 a3 a4 a5 a6 a7 y z v1f 0 = some ()) (v2h0 : L12rL j0 j1 j2 j3 r a0 a1 a2 a3 a4 a5 a6 a7 y z v2f 0 = some ()) (v3h0 : L12sL j0 j1 j2 j3 r a0 a1 a2 a3 a4 a5 a6 a7 y z v3f 0 = some ()) : ACalls Try.prog 12 [(cC r a0 a1 a2 a3 a4 a5 a6 a7 y z), AV.agg [AV.sw 4 10, AV.sw 5 1, AV.v (.int .i64 r), AV.v (.int .i64 a0), AV.v (.int .i64 a1), AV.v (.int .i64 a2), AV.v (.int .i64 a3), AV.v (.int .i64 a4), AV.v (.int .i64 a5), AV.v (.int .i64 a6), AV.v (.int .i64 a7), AV.sw 6 1, AV.sw 7 1, AV.v (.int .i64 y), AV.v (.int .i64 z)]] [AObj.rows false FF j0, AObj.ints 0 false .i64 j1, AObj.ints 0 false .i64 j2, AObj.ints 0 false IntKind.u32 j3, AObj.rows false FF j0, AObj.ints 0 false .i64 j1, AObj.ints 0 false .i64 j2, AObj.ints 0 false IntKind.u32 j3] (AV.v (Value.bool true)) [] [] := (f12s_1 j0 j1 j2 j3 r a0 a1 a2 a3 a4 a5 a6 a7 y z v0f v1f v2f v3f v0h0 v1h0 v2h0 v3h0)
end Go.Proofs.Ytlmnohdgfjienaa.Cf

set_option maxRecDepth 100000
set_option linter.all false
set_option maxHeartbeats 0
namespace Go.Proofs.Ytlmnohdgfjienaa.Cf
open Go.Abs Go.Proofs.Ytlmnohdgfjienaa.Code Go.Proofs.Ytlmnohdgfjienaa.Code
theorem s12p (j0 : List (El FF)) (j1 j2 j3 : List Int) (r a0 a1 a2 a3 a4 a5 a6 a7 y z : Int) (hs : lenR FF j0 ≤ 1000000) : ∀ k i : Nat, i + k = lenR FF j0 → L12pL j0 j1 j2 j3 r a0 a1 a2 a3 a4 a5 a6 a7 y z (k + 1) (i : Int) = some ()
  | 0, i, h => by rw [L12pL, lt_f (show lenR FF j0 ≤ i from by omega)]; rfl
  | k + 1, i, h => by
    have h1 : i < lenR FF j0 := by omega
    rw [L12pL, lt_t h1, in_t h1, ix0, l_t h1, inc hs (by omega)]
    exact s12p j0 j1 j2 j3 r a0 a1 a2 a3 a4 a5 a6 a7 y z hs k (i + 1) (by omega)
theorem s12q (j0 : List (El FF)) (j1 j2 j3 : List Int) (r a0 a1 a2 a3 a4 a5 a6 a7 y z : Int) (hs : lenI j1 ≤ 1000000) : ∀ k i : Nat, i + k = lenI j1 → L12qL j0 j1 j2 j3 r a0 a1 a2 a3 a4 a5 a6 a7 y z (k + 1) (i : Int) = some ()
  | 0, i, h => by rw [L12qL, lt_f (show lenI j1 ≤ i from by omega)]; rfl
  | k + 1, i, h => by
    have h1 : i < lenI j1 := by omega
    rw [L12qL, lt_t h1, in_t h1, ix0, l_t h1, inc hs (by omega)]
    exact s12q j0 j1 j2 j3 r a0 a1 a2 a3 a4 a5 a6 a7 y z hs k (i + 1) (by omega)
theorem s12r (j0 : List (El FF)) (j1 j2 j3 : List Int) (r a0 a1 a2 a3 a4 a5 a6 a7 y z : Int) (hs : lenI j2 ≤ 1000000) : ∀ k i : Nat, i + k = lenI j2 → L12rL j0 j1 j2 j3 r a0 a1 a2 a3 a4 a5 a6 a7 y z (k + 1) (i : Int) = some ()
  | 0, i, h => by rw [L12rL, lt_f (show lenI j2 ≤ i from by omega)]; rfl
  | k + 1, i, h => by
    have h1 : i < lenI j2 := by omega
    rw [L12rL, lt_t h1, in_t h1, ix0, l_t h1, inc hs (by omega)]
    exact s12r j0 j1 j2 j3 r a0 a1 a2 a3 a4 a5 a6 a7 y z hs k (i + 1) (by omega)
theorem s12s (j0 : List (El FF)) (j1 j2 j3 : List Int) (r a0 a1 a2 a3 a4 a5 a6 a7 y z : Int) (hs : lenI j3 ≤ 1000000) : ∀ k i : Nat, i + k = lenI j3 → L12sL j0 j1 j2 j3 r a0 a1 a2 a3 a4 a5 a6 a7 y z (k + 1) (i : Int) = some ()
  | 0, i, h => by rw [L12sL, lt_f (show lenI j3 ≤ i from by omega)]; rfl
  | k + 1, i, h => by
    have h1 : i < lenI j3 := by omega
    rw [L12sL, lt_t h1, in_t h1, ix0, l_t h1, inc hs (by omega)]
    exact s12s j0 j1 j2 j3 r a0 a1 a2 a3 a4 a5 a6 a7 y z hs k (i + 1) (by omega)
theorem q12e (j0 : List (El FF)) (j1 j2 j3 : List Int) (r a0 a1 a2 a3 a4 a5 a6 a7 y z : Int) (h0 : decide (lenR FF j0 ≤ 1000000) = true) (h1 : decide (lenI j1 ≤ 1000000) = true) (h2 : decide (lenI j2 ≤ 1000000) = true) (h3 : decide (lenI j3 ≤ 1000000) = true) :
    ACalls Try.prog 12 [cC r a0 a1 a2 a3 a4 a5 a6 a7 y z, AV.agg [AV.sw 4 10, AV.sw 5 1, AV.v (.int .i64 r), AV.v (.int .i64 a0), AV.v (.int .i64 a1), AV.v (.int .i64 a2), AV.v (.int .i64 a3), AV.v (.int .i64 a4), AV.v (.int .i64 a5), AV.v (.int .i64 a6), AV.v (.int .i64 a7), AV.sw 6 1, AV.sw 7 1, AV.v (.int .i64 y), AV.v (.int .i64 z)]] [AObj.rows false FF j0, AObj.ints 0 false .i64 j1, AObj.ints 0 false .i64 j2, AObj.ints 0 false .u32 j3, AObj.rows false FF j0, AObj.ints 0 false .i64 j1, AObj.ints 0 false .i64 j2, AObj.ints 0 false .u32 j3] (iB true) [] [] :=
  f12s j0 j1 j2 j3 r a0 a1 a2 a3 a4 a5 a6 a7 y z _ _ _ _ (s12p j0 j1 j2 j3 r a0 a1 a2 a3 a4 a5 a6 a7 y z (of_decide_eq_true h0) _ 0 (Nat.zero_add _)) (s12q j0 j1 j2 j3 r a0 a1 a2 a3 a4 a5 a6 a7 y z (of_decide_eq_true h1) _ 0 (Nat.zero_add _)) (s12r j0 j1 j2 j3 r a0 a1 a2 a3 a4 a5 a6 a7 y z (of_decide_eq_true h2) _ 0 (Nat.zero_add _)) (s12s j0 j1 j2 j3 r a0 a1 a2 a3 a4 a5 a6 a7 y z (of_decide_eq_true h3) _ 0 (Nat.zero_add _))
end Go.Proofs.Ytlmnohdgfjienaa.Cf

set_option maxRecDepth 100000
set_option linter.all false
set_option maxHeartbeats 0
namespace Go.Proofs.Ytlmnohdgfjienaa.Cf
open Go.Abs Go.Proofs.Ytlmnohdgfjienaa.Code Go.Proofs.Ytlmnohdgfjienaa.Code
theorem eB_len (j0 : List (El FF)) (j1 j2 j3 : List Int) (r a0 a1 a2 a3 a4 a5 a6 a7 y z : Int) (hB : cfgB j0 j1 j2 j3 r a0 a1 a2 a3 a4 a5 a6 a7 y z = true) (he : j1.length = j0.length) : (eB0 j0 j1 j2 j3 r a0 a1 a2 a3 a4 a5 a6 a7 y z).length ≤ 49000 := by
  unfold cfgB at hB
  simp only [Bool.and_eq_true, decide_eq_true_eq] at hB
  obtain ⟨⟨⟨⟨b0, b1⟩, b2⟩, b3⟩, n0, n1, n2, n3⟩ := hB
  simp only [List.all_cons, List.all_nil, Bool.and_eq_true] at b3
  obtain ⟨c0, c1, c2, c3, c4, c5, c6, c7, c8, c9, c10, -⟩ := b3
  have v0 := vb_len (icvB (nlen (lenR FF j0)))
  have v2 := vb_len (icvB (nlen (lenI j2)))
  have v3 := vb_len (icvB (nlen (lenI j3)))
  have vy := vb_len (icvB y)
  have zA := zb_len (l := [r, a0, a1, a2, a3, a4, a5, a6, a7]) (by simp [c0, c1, c2, c3, c4, c5, c6, c7, c8])
  have z2 := zb_len b2
  have zZ := zb_len (l := [z]) (by simp [c10])
  have d3 := drB_len j3
  have fl := flB_len b0 b1 he j0.length 0 (by omega)
  simp only [List.length_cons, List.length_nil] at zA zZ
  unfold eB0
  simp only [List.length_append]; omega
theorem q10b (j0 : List (El FF)) (j1 j2 j3 : List Int) (r a0 a1 a2 a3 a4 a5 a6 a7 y z : Int) (hB : cfgB j0 j1 j2 j3 r a0 a1 a2 a3 a4 a5 a6 a7 y z = true) (h3 : j3.all u32B = true) (hk : ckE r a0 a1 a2 a3 a4 a5 a6 a7 y z (lenR FF j0) (lenI j1) (lenI j2) (lenI j3) (fb j0 j1) (pix j2) = 0) :
    ACalls Try.prog 10 [AV.sw 0 1] [AObj.ints 0 false .u8 (eB j0 j1 j2 j3 r a0 a1 a2 a3 a4 a5 a6 a7 y z)] (AV.tup [AV.agg [AV.sw 1 10, AV.sw 2 1, iI r, iI a0, iI a1, iI a2, iI a3, iI a4, iI a5, iI a6, iI a7, AV.sw 3 1, AV.sw 4 1, iI y, iI z], iI 0, iI (plc (eB j0 j1 j2 j3 r a0 a1 a2 a3 a4 a5 a6 a7 y z))]) [] [AObj.rows false FF j0, AObj.ints 0 false .i64 j1, AObj.ints 0 false .i64 j2, AObj.ints 0 false .u32 j3] := by
  have he : j1.length = j0.length := ((ckE_iff r a0 a1 a2 a3 a4 a5 a6 a7 y z _ _ _ _ _ _).1 hk).2.2.1
  have e : eB j0 j1 j2 j3 r a0 a1 a2 a3 a4 a5 a6 a7 y z = 76 :: 69 :: 65 :: 84 :: eB0 j0 j1 j2 j3 r a0 a1 a2 a3 a4 a5 a6 a7 y z := by
    unfold eB; rw [hk]; rfl
  rw [e]
  have hl := eB_len j0 j1 j2 j3 r a0 a1 a2 a3 a4 a5 a6 a7 y z hB he
  have h := g10 (76 :: 69 :: 65 :: 84 :: eB0 j0 j1 j2 j3 r a0 a1 a2 a3 a4 a5 a6 a7 y z) (by simp only [List.length_cons]; omega) (byB_app (a := [76, 69, 65, 84]) (by decide) (eB_by j0 j1 j2 j3 r a0 a1 a2 a3 a4 a5 a6 a7 y z hB he))
  obtain ⟨h1, h2, h3, h4, h5, ⟨v0, v1, v2, v3, v4, v5, v6, v7, v8⟩, h7, h8⟩ := dec_enc j0 j1 j2 j3 r a0 a1 a2 a3 a4 a5 a6 a7 y z hB h3 hk
  unfold zI zL zF at h
  rw [h1, h2, h3, h4, h5, v0, v1, v2, v3, v4, v5, v6, v7, v8, h7, h8] at h
  exact h
end Go.Proofs.Ytlmnohdgfjienaa.Cf
