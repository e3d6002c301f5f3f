import Derived.Test.YteaeolklkioceaaEpC
import Derived.Test.YteaeolklkioceaaAbsWx
set_option linter.unusedVariables false
set_option linter.unusedSimpArgs false
set_option maxRecDepth 100000
namespace Go.Proofs.Yteaeolklkioceaa.Ec
open Go.Abs
theorem pth_st (c : Int) : ∀ (l : List Bool) (s : Bool), ∀ x ∈ pth (stF c s) l, ∃ s', x = stF c s'
  | [], s, x, hx => by simp [pth] at hx
  | b :: l, s, x, hx => by
    have e : (bif b then f31r0 (stF c s) else stF c s) = stF c (bif b then true else s) := by cases b <;> simp [st_mark]
    rw [pth, e] at hx
    rcases List.mem_cons.1 hx with rfl | hx
    · exact ⟨_, rfl⟩
    · exact pth_st c l _ x hx
theorem pth_len (l : List Bool) : ∀ c, (pth c l).length = l.length := by
  induction l with
  | nil => intro c; rfl
  | cons b l ih => intro c; simp [pth, ih]
theorem legal_st (c : Int) (s : Bool) (h : f44r0 c = true) : f35r0 c (stF c s) = true := by
  unfold stF f35r0 f31r1 f44r0 f49r0 at *
  simp only [ieq_d, ine_d, ile_d, cond_if] at h ⊢
  by_cases h0 : c = 0
  · subst h0; cases s <;> decide
  by_cases h1 : c = 1
  · subst h1; cases s <;> decide
  by_cases h2 : c = 2
  · subst h2; cases s <;> decide
  by_cases h3 : c = 3
  · subst h3; cases s <;> decide
  simp [h0, h1, h2, h3] at h
theorem l12 (c : Int) (l : List Bool) (y : List Int) (hy : ∀ x ∈ y, ∃ s, x = stF c s) (hl : y.length ≤ 1000) : ∀ (j i : Nat), i + j = y.length → L12L c l (j + 1) (nlen (lenI y)) y (i : Int) = some 1
  | 0, i, h => by
    rw [L12L, show ilt (i : Int) (nlen (lenI y)) = false from by simp only [ilt_d, nlen, lenI, decide_eq_false_iff_not]; omega]; rfl
  | j + 1, i, h => by
    have hi : i < y.length := by omega
    have e3 : iadd .i64 (i : Int) 1 = ((i + 1 : Nat) : Int) := by unfold iadd; rw [w_i64_in (by omega)]; omega
    have eg : getI y (idxN 0 (i : Int)) = y[i] := by
      unfold getI idxN; rw [Int.toNat_natCast, Nat.zero_add, List.getD_eq_getElem?_getD, List.getElem?_eq_getElem hi, Option.getD_some]
    have i1 := decide_eq_true (show inB (i : Int) (lenI y) from ⟨by omega, by unfold lenI; omega⟩)
    have i2 := decide_eq_true (show ltN (idxN 0 (i : Int)) (lenI y) from by unfold ltN idxN lenI; omega)
    have ih := l12 c l y hy hl j (i + 1) (by omega)
    obtain ⟨s, hs⟩ := hy y[i] (List.getElem_mem hi)
    rw [L12L, eg, hs, i1, i2, show ilt (i : Int) (nlen (lenI y)) = true from by simp only [ilt_d, nlen, lenI, decide_eq_true_eq]; omega, e3]
    cases hc : f44r0 c with
    | true => rw [legal_st c s hc]; exact ih
    | false => exact ih
theorem paths (c : Int) (l : List Bool) : ACalls Try.prog 12 [AV.v (.int .i64 c), AV.sw 0 1] [AObj.bools 0 false l] (AV.v (Value.bool true)) [] [] := by
  obtain ⟨m, hm, hk⟩ : ∃ m : List Bool, m = subB l 0 (subN (imin (nlen (lenB l)) 60) 0) ∧ m.length ≤ 60 := ⟨_, rfl, by unfold subB subN imin nlen lenB; simp; omega⟩
  have h := f12 c l 1 0 (m.length + 1) (fun h => by simp at h) (fun _ => by
      rw [← hm]
      have := l12 c l (pth c m) (pth_st c m false) (by rw [pth_len]; omega) m.length 0 (by rw [pth_len]; omega)
      exact this)
    (by unfold inC imin nlen lenB; omega) (by unfold leN subN imin nlen lenB; simp; omega) (by rw [← hm]; unfold okB; exact decide_eq_true (by omega)) (by rw [← hm]; unfold okI; rw [pth_len]; exact decide_eq_true (by omega)) (by unfold okI; exact decide_eq_true (by simp))
  exact h
theorem law_paths (c : Int) (l : List (El Go.Abs.PS.bool.ck)) (w0 : (Lit.int .i64 c).wf = true) (w1 : ∀ y ∈ l, El.ok Go.Abs.PS.bool.ck y) :
    ACalls Try.prog 12 [AV.v (.int .i64 c), AV.sw 0 1] [rowO Go.Abs.PS.bool.ck l] (AV.v (Value.bool true)) [] [] := paths c l
end Go.Proofs.Yteaeolklkioceaa.Ec
