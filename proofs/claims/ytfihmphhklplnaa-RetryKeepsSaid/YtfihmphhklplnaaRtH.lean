import Derived.Test.YtfihmphhklplnaaRt
import Derived.Test.YtfihmphhklplnaaAbsWs
set_option linter.unusedVariables false
set_option linter.unusedSimpArgs false
set_option maxRecDepth 100000
namespace Go.Proofs.Ytfihmphhklplnaa.Retry
open Go.Abs
theorem eL (l : List (Int × Int)) : lenR [CK.int .i64, CK.int .i64] l = l.length := rfl
theorem getQ {l : List (Int × Int)} {i : Nat} (h : i < l.length) : getR [CK.int .i64, CK.int .i64] l (idxN 0 (i : Int)) = l[i] := by
  unfold getR idxN; rw [Int.toNat_natCast, Nat.zero_add, List.getD_eq_getElem?_getD, List.getElem?_eq_getElem h, Option.getD_some]
theorem keeps_loop (l : List (Int × Int)) : ∀ (k i : Nat) (en : Bool) (pt a d p : Int) (In : Bool), i + k = min 80 l.length → (en = true → (In = true ∧ p = pt) ∨ (In = false ∧ pt ≤ a)) →
    L4L l (k + 1) (nlen (lenR [CK.int .i64, CK.int .i64] l)) en pt (i : Int) a d p In = some 0
  | 0, i, en, pt, a, d, p, In, h, hinv => by
    rw [L4L]
    by_cases h3 : (i : Int) < l.length
    · have e1 : inB (i : Int) (lenR [CK.int .i64, CK.int .i64] l) := ⟨by omega, by rw [eL]; omega⟩
      have e2 : ltN (idxN 0 (i : Int)) (lenR [CK.int .i64, CK.int .i64] l) := by unfold ltN idxN; rw [eL]; omega
      rw [show ilt (i : Int) (nlen (lenR [CK.int .i64, CK.int .i64] l)) = true from by simp only [ilt_d, nlen, eL, decide_eq_true_eq]; omega, show ile 80 (i : Int) = true from by simp only [ile_d, decide_eq_true_eq]; omega, decide_eq_true e1, decide_eq_true e2]; rfl
    · rw [show ilt (i : Int) (nlen (lenR [CK.int .i64, CK.int .i64] l)) = false from by simp only [ilt_d, nlen, eL, decide_eq_false_iff_not]; omega]; rfl
  | k + 1, i, en, pt, a, d, p, In, h, hinv => by
    have hi : i < l.length := by omega
    have hg := getQ hi
    have e1 : inB (i : Int) (lenR [CK.int .i64, CK.int .i64] l) := ⟨by omega, by rw [eL]; omega⟩
    have e2 : ltN (idxN 0 (i : Int)) (lenR [CK.int .i64, CK.int .i64] l) := by unfold ltN idxN; rw [eL]; omega
    have e3 : iadd .i64 (i : Int) 1 = ((i + 1 : Nat) : Int) := by unfold iadd; rw [w_i64_in (by omega)]; omega
    have ih := keeps_loop l k (i + 1)
    have aa : ilt a a = false := by simp [ilt_d]
    have a1 : ieq a a = true := by simp [ieq_d]
    have z1 : ieq 0 1 = false := rfl
    have z2 : ieq 0 2 = false := rfl
    have z3 : ieq 2 1 = false := rfl
    have z4 : ieq 2 2 = true := rfl
    have z5 : ieq 1 1 = true := rfl
    have z6 : ieq 1 2 = false := rfl
    have z7 : ieq 3 1 = false := rfl
    have z8 : ieq 3 2 = false := rfl
    have z9 : ieq 4 1 = false := rfl
    have z0 : ieq 4 2 = false := rfl
    rw [L4L, show ilt (i : Int) (nlen (lenR [CK.int .i64, CK.int .i64] l)) = true from by simp only [ilt_d, nlen, eL, decide_eq_true_eq]; omega, show ile 80 (i : Int) = false from by simp only [ile_d, decide_eq_false_iff_not]; omega,
      hg, e3, decide_eq_true e1, decide_eq_true e2]
    generalize l[i].1 = u
    generalize l[i].2 = s
    unfold f18r1 f18r2 f18r3
    generalize f18r0 a d p u s In = D0
    generalize f37r0 a d p s In = D
    rcases Int.lt_trichotomy u a with hu | hu | hu
    · have b1 : ilt u a = true := by simp only [ilt_d, decide_eq_true_eq]; exact hu
      simp only [b1, cond_true, cond_false, aa, z1, z2]
      exact ih _ _ _ _ _ _ (by omega) hinv
    · subst hu
      simp only [aa, a1, cond_true, cond_false]
      cases hs : ile s u with
      | true => simp only [cond_true, cond_false, z1, z2]; exact ih _ _ _ _ _ _ (by omega) hinv
      | false =>
        cases hD : ieq D 3 with
        | false => simp only [cond_true, cond_false, z1, z2]; exact ih _ _ _ _ _ _ (by omega) hinv
        | true =>
          cases In with
          | true => simp only [cond_true, cond_false, notB_d, Bool.not_true, z1, z2]; exact ih _ _ _ _ _ _ (by omega) hinv
          | false =>
            simp only [cond_true, cond_false, notB_d, Bool.not_false, z3, z4]
            cases en with
            | false => simp only [cond_true, cond_false]; exact ih _ _ _ _ _ _ (by omega) (fun _ => .inl ⟨rfl, rfl⟩)
            | true =>
              have : ilt u pt = false := by
                rcases hinv rfl with ⟨h1, -⟩ | ⟨-, h2⟩
                · simp at h1
                · simp only [ilt_d, decide_eq_false_iff_not]; omega
              simp only [cond_true, cond_false, this]
              exact ih _ _ _ _ _ _ (by omega) (fun _ => .inl ⟨rfl, rfl⟩)
    · have b1 : ilt u a = false := by simp only [ilt_d, decide_eq_false_iff_not]; omega
      have b2 : ieq u a = false := by simp only [ieq_d, decide_eq_false_iff_not]; omega
      simp only [b1, b2, cond_true, cond_false]
      cases In with
      | false =>
        simp only [cond_true, cond_false, notB_d, Bool.not_false, z5, z6]
        refine ih _ _ _ _ _ _ (by omega) (fun he => ?_)
        rcases hinv he with ⟨h1, -⟩ | ⟨h1, h2⟩
        · simp at h1
        · exact .inr ⟨rfl, by omega⟩
      | true =>
        cases hp : ilt u p with
        | true =>
          simp only [cond_true, cond_false, notB_d, Bool.not_true, z7, z8]
          refine ih _ _ _ _ _ _ (by omega) (fun he => ?_)
          rcases hinv he with ⟨h1, h2⟩ | ⟨h1, h2⟩
          · exact .inl ⟨rfl, h2⟩
          · simp at h1
        | false =>
          simp only [cond_true, cond_false, notB_d, Bool.not_true, z9, z0]
          refine ih _ _ _ _ _ _ (by omega) (fun he => ?_)
          rcases hinv he with ⟨h1, h2⟩ | ⟨h1, h2⟩
          · simp only [ilt_d, decide_eq_false_iff_not] at hp
            exact .inr ⟨rfl, by omega⟩
          · simp at h1
theorem keeps (a : Int) (l : List (Int × Int)) : ACalls Try.prog 4 [AV.v (.int .i64 a), AV.sw 0 2] [AObj.rows false [CK.int .i64, CK.int .i64] l] (AV.v (Value.bool true)) [] [] :=
  f4 a l 0 (min 80 l.length + 1) 0 (fun _ => keeps_loop l (min 80 l.length) 0 false 0 a 0 0 false (by omega) (fun h => by simp at h)) (fun h => by simp at h)
theorem law_keeps (a : Int) (l : List (El (Go.Abs.PS.agg [.int .i64, .int .i64]).ck)) (w0 : (Lit.int .i64 a).wf = true) (w1 : ∀ y ∈ l, El.ok (Go.Abs.PS.agg [.int .i64, .int .i64]).ck y) :
    ACalls Try.prog 4 [AV.v (.int .i64 a), AV.sw 0 2] [rowO (Go.Abs.PS.agg [.int .i64, .int .i64]).ck l] (AV.v (Value.bool true)) [] [] :=
  keeps a l
end Go.Proofs.Ytfihmphhklplnaa.Retry
