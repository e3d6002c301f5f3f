import Derived.Test.YtiblodkkjibcoaaRingP
import Derived.Test.YtiblodkkjibcoaaAbsWs
set_option linter.unusedVariables false
set_option linter.unusedSimpArgs false
set_option maxRecDepth 100000
namespace Go.Proofs.Ytiblodkkjibcoaa.Ring
open Go.Abs
theorem l3 (l : List (Bool × Int)) (k : Int) : ∀ (j i : Nat) (a n : Int) (r m : List Int), i + j = min 60 l.length → okR r a n k = true → itR r a n = m →
    L3L l (j + 1) (nlen (lenR [CK.bool, CK.int .i64] l)) k k (i : Int) a n r m = some 0
  | 0, i, a, n, r, m, h, ho, hm => by
    rw [L3L]
    by_cases h1 : (i : Int) < l.length
    · rw [show ilt (i : Int) (nlen (lenR [CK.bool, CK.int .i64] l)) = true from by simp only [ilt_d, nlen, lenR, decide_eq_true_eq]; omega, show ile 60 (i : Int) = true from by simp only [ile_d, decide_eq_true_eq]; omega,
        decide_eq_true (show inB (i : Int) (lenR [CK.bool, CK.int .i64] l) from ⟨by omega, by unfold lenR; omega⟩), decide_eq_true (show ltN (idxN 0 (i : Int)) (lenR [CK.bool, CK.int .i64] l) from by unfold ltN idxN lenR; omega)]; rfl
    · rw [show ilt (i : Int) (nlen (lenR [CK.bool, CK.int .i64] l)) = false from by simp only [ilt_d, nlen, lenR, decide_eq_false_iff_not]; omega]; rfl
  | j + 1, i, a, n, r, m, h, ho, hm => by
    have hi : i < l.length := by omega
    have e3 : iadd .i64 (i : Int) 1 = ((i + 1 : Nat) : Int) := by unfold iadd; rw [w_i64_in (by omega)]; omega
    have eg : getR [CK.bool, CK.int .i64] l (idxN 0 (i : Int)) = l[i] := by
      unfold getR idxN; rw [Int.toNat_natCast, Nat.zero_add, List.getD_eq_getElem?_getD, List.getElem?_eq_getElem hi, Option.getD_some]
    have i1 := decide_eq_true (show inB (i : Int) (lenR [CK.bool, CK.int .i64] l) from ⟨by omega, by unfold lenR; omega⟩)
    have i2 := decide_eq_true (show ltN (idxN 0 (i : Int)) (lenR [CK.bool, CK.int .i64] l) from by unfold ltN idxN lenR; omega)
    have hl : n.toNat = m.length := by rw [← hm, itR_len]
    have ho' := okR_iff.1 ho
    have hml : m.length ≤ 100000 := by omega
    rw [L3L, show ilt (i : Int) (nlen (lenR [CK.bool, CK.int .i64] l)) = true from by simp only [ilt_d, nlen, lenR, decide_eq_true_eq]; omega, show ile 60 (i : Int) = false from by simp only [ile_d, decide_eq_false_iff_not]; omega, eg, e3, i1, i2, decide_eq_true ho, decide_eq_true hml]
    cases l[i].1 with
    | true =>
      have p1 := pop_ok ho
      have p2 := pop_it ho
      have ev : aV r a n 0 = hdL m := by
        rw [aV_eq, hm]; unfold hdL
        by_cases hn : 0 < n
        · rw [if_pos ⟨Int.le_refl _, hn⟩]; cases m <;> rfl
        · rw [if_neg (by omega)]
          have : m = [] := List.length_eq_zero_iff.1 (by omega)
          subst this; rfl
      have eb : aB n 0 = neL m := by
        unfold aB neL
        by_cases hn : 0 < n
        · rw [decide_eq_true ⟨Int.le_refl _, hn⟩]
          cases m with
          | nil => simp at hl; omega
          | cons x y => rfl
        · rw [decide_eq_false (by omega)]
          have : m = [] := List.length_eq_zero_iff.1 (by omega)
          subst this; rfl
      have et : itR (popL r a n) (popA r a n) (popN n) = tlL m := by rw [p2, hm]; rfl
      rw [ev, eb, show ine (hdL m) (hdL m) = false from rf_ine _, show notB (beqB (neL m) (neL m)) = false from rf_not (rf_beqB _), decide_eq_true p1, decide_eq_true et]
      exact l3 l k j (i + 1) _ _ _ _ (by omega) p1 et
    | false =>
      have p1 := ps_ok l[i].2 ho
      have p2 := ps_it l[i].2 ho
      have ee : psE n k = rpE m k := by
        unfold psE rpE
        by_cases h1 : n = k
        · rw [if_pos h1, if_pos (by omega)]
        · rw [if_neg h1, if_neg (by omega)]
      have et : itR (psL r a n k l[i].2) (psA r a n k) (psN n k) = rpL m k l[i].2 := by
        rw [p2, hm]; unfold rpL
        by_cases h1 : n = k
        · rw [if_pos h1, if_pos (by omega)]
        · rw [if_neg h1, if_neg (by omega)]
      rw [ee, show ine (rpE m k) (rpE m k) = false from rf_ine _, decide_eq_true p1, decide_eq_true et]
      exact l3 l k j (i + 1) _ _ _ _ (by omega) p1 et
theorem plays (k : Int) (l : List (Bool × Int)) : ACalls Try.prog 3 [AV.v (.int .i64 k), AV.sw 0 2] [AObj.rows false [.bool, .int .i64] l] (AV.v (Value.bool true)) [] [] := by
  have e : imin (imax k 0) 65536 = imax 0 (imin k 65536) := by unfold imin imax; omega
  have ho : okR [] 0 0 (imax 0 (imin k 65536)) = true := by rw [okR_iff]; unfold imin imax; simp; omega
  exact f3 k l 0 (min 60 l.length + 1) 0 (fun _ => by rw [e]; exact l3 l _ (min 60 l.length) 0 0 0 [] [] (by omega) ho (by simp [itR])) (fun h => by simp at h)
theorem law_plays (k : Int) (l : List (El (Go.Abs.PS.agg [.bool, .int .i64]).ck)) (w0 : (Lit.int .i64 k).wf = true) (w1 : ∀ y ∈ l, El.ok (Go.Abs.PS.agg [.bool, .int .i64]).ck y) :
    ACalls Try.prog 3 [AV.v (.int .i64 k), AV.sw 0 2] [rowO (Go.Abs.PS.agg [.bool, .int .i64]).ck l] (AV.v (Value.bool true)) [] [] := plays k l
end Go.Proofs.Ytiblodkkjibcoaa.Ring
