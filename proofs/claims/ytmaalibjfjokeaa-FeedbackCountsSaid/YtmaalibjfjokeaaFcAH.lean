import Derived.Test.YtmaalibjfjokeaaFcA
set_option linter.unusedVariables false
set_option linter.unusedSimpArgs false
set_option maxRecDepth 100000
namespace Go.Proofs.Ytmaalibjfjokeaa.Fk
open Go.Abs Go.Proofs.Ytmaalibjfjokeaa.Ser Go.Proofs.Ytmaalibjfjokeaa.Ace
/-- the receiver's count behind one more packet -/
def cst (m : Int) (c : El K4) (k : Int) : El K4 := (f16r0 c.1 c.2.1 c.2.2.1 c.2.2.2 (icv .i64 (irem k 4)) (iadd .i64 (icv .i64 m) 1), f16r1 c.1 c.2.1 c.2.2.1 c.2.2.2 (icv .i64 (irem k 4)) (iadd .i64 (icv .i64 m) 1), f16r2 c.1 c.2.1 c.2.2.1 c.2.2.2 (icv .i64 (irem k 4)) (iadd .i64 (icv .i64 m) 1), f16r3 c.1 c.2.1 c.2.2.1 c.2.2.2 (icv .i64 (irem k 4)) (iadd .i64 (icv .i64 m) 1))
/-- the counts behind each packet -/
def cls (m : Int) : List Int → El K4 → List (El K4)
  | [], _ => []
  | k :: l, c => cst m c k :: cls m l (cst m c k)
def cl6 (m : Int) (l : List Int) : List (El K4) := cls m (l.take 100) (5, 0, 1, 1)
def tls (t : List Bool) : Nat → Nat → List Bool
  | 0, _ => []
  | n + 1, i => t.getD i false :: tls t n (i + 1)
def tl6 (l : List Int) (t : List Bool) : List Bool := tls t (min 100 l.length) 0
theorem l6 (m : Int) (l : List Int) (t : List Bool) (r : List Int) : ∀ (j i : Nat) (c : El K4) (y5 : List (El K4)) (y6 : List Bool), i + j = min 100 l.length → y5.length = i → y6.length = i →
    L6L m l t r (j + 1) (i : Int) c.1 c.2.1 c.2.2.1 c.2.2.2 y5 y6 = some (y5 ++ cls m ((l.take 100).drop i) c, y6 ++ tls t j i)
  | 0, i, c, y5, y6, h, h5, h6 => by
    have e : (l.take 100).drop i = [] := by rw [List.drop_eq_nil_iff]; simp; omega
    rw [L6L, e]
    simp only [cls, tls, List.append_nil]
    by_cases h1 : (i : Int) < l.length
    · rw [show ilt (i : Int) (nlen (lenI l)) = true from by simp only [ilt_d, nlen, lenI, decide_eq_true_eq]; omega, show ilt (i : Int) 100 = false from by simp only [ilt_d, decide_eq_false_iff_not]; omega]; rfl
    · rw [show ilt (i : Int) (nlen (lenI l)) = false from by simp only [ilt_d, nlen, lenI, decide_eq_false_iff_not]; omega]; rfl
  | j + 1, i, c, y5, y6, h, h5, h6 => by
    have hi : i < l.length := by omega
    have hi2 : i < (l.take 100).length := by simp; omega
    have e3 : iadd .i64 (i : Int) 1 = ((i + 1 : Nat) : Int) := by unfold iadd; rw [w_i64_in (by omega)]; omega
    have eg : getI l (idxN 0 (i : Int)) = l[i] := by
      unfold getI idxN; rw [Int.toNat_natCast, Nat.zero_add, List.getD_eq_getElem?_getD, List.getElem?_eq_getElem hi, Option.getD_some]
    have ed : (l.take 100).drop i = l[i] :: (l.take 100).drop (i + 1) := by
      rw [List.drop_eq_getElem_cons hi2]; simp
    have i1 := decide_eq_true (show inB (i : Int) (lenI l) from ⟨by omega, by unfold lenI; omega⟩)
    have i2 := decide_eq_true (show ltN (idxN 0 (i : Int)) (lenI l) from by unfold ltN idxN lenI; omega)
    have ih := l6 m l t r j (i + 1) (cst m c l[i]) (y5 ++ [cst m c l[i]]) (y6 ++ [t.getD i false]) (by omega) (by simp [h5]) (by simp [h6])
    rw [L6L, eg, ed, show ilt (i : Int) (nlen (lenI l)) = true from by simp only [ilt_d, nlen, lenI, decide_eq_true_eq]; omega, show ilt (i : Int) 100 = true from by simp only [ilt_d, decide_eq_true_eq]; omega, e3, i1, i2]
    have f1 : ∀ x : El K4, fitN (addN (lenR K4 y5) (lenR K4 [x])) 32 := fun x => by unfold fitN addN lenR; simp; omega
    have f2 : fitN (addN (lenB y6) 1) 1 := by unfold fitN addN lenB; omega
    by_cases ht : i < t.length
    · rw [show ilt (i : Int) (nlen (lenB t)) = true from by simp only [ilt_d, nlen, lenB, decide_eq_true_eq]; omega, decide_eq_true (f1 _), decide_eq_true (show inB (i : Int) (lenB t) from ⟨by omega, by unfold lenB; omega⟩), decide_eq_true (show ltN (idxN 0 (i : Int)) (lenB t) from by unfold ltN idxN lenB; omega),
        decide_eq_true (show fitN (addN (lenB y6) (lenB [getB t (idxN 0 (i : Int))])) 1 from f2)]
      simp only [cond_true]
      have eb : getB t (idxN 0 (i : Int)) = t.getD i false := by unfold getB idxN; rw [Int.toNat_natCast, Nat.zero_add]
      rw [eb]
      refine Eq.trans ?_ (ih.trans ?_)
      · rfl
      · simp [cls, tls]
    · rw [show ilt (i : Int) (nlen (lenB t)) = false from by simp only [ilt_d, nlen, lenB, decide_eq_false_iff_not]; omega, decide_eq_true (f1 _), decide_eq_true f2]
      simp only [cond_true, cond_false]
      have eb : t.getD i false = false := by rw [List.getD_eq_getElem?_getD, List.getElem?_eq_none (by omega)]; rfl
      rw [eb] at ih
      refine Eq.trans ?_ (ih.trans ?_)
      · rfl
      · simp only [cls, tls, eb]; simp
theorem g6 (m : Int) (l : List Int) (t : List Bool) (r : List Int) : ACalls Try.prog 6 [AV.agg [AV.v (.int .u16 m), AV.sw 0 1, AV.sw 1 1, AV.sw 2 1]] [AObj.ints 0 false IntKind.u8 l, AObj.bools 0 false t, AObj.ints 0 false IntKind.u8 r]
    (AV.tup [AV.sw 3 4, AV.sw 4 1]) [] [AObj.rows true K4 (cl6 m l), AObj.bools 0 true (tl6 l t)] :=
  f6 m l t r (min 100 l.length + 1) (cl6 m l) (tl6 l t) (l6 m l t r (min 100 l.length) 0 (5, 0, 1, 1) [] [] (by omega) rfl rfl)
end Go.Proofs.Ytmaalibjfjokeaa.Fk
