import Derived.Test.YtmaalibjfjokeaaFt
import Derived.Test.YtmaalibjfjokeaaAbsWs
set_option linter.unusedVariables false
set_option linter.unusedSimpArgs false
set_option maxRecDepth 100000
namespace Go.Proofs.Ytmaalibjfjokeaa.Fk
open Go.Abs Go.Proofs.Ytmaalibjfjokeaa.Ser Go.Proofs.Ytmaalibjfjokeaa.Ace
theorem ine_s (a : Int) : ine a a = false := rf_ine a
theorem ieq_s (a : Int) : ieq a a = true := rf_ieq a
theorem l4 (m : Int) (hm : -9223372036854775808 ≤ m ∧ m ≤ 9223372036854775807) (l : List (Int × Int × Int × Int × Int × Int)) (hw : ∀ c ∈ l, 0 ≤ c.2.2.1 ∧ c.2.2.1 ≤ 255) : ∀ (j i : Nat) (k b x y z s c d : Int), i + j = min 60 l.length → 0 ≤ c ∧ c ≤ i →
    ∃ (k' b' x' y' z' s' c' d' : Int) (an : Bool), L4L m l (j + 1) (nlen (lenR KA l)) k b k b (i : Int) x y z x y z s (ilt 0 c) s c d = some (0, k', b', x', y', z', k', b', x', y', z', s', an, s', c', d', 0, 0, 0, 0, 0, 0, 0, 0, 0, 0, 0, false, 0, 0, 0) ∨
      L4L m l (j + 1) (nlen (lenR KA l)) k b k b (i : Int) x y z x y z s (ilt 0 c) s c d = some (0, k', b', x', y', z', k', b', x', y', z', s', an, s', c', d', 0, 0, 0, 0, 0, 0, 0, 0, 0, 0, 0, false, 0, 0, 0)
  | 0, i, k, b, x, y, z, s, c, d, h, hc => by
    refine ⟨k, b, x, y, z, s, c, d, ilt 0 c, .inl ?_⟩
    rw [L4L]
    by_cases h1 : (i : Int) < l.length
    · rw [show ilt (i : Int) (nlen (lenR KA l)) = true from by simp only [ilt_d, nlen, lenR, decide_eq_true_eq]; omega, show ile 60 (i : Int) = true from by simp only [ile_d, decide_eq_true_eq]; omega,
        decide_eq_true (show inB (i : Int) (lenR KA l) from ⟨by omega, by unfold lenR; omega⟩), decide_eq_true (show ltN (idxN 0 (i : Int)) (lenR KA l) from by unfold ltN idxN lenR; omega)]; rfl
    · rw [show ilt (i : Int) (nlen (lenR KA l)) = false from by simp only [ilt_d, nlen, lenR, decide_eq_false_iff_not]; omega]; rfl
  | j + 1, i, k, b, x, y, z, s, c, d, h, hc => by
    have hi : i < l.length := by omega
    have e3 : iadd .i64 (i : Int) 1 = ((i + 1 : Nat) : Int) := by unfold iadd; rw [w_i64_in (by omega)]; omega
    have eg : getR KA l (idxN 0 (i : Int)) = l[i] := by
      unfold getR idxN; rw [Int.toNat_natCast, Nat.zero_add, List.getD_eq_getElem?_getD, List.getElem?_eq_getElem hi, Option.getD_some]
    have ha := hw l[i] (List.getElem_mem hi)
    have i1 := decide_eq_true (show inB (i : Int) (lenR KA l) from ⟨by omega, by unfold lenR; omega⟩)
    have i2 := decide_eq_true (show ltN (idxN 0 (i : Int)) (lenR KA l) from by unfold ltN idxN lenR; omega)
    have ei : inc c = c + 1 := by unfold inc iadd; rw [w_i64_in (by omega)]
    have ean : ∀ t : Bool, (bif t then true else ilt 0 c) = ilt 0 (bif t then inc c else c) := fun t => by
      cases t
      · rfl
      · show true = ilt 0 (inc c); rw [ei, ilt_d]; exact (decide_eq_true (by omega)).symm
    have hc' : ∀ t : Bool, 0 ≤ (bif t then inc c else c) ∧ (bif t then inc c else c) ≤ ((i + 1 : Nat) : Int) := fun t => by cases t <;> simp only [cond_true, cond_false, ei] <;> omega
    have ih := l4 m hm l hw j (i + 1) (kaI (ilt 0 c) m k b x y z s l[i].2.1 l[i].2.2.1 l[i].2.2.2.1 l[i].2.2.2.2.1 l[i].2.2.2.2.2) (baI (ilt 0 c) m k b x y z s l[i].2.1 l[i].2.2.1 l[i].2.2.2.1 l[i].2.2.2.2.1 l[i].2.2.2.2.2)
      (byI (tkB (ilt 0 c) x y z s l[i].2.1 l[i].2.2.1 l[i].2.2.2.1 l[i].2.2.2.2.1 l[i].2.2.2.2.2) x l[i].2.2.2.1) (byI (tkB (ilt 0 c) x y z s l[i].2.1 l[i].2.2.1 l[i].2.2.2.1 l[i].2.2.2.2.1 l[i].2.2.2.2.2) y l[i].2.2.2.2.1) (byI (tkB (ilt 0 c) x y z s l[i].2.1 l[i].2.2.1 l[i].2.2.2.1 l[i].2.2.2.2.1 l[i].2.2.2.2.2) z l[i].2.2.2.2.2)
      (bif tkB (ilt 0 c) x y z s l[i].2.1 l[i].2.2.1 l[i].2.2.2.1 l[i].2.2.2.2.1 l[i].2.2.2.2.2 then l[i].2.1 else s) (bif tkB (ilt 0 c) x y z s l[i].2.1 l[i].2.2.1 l[i].2.2.2.1 l[i].2.2.2.2.1 l[i].2.2.2.2.2 then inc c else c) (lsI (ilt 0 c) x y z s l[i].2.1 l[i].2.2.1 l[i].2.2.2.1 l[i].2.2.2.2.1 l[i].2.2.2.2.2 d) (by omega) (hc' _)
    obtain ⟨k', b', x', y', z', s', c', d', an, ih⟩ := ih
    refine ⟨k', b', x', y', z', s', c', d', an, .inl ?_⟩
    have ih := (or_self_iff.1 ih)
    rw [L4L, eg, show ilt (i : Int) (nlen (lenR KA l)) = true from by simp only [ilt_d, nlen, lenR, decide_eq_true_eq]; omega, show ile 60 (i : Int) = false from by simp only [ile_d, decide_eq_false_iff_not]; omega, e3, i1, i2, decide_eq_true ha, decide_eq_true hm]
    simp only [ine_s, ieq_s, ean, cond_true, cond_false, show notB (andB true (andB true true)) = false from rfl]
    exact ih
theorem ftakes (m t : Int) (hm : -9223372036854775808 ≤ m ∧ m ≤ 9223372036854775807) (l : List (Int × Int × Int × Int × Int × Int)) (hw : ∀ c ∈ l, 0 ≤ c.2.2.1 ∧ c.2.2.1 ≤ 255) :
    ACalls Try.prog 4 [AV.v (.int .i64 m), AV.v (.int .i64 t), AV.sw 0 6] [AObj.rows false [.int .i64, .int .u32, .int .u8, .int .i64, .int .i64, .int .i64] l] (AV.v (Value.bool true)) [] [] := by
  have e : imin (imax t 0) 1099511627776 = imax 0 (imin t 1099511627776) := by unfold imin imax; omega
  obtain ⟨k', b', x', y', z', s', c', d', an, h⟩ := l4 m hm l hw (min 60 l.length) 0 (imax 0 (imin t 1099511627776)) (imax 0 (imin t 1099511627776)) 1 0 1 0 0 0 (by omega) (by omega)
  have h := or_self_iff.1 h
  have := f4 m t l 0 (min 60 l.length + 1) k' b' x' y' z' k' b' x' y' z' s' an s' c' d' 0 0 0 0 0 0 0 0 0 0 0 0 false 0 0 0 (fun _ => by rw [e]; exact h) (fun h => by simp at h)
  have r : f4r0 m t l 0 (min 60 l.length + 1) k' b' x' y' z' k' b' x' y' z' s' an s' c' d' 0 0 0 0 0 0 0 0 0 0 0 0 false 0 0 0 = true := by
    unfold f4r0; simp only [ieq_s]; rfl
  rw [r] at this; exact this
theorem law_takes (m t : Int) (l : List (El (Go.Abs.PS.agg [.int .i64, .int .u32, .int .u8, .agg [.int .i64, .int .i64, .int .i64]]).ck)) (w0 : (Lit.int .i64 m).wf = true) (w1 : (Lit.int .i64 t).wf = true) (w2 : ∀ y ∈ l, El.ok (Go.Abs.PS.agg [.int .i64, .int .u32, .int .u8, .agg [.int .i64, .int .i64, .int .i64]]).ck y) :
    ACalls Try.prog 4 [AV.v (.int .i64 m), AV.v (.int .i64 t), AV.sw 0 6] [rowO (Go.Abs.PS.agg [.int .i64, .int .u32, .int .u8, .agg [.int .i64, .int .i64, .int .i64]]).ck l] (AV.v (Value.bool true)) [] [] :=
  ftakes m t (wf_i64' w0) l (fun c hc => wf_u8' (w2 c hc).2.2.1)
end Go.Proofs.Ytmaalibjfjokeaa.Fk
