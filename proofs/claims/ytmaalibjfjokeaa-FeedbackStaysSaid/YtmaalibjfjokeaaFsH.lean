import Derived.Test.YtmaalibjfjokeaaFs
import Derived.Test.YtmaalibjfjokeaaFkM
import Derived.Test.YtmaalibjfjokeaaAbsWs
set_option linter.unusedVariables false
set_option linter.unusedSimpArgs false
set_option maxRecDepth 100000
namespace Go.Proofs.Ytmaalibjfjokeaa.Fk
open Go.Abs Go.Proofs.Ytmaalibjfjokeaa.Ser Go.Proofs.Ytmaalibjfjokeaa.Ace
theorem l5 (m : Int) (hm : -9223372036854775808 ≤ m ∧ m ≤ 9223372036854775807) (l : List (Int × Int × Int × Int × Int × Int)) (hw : ∀ c ∈ l, 0 ≤ c.2.2.1 ∧ c.2.2.1 ≤ 255) : ∀ (j i : Nat) (k b x y z s c d : Int), i + j = min 60 l.length → 0 ≤ b ∧ b ≤ k ∧ k ≤ 5 + i * 1099511627783 →
    L5L m l (j + 1) (nlen (lenR KA l)) (i : Int) k b x y z s c d = some 0
  | 0, i, k, b, x, y, z, s, c, d, h, hb => by
    rw [L5L]
    by_cases h1 : (i : Int) < l.length
    · rw [show ilt (i : Int) (nlen (lenR KA l)) = true from by simp only [ilt_d, nlen, lenR, decide_eq_true_eq]; omega, show ile 60 (i : Int) = true from by simp only [ile_d, decide_eq_true_eq]; omega,
        decide_eq_true (show inB (i : Int) (lenR KA l) from ⟨by omega, by unfold lenR; omega⟩), decide_eq_true (show ltN (idxN 0 (i : Int)) (lenR KA l) from by unfold ltN idxN lenR; omega)]; rfl
    · rw [show ilt (i : Int) (nlen (lenR KA l)) = false from by simp only [ilt_d, nlen, lenR, decide_eq_false_iff_not]; omega]; rfl
  | j + 1, i, k, b, x, y, z, s, c, d, h, hb => by
    have hi : i < l.length := by omega
    have e3 : iadd .i64 (i : Int) 1 = ((i + 1 : Nat) : Int) := by unfold iadd; rw [w_i64_in (by omega)]; omega
    have eg : ga l (i : Int) = l[i] := by
      unfold ga getR idxN; rw [Int.toNat_natCast, Nat.zero_add, List.getD_eq_getElem?_getD, List.getElem?_eq_getElem hi, Option.getD_some]
    have ha := hw l[i] (List.getElem_mem hi)
    have i1 := decide_eq_true (show inB (i : Int) (lenR KA l) from ⟨by omega, by unfold lenR; omega⟩)
    have i2 := decide_eq_true (show ltN (idxN 0 (i : Int)) (lenR KA l) from by unfold ltN idxN lenR; omega)
    have T := takes (an := ilt 0 c) (m := m) (k := k) (b := b) (x := x) (y := y) (z := z) (l := s) (s := l[i].2.1) (a := l[i].2.2.1) (p := l[i].2.2.2.1) (q := l[i].2.2.2.2.1) (r := l[i].2.2.2.2.2) (by omega) ha
    have ih := fun x y z s c d => l5 m hm l hw j (i + 1) _ _ x y z s c d (by omega) ⟨T.bd.1, T.bd.2.1, by have := T.bd.2.2; omega⟩
    rw [L5L, eg, show ilt (i : Int) (nlen (lenR KA l)) = true from by simp only [ilt_d, nlen, lenR, decide_eq_true_eq]; omega, show ile 60 (i : Int) = false from by simp only [ile_d, decide_eq_false_iff_not]; omega, e3, i1, i2, decide_eq_true ha, decide_eq_true hm, T.n0, T.sum, ih]
    cases he : ine (erI (ilt 0 c) x y z s l[i].2.1 l[i].2.2.1 l[i].2.2.2.1 l[i].2.2.2.2.1 l[i].2.2.2.2.2) 0 with
    | true =>
      obtain ⟨q1, q2, q3, q4⟩ := T.none he
      rw [q1, q2, q3, q4]
      have e : notB (andB (ieq x x) (andB (ieq y y) (ieq z z))) = false := by simp [notB, andB, ieq_d]
      rw [e]; rfl
    | false =>
      rw [T.some he]; rfl
theorem stays (m : Int) (hm : -9223372036854775808 ≤ m ∧ m ≤ 9223372036854775807) (l : List (Int × Int × Int × Int × Int × Int)) (hw : ∀ c ∈ l, 0 ≤ c.2.2.1 ∧ c.2.2.1 ≤ 255) :
    ACalls Try.prog 5 [AV.v (.int .i64 m), AV.sw 0 6] [AObj.rows false [.int .i64, .int .u32, .int .u8, .int .i64, .int .i64, .int .i64] l] (AV.v (Value.bool true)) [] [] :=
  f5 m l 0 (min 60 l.length + 1) 0 (fun _ => l5 m hm l hw _ 0 5 5 1 0 1 0 0 0 (by omega) (by omega)) (fun h => by simp at h)
theorem law_stays (m : Int) (l : List (El (Go.Abs.PS.agg [.int .i64, .int .u32, .int .u8, .agg [.int .i64, .int .i64, .int .i64]]).ck)) (w0 : (Lit.int .i64 m).wf = true) (w1 : ∀ y ∈ l, El.ok (Go.Abs.PS.agg [.int .i64, .int .u32, .int .u8, .agg [.int .i64, .int .i64, .int .i64]]).ck y) :
    ACalls Try.prog 5 [AV.v (.int .i64 m), AV.sw 0 6] [rowO (Go.Abs.PS.agg [.int .i64, .int .u32, .int .u8, .agg [.int .i64, .int .i64, .int .i64]]).ck l] (AV.v (Value.bool true)) [] [] :=
  stays m (wf_i64' w0) l (fun c hc => wf_u8' (w1 c hc).2.2.1)
end Go.Proofs.Ytmaalibjfjokeaa.Fk
