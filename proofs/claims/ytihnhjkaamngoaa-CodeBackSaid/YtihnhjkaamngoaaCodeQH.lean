import Derived.Test.YtihnhjkaamngoaaCodeQ
import Derived.Test.YtihnhjkaamngoaaAbsWs
set_option linter.unusedVariables false
set_option linter.unusedSimpArgs false
set_option maxRecDepth 100000
namespace Go.Proofs.Ytihnhjkaamngoaa.Code
open Go.Abs
theorem upA_ok {m : List Int} {a : Int} (r x : Int) (h : okC m a = true) : okC m (upA m a r x) = true := by
  have sp := num0_spec h
  have h' := okC_iff.1 h
  rw [okC_iff]; refine ⟨?_, h'.2⟩
  unfold upA
  cases ho : upOk m a r x with
  | false => exact h'.1
  | true =>
    unfold upOk at ho; rw [decide_eq_true_eq] at ho
    have := sp.2.2.2.1 ho.2.1
    simp only [cond_true]; omega
theorem txA_ok {m : List Int} {a : Int} (r x : Int) (h : okC m a = true) : okC m (txA m a r x) = true := by
  have sp := num0_spec h
  have h' := okC_iff.1 h
  rw [okC_iff]; refine ⟨?_, h'.2⟩
  unfold txA
  cases ho : txOk m a r x with
  | false => exact h'.1
  | true =>
    unfold txOk at ho; rw [decide_eq_true_eq] at ho
    have := sp.2.2.2.1 ho.2.1
    simp only [cond_true]; omega
theorem l4 (m : List Int) (l : List (Int × Int)) (y : List Int) (hw : ∀ c ∈ l, i64B c.2 = true) : ∀ (k i : Nat) (a r : Int), i + k = min 30 l.length → okC y a = true →
    L4L m l (k + 1) (nlen (lenR [CK.int .i64, CK.int .i64] l)) y (i : Int) a r = some ()
  | 0, i, a, r, h, ho => by
    rw [L4L]
    by_cases h1 : (i : Int) < l.length
    · have hi : i < l.length := by omega
      rw [show ilt (i : Int) (nlen (lenR [CK.int .i64, CK.int .i64] l)) = true from by simp only [ilt_d, nlen, lenR, decide_eq_true_eq]; omega, show ile 30 (i : Int) = true from by simp only [ile_d, decide_eq_true_eq]; omega,
        decide_eq_true (show inB (i : Int) (lenR [CK.int .i64, CK.int .i64] l) from ⟨by omega, by unfold lenR; omega⟩), decide_eq_true (show ltN (idxN 0 (i : Int)) (lenR [CK.int .i64, CK.int .i64] l) from by unfold ltN idxN lenR; omega)]; rfl
    · rw [show ilt (i : Int) (nlen (lenR [CK.int .i64, CK.int .i64] l)) = false from by simp only [ilt_d, nlen, lenR, decide_eq_false_iff_not]; omega]; rfl
  | k + 1, i, a, r, h, ho => by
    have hi : i < l.length := by omega
    have e3 : iadd .i64 (i : Int) 1 = ((i + 1 : Nat) : Int) := by unfold iadd; rw [w_i64_in (by omega)]; omega
    have eg : getR [CK.int .i64, CK.int .i64] l (idxN 0 (i : Int)) = l[i] := by
      unfold getR idxN; rw [Int.toNat_natCast, Nat.zero_add, List.getD_eq_getElem?_getD, List.getElem?_eq_getElem hi, Option.getD_some]
    have hwi := hw l[i] (List.getElem_mem hi)
    rw [L4L, show ilt (i : Int) (nlen (lenR [CK.int .i64, CK.int .i64] l)) = true from by simp only [ilt_d, nlen, lenR, decide_eq_true_eq]; omega, show ile 30 (i : Int) = false from by simp only [ile_d, decide_eq_false_iff_not]; omega, eg, e3,
      decide_eq_true (show inB (i : Int) (lenR [CK.int .i64, CK.int .i64] l) from ⟨by omega, by unfold lenR; omega⟩), decide_eq_true (show ltN (idxN 0 (i : Int)) (lenR [CK.int .i64, CK.int .i64] l) from by unfold ltN idxN lenR; omega),
      decide_eq_true ho, decide_eq_true (upV_u64 ho r _), decide_eq_true (upA_ok r _ ho), decide_eq_true (upA_ok r _ ho), decide_eq_true (txA_ok r _ ho), decide_eq_true hwi,
      l4 m l y hw k (i + 1) _ _ (by omega) (upA_ok r _ ho), l4 m l y hw k (i + 1) _ _ (by omega) (upA_ok r _ ho), l4 m l y hw k (i + 1) _ _ (by omega) (txA_ok r _ ho)]
    cases ieq l[i].1 1 <;> cases ieq l[i].1 2 <;> cases ieq l[i].1 3 <;> rfl
theorem takes (m : List Int) (l : List (Int × Int)) (hm : byB m = true) (hw : ∀ c ∈ l, i64B c.2 = true) :
    ACalls Try.prog 4 [AV.sw 0 1, AV.sw 1 2] [AObj.ints 0 false .u8 m, AObj.rows false [.int .i64, .int .i64] l] (AV.v (Value.bool true)) [] [] := by
  have hl : (subI m 0 (subN (imin (nlen (lenI m)) 200) 0)).length ≤ 200 := by unfold subI subN imin nlen lenI; rw [List.length_take]; omega
  have ho : okC (subI m 0 (subN (imin (nlen (lenI m)) 200) 0)) 0 = true := by
    rw [okC_iff]; refine ⟨by omega, byB_iff.2 fun c hc => byB_iff.1 hm c ?_⟩
    unfold subI at hc; exact List.mem_of_mem_drop (List.mem_of_mem_take hc)
  exact f4 m l _ (l4 m l _ hw (min 30 l.length) 0 0 0 (by omega) ho) (by unfold inC imin nlen lenI; omega) (by unfold leN subN imin nlen lenI; show 0 + _ ≤ _; omega) (by unfold fitN lenI at *; omega)
theorem law_takes (m : List (El (Go.Abs.PS.int .u8).ck)) (l : List (El (Go.Abs.PS.agg [.int .i64, .int .i64]).ck)) (w0 : ∀ y ∈ m, El.ok (Go.Abs.PS.int .u8).ck y) (w1 : ∀ y ∈ l, El.ok (Go.Abs.PS.agg [.int .i64, .int .i64]).ck y) :
    ACalls Try.prog 4 [AV.sw 0 1, AV.sw 1 2] [rowO (Go.Abs.PS.int .u8).ck m, rowO (Go.Abs.PS.agg [.int .i64, .int .i64]).ck l] (AV.v (Value.bool true)) [] [] :=
  takes m l (byB_iff.2 fun c hc => wf_u8' (w0 c hc)) (fun c hc => by rw [i64B_iff]; exact wf_i64' (w1 c hc).2)
end Go.Proofs.Ytihnhjkaamngoaa.Code
