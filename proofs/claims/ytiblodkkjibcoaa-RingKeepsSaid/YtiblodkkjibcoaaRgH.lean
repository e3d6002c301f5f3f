import Derived.Test.YtiblodkkjibcoaaRgG
import Derived.Test.YtiblodkkjibcoaaAbsWs
set_option linter.all false
set_option maxRecDepth 100000
/- RingKeeps: the law. -/
namespace Go.Proofs.Ytiblodkkjibcoaa.Ring
open Go.Abs
theorem nN {l : List Int} {a n k : Int} (h : okR l a n k = true) : n = ((itR l a n).length : Int) := by
  have := okR_iff.1 h
  rw [itR_len]; omega
theorem dp_zero {l : List Int} {a n k : Int} (h : okR l a n k = true) (hn : n ≤ 1) : dpN l a n 1 = 0 := by
  have h1 := dp_ok 1 h
  have h2 := dp_it 1 h
  rw [nN h1, h2, List.length_drop, itR_len]
  have h3 := okR_iff.1 h
  have : dk 1 n = n := by unfold dk imax imin; omega
  rw [this]; omega
theorem la (m y : List Int) (q c k : Int) (hc : 0 ≤ c ∧ c ≤ 255) : ∀ (j i : Nat) (a : Int) (l : List Int), (i : Int) + j = c → okR l a 0 k = true →
    ∃ (a' : Int) (l' : List Int), LaL m q c (j + 1) y k (i : Int) a 0 l = some (y, a', 0, k, l') ∧ okR l' a' 0 k = true
  | 0, i, a, l, h, ho => by
    have e : icv .i64 c = c := by unfold icv; rw [w_i64_in (by omega)]
    refine ⟨a, l, ?_, ho⟩
    rw [LaLK]; unfold LaB
    rw [e, show ilt (i : Int) c = false from by simp only [ilt_d, decide_eq_false_iff_not]; omega]; rfl
  | j + 1, i, a, l, h, ho => by
    have e : icv .i64 c = c := by unfold icv; rw [w_i64_in (by omega)]
    have e3 : iadd .i64 (i : Int) 1 = ((i + 1 : Nat) : Int) := by unfold iadd; rw [w_i64_in (by omega)]; omega
    have h1 := ps_ok 1 ho
    have h2 := dp_ok 1 h1
    have hp : psN 0 k ≤ 1 := by unfold psN; split <;> omega
    have en := dp_zero h1 hp
    rw [en] at h2
    obtain ⟨a', l', q1, q2⟩ := la m y q c k hc j (i + 1) _ _ (by omega) h2
    refine ⟨a', l', ?_, q2⟩
    rw [LaLK]; unfold LaB
    rw [e, show ilt (i : Int) c = true from by simp only [ilt_d, decide_eq_true_eq]; omega, e3, en, ho, h1]
    exact q1
theorem lb (m y : List Int) (q k : Int) (hk : k = y.length) (hy : y.length ≤ 60) : ∀ (j i : Nat) (a n : Int) (l : List Int), i + j = y.length → okR l a n k = true → itR l a n = y.take i →
    ∃ (a' n' : Int) (l' : List Int), LbL m q (j + 1) (nlen (lenI y)) y a n k l (i : Int) = some (y, a', n', k, l') ∧ okR l' a' n' k = true ∧ itR l' a' n' = y
  | 0, i, a, n, l, h, ho, hi => by
    refine ⟨a, n, l, ?_, ho, by rw [hi, List.take_of_length_le (by omega)]⟩
    rw [LbLK]; unfold LbB
    rw [show ilt (i : Int) (nlen (lenI y)) = false from by simp only [ilt_d, nlen, lenI, decide_eq_false_iff_not]; omega]; rfl
  | j + 1, i, a, n, l, h, ho, hi => by
    have hlt : i < y.length := by omega
    have e3 : iadd .i64 (i : Int) 1 = ((i + 1 : Nat) : Int) := by unfold iadd; rw [w_i64_in (by omega)]; omega
    have hn : n.toNat = i := by
      have := congrArg List.length hi
      rw [itR_len, List.length_take] at this; omega
    have ho' := okR_iff.1 ho
    have hnk : n ≠ k := by omega
    have eg : getI y (idxN 0 (i : Int)) = y[i] := by unfold getI idxN; rw [Int.toNat_natCast, Nat.zero_add, List.getD_eq_getElem?_getD, List.getElem?_eq_getElem hlt]; rfl
    have h1 := ps_ok (y[i]) ho
    have h2 := ps_it (y[i]) ho
    rw [if_neg hnk, hi] at h2
    obtain ⟨a', n', l', q1, q2, q3⟩ := lb m y q k hk hy j (i + 1) _ _ _ (by omega) h1 (by rw [h2, List.take_succ_eq_append_getElem hlt])
    refine ⟨a', n', l', ?_, q2, q3⟩
    rw [LbLK]; unfold LbB
    rw [show ilt (i : Int) (nlen (lenI y)) = true from by simp only [ilt_d, nlen, lenI, decide_eq_true_eq]; omega, eg, e3,
      decide_eq_true (show inB (i : Int) (lenI y) from ⟨by omega, by unfold lenI; omega⟩), decide_eq_true (show ltN (idxN 0 (i : Int)) (lenI y) from by unfold ltN idxN lenI; omega), ho]
    exact q1
def wt (y : List Int) (kk : Int) (i : Nat) : List Int := ((y.take i).drop kk.toNat).filter evB
theorem wt_s (y : List Int) (kk : Int) {i : Nat} (hi : i < y.length) : wt y kk (i + 1) = bif ile kk (i : Int) && evB y[i] then wt y kk i ++ [y[i]] else wt y kk i := by
  unfold wt
  rw [List.take_succ_eq_append_getElem hi]
  by_cases h : kk ≤ (i : Int)
  · have h1 : ile kk (i : Int) = true := by rw [ile_d]; exact decide_eq_true h
    have hl : kk.toNat ≤ (y.take i).length := by rw [List.length_take]; omega
    rw [h1, List.drop_append_of_le_length hl, List.filter_append]
    simp only [Bool.true_and]
    cases hb : evB y[i] <;> simp [hb]
  · have h1 : ile kk (i : Int) = false := by rw [ile_d]; exact decide_eq_false h
    have hl : (y.take i).length ≤ kk.toNat := by rw [List.length_take]; omega
    rw [h1, List.drop_eq_nil_of_le (by simp at hl ⊢; omega), List.drop_eq_nil_of_le (by omega)]; rfl
theorem lc (m y : List Int) (kk a n k : Int) (l : List Int) (hy : y.length ≤ 60) : ∀ (j i : Nat), i + j = y.length →
    LcL m (j + 1) kk (nlen (lenI y)) y a n k y l (i : Int) (wt y kk i) = some (1, 0, [], 0, 0, 0, [], [], kk, y, a, n, k, wt y kk y.length, l)
  | 0, i, h => by
    have : i = y.length := by omega
    subst this
    rw [LcLK]; unfold LcB
    rw [show ilt ((y.length : Nat) : Int) (nlen (lenI y)) = false from by simp only [ilt_d, nlen, lenI, decide_eq_false_iff_not]; omega]; rfl
  | j + 1, i, h => by
    have hlt : i < y.length := by omega
    have e3 : iadd .i64 (i : Int) 1 = ((i + 1 : Nat) : Int) := by unfold iadd; rw [w_i64_in (by omega)]; omega
    have eg : getI y (idxN 0 (i : Int)) = y[i] := by unfold getI idxN; rw [Int.toNat_natCast, Nat.zero_add, List.getD_eq_getElem?_getD, List.getElem?_eq_getElem hlt]; rfl
    have hne : ine y[i] y[i] = false := by rw [ine_d]; simp
    have d1 := decide_eq_true (show inB (i : Int) (lenI y) from ⟨by omega, by unfold lenI; omega⟩)
    have d2 := decide_eq_true (show ltN (idxN 0 (i : Int)) (lenI y) from by unfold ltN idxN lenI; omega)
    have hwl : (wt y kk i).length ≤ 60 := by
      unfold wt
      have := List.length_filter_le evB ((y.take i).drop kk.toNat)
      rw [List.length_drop, List.length_take] at this; omega
    have d3 := decide_eq_true (show fitN (addN (lenI (wt y kk i)) (lenI [y[i]])) 8 from by unfold fitN addN lenI; simp only [List.length_cons, List.length_nil]; omega)
    have ih := lc m y kk a n k l hy j (i + 1) (by omega)
    rw [wt_s y kk hlt] at ih
    rw [LcLK]; unfold LcB
    rw [show ilt (i : Int) (nlen (lenI y)) = true from by simp only [ilt_d, nlen, lenI, decide_eq_true_eq]; omega, eg, e3, d1, d2, d3, hne]
    simp only [cond_true, cond_false]
    cases hq : ile kk (i : Int) with
    | false => rw [hq] at ih; exact ih
    | true =>
      rw [hq] at ih
      simp only [Bool.true_and] at ih
      unfold evB at ih
      cases hb : ieq (irem y[i] 2) 0 with
      | false => rw [hb] at ih; exact ih
      | true => rw [hb] at ih; exact ih
theorem ld (m y : List Int) (hy : y.length ≤ 60) : ∀ (j i : Nat), i + j = y.length → LdL m (j + 1) (nlen (lenI y)) y y (i : Int) = some 1
  | 0, i, h => by
    rw [LdLK]; unfold LdB
    rw [show ilt (i : Int) (nlen (lenI y)) = false from by simp only [ilt_d, nlen, lenI, decide_eq_false_iff_not]; omega]; rfl
  | j + 1, i, h => by
    have hlt : i < y.length := by omega
    have e3 : iadd .i64 (i : Int) 1 = ((i + 1 : Nat) : Int) := by unfold iadd; rw [w_i64_in (by omega)]; omega
    have hne : ine (getI y (idxN 0 (i : Int))) (getI y (idxN 0 (i : Int))) = false := by rw [ine_d]; simp
    have d1 := decide_eq_true (show inB (i : Int) (lenI y) from ⟨by omega, by unfold lenI; omega⟩)
    have d2 := decide_eq_true (show ltN (idxN 0 (i : Int)) (lenI y) from by unfold ltN idxN lenI; omega)
    rw [LdLK]; unfold LdB
    rw [show ilt (i : Int) (nlen (lenI y)) = true from by simp only [ilt_d, nlen, lenI, decide_eq_true_eq]; omega, e3, d1, d2, hne]
    exact ld m y hy j (i + 1) (by omega)
theorem law_keeps (m : List Int) (q c : Int) (hc : 0 ≤ c ∧ c ≤ 255) : ACalls Try.prog 5 [AV.sw 0 1, AV.v (.int .i64 q), AV.v (.int .u8 c)] [AObj.ints 0 false .i64 m] (AV.v (Value.bool true)) [] [] := by
  obtain ⟨y, hy⟩ : ∃ y, y = subI m 0 (subN (imin (nlen (lenI m)) 60) 0) := ⟨_, rfl⟩
  have hyl : y.length ≤ 60 := by rw [hy]; unfold subI subN imin nlen lenI; rw [List.length_take]; omega
  obtain ⟨N, hN⟩ : ∃ N : Int, N = y.length := ⟨_, rfl⟩
  have hk0 : imax 0 (imin (nlen (lenI y)) 65536) = N := by unfold imax imin nlen lenI; omega
  have ok0 : okR [] 0 0 N = true := okR_iff.2 ⟨by omega, by omega, by simp, by simp; omega, by omega, .inr ⟨rfl, rfl⟩⟩
  obtain ⟨a1, l1, qa, oa⟩ := la m y q c N hc c.toNat 0 0 [] (by omega) ok0
  obtain ⟨a2, n2, l2, qb, ob, ib⟩ := lb m y q N hN hyl y.length 0 a1 0 l1 (by omega) oa (by simp [itR])
  have en2 : n2 = N := by rw [nN ob, ib, hN]
  subst en2
  obtain ⟨kk, hkk⟩ : ∃ kk, kk = imin (imax q 0) (nlen (lenI y)) := ⟨_, rfl⟩
  have ekk : dk q n2 = kk := by rw [hkk]; unfold dk imax imin nlen lenI; omega
  have kin : 0 ≤ kk ∧ kk ≤ n2 := by rw [hkk]; unfold imin imax nlen lenI; omega
  have od := dp_ok q ob
  have id_ := dp_it q ob
  rw [ib, ekk] at id_
  have nd := nN od
  rw [id_, List.length_drop] at nd
  have ok := kp_ok od
  have ik := kp_it od
  rw [id_] at ik
  have hw : wt y kk y.length = (y.drop kk.toNat).filter evB := by unfold wt; rw [List.take_length]
  have nk := nN ok
  rw [ik, ← hw] at nk
  have hwl : (wt y kk y.length).length ≤ 60 := by
    rw [hw]
    have := List.length_filter_le evB (y.drop kk.toNat)
    rw [List.length_drop] at this; omega
  have qc := lc m y kk (dpA l2 a2 n2 q) (dpN l2 a2 n2 q) n2 (dpL l2 a2 n2 q) hyl y.length 0 (by omega)
  rw [show wt y kk 0 = [] by unfold wt; simp] at qc
  have qd := ld m (wt y kk y.length) hwl (wt y kk y.length).length 0 (by omega)
  have e1 : ine (dk q n2) (imin (imax q 0) (nlen (lenI y))) = false := by rw [ekk, ← hkk, ine_d]; simp
  have e2 : ine (nlen (lenI (itR l2 a2 n2))) (nlen (lenI y)) = false := by rw [ib, ine_d]; simp
  have e4 : ine (kpN (dpL l2 a2 n2 q) (dpA l2 a2 n2 q) (dpN l2 a2 n2 q) n2) (nlen (lenI (wt y kk y.length))) = false := by rw [nk, ine_d]; unfold nlen lenI; simp
  have e3 : ine (isub .i64 (dpN l2 a2 n2 q) (kpN (dpL l2 a2 n2 q) (dpA l2 a2 n2 q) (dpN l2 a2 n2 q) n2)) (isub .i64 (isub .i64 (nlen (lenI y)) kk) (nlen (lenI (wt y kk y.length)))) = false := by
    have : nlen (lenI y) = n2 := hN.symm
    rw [nk, nd, this, ine_d]
    unfold isub nlen lenI
    rw [w_i64_in (x := n2 - kk) (by omega)]
    have : ((y.length - kk.toNat : Nat) : Int) = n2 - kk := by omega
    rw [this]; simp
  have key := f5 m q c (c.toNat + 1) y a1 0 n2 l1 (y.length + 1) y a2 n2 n2 l2 1 0 0 [] 0 0 0 [] [] (y.length + 1) kk y (dpA l2 a2 n2 q) (dpN l2 a2 n2 q) n2 (wt y kk y.length) (dpL l2 a2 n2 q) 1 0 ((wt y kk y.length).length + 1)
    (by rw [← hy, hk0]; exact qa) qb (fun _ _ h => by simp at h) (fun _ _ _ => by rw [ib, ← hkk]; exact qc) (fun _ _ _ _ _ h => by simp at h) (fun _ _ _ _ _ _ => by rw [ik, ← hw]; exact qd)
    (by unfold inC imin nlen lenI; omega) (by unfold leN subN imin nlen lenI; omega) ob (fun _ _ _ => od) (fun _ _ _ _ _ => ok)
  have er : f5r0 m q c (c.toNat + 1) y a1 0 n2 l1 (y.length + 1) y a2 n2 n2 l2 1 0 0 [] 0 0 0 [] [] (y.length + 1) kk y (dpA l2 a2 n2 q) (dpN l2 a2 n2 q) n2 (wt y kk y.length) (dpL l2 a2 n2 q) 1 0 ((wt y kk y.length).length + 1) = true := by
    unfold f5r0
    rw [e1, e2, e3, e4]; rfl
  rw [er] at key; exact key
theorem law_ringKeeps (m : List (El (PS.int .i64).ck)) (q c : Int) (w0 : ∀ y ∈ m, El.ok (PS.int .i64).ck y) (w1 : (Lit.int .i64 q).wf = true) (w2 : (Lit.int .u8 c).wf = true) : ACalls Try.prog 5 [AV.sw 0 1, AV.v (.int .i64 q), AV.v (.int .u8 c)] [AObj.ints 0 false .i64 m] (AV.v (Value.bool true)) [] [] :=
  law_keeps m q c (wf_u8' w2)
end Go.Proofs.Ytiblodkkjibcoaa.Ring
