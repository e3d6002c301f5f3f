import Derived.Test.YteaeolklkioceaaEpA
set_option linter.unusedVariables false
set_option linter.unusedSimpArgs false
set_option maxRecDepth 100000
namespace Go.Proofs.Yteaeolklkioceaa.Ec
open Go.Abs
/-- a way's codes, place by place -/
def pth : Int → List Bool → List Int
  | _, [] => []
  | c, b :: l => (bif b then f31r0 c else c) :: pth (bif b then f31r0 c else c) l
def okB (l : List Bool) : Bool := decide (l.length ≤ 1000)
def okI (l : List Int) : Bool := decide (l.length ≤ 1000)
theorem l40 (l : List Bool) (hl : l.length ≤ 1000) : ∀ (j i : Nat) (x : Int) (y : List Int), i + j = l.length → y.length = i → L40L l (j + 1) (nlen (lenB l)) x (i : Int) y = some (y ++ pth x (l.drop i))
  | 0, i, x, y, h, hy => by
    have e : l.drop i = [] := by rw [List.drop_eq_nil_iff]; omega
    rw [L40L, e, show ilt (i : Int) (nlen (lenB l)) = false from by simp only [ilt_d, nlen, lenB, decide_eq_false_iff_not]; omega]
    simp [pth]
  | j + 1, i, x, y, h, hy => by
    have hi : i < l.length := by omega
    have e3 : iadd .i64 (i : Int) 1 = ((i + 1 : Nat) : Int) := by unfold iadd; rw [w_i64_in (by omega)]; omega
    have eg : getB l (idxN 0 (i : Int)) = l[i] := by
      unfold getB idxN; rw [Int.toNat_natCast, Nat.zero_add, List.getD_eq_getElem?_getD, List.getElem?_eq_getElem hi, Option.getD_some]
    have i1 := decide_eq_true (show inB (i : Int) (lenB l) from ⟨by omega, by unfold lenB; omega⟩)
    have i2 := decide_eq_true (show ltN (idxN 0 (i : Int)) (lenB l) from by unfold ltN idxN lenB; omega)
    have i3 : ∀ v : Int, decide (fitN (addN (lenI y) (lenI [v])) 8) = true := fun v => decide_eq_true (by unfold fitN addN lenI; simp; omega)
    have ed : l.drop i = l[i] :: l.drop (i + 1) := List.drop_eq_getElem_cons hi
    rw [L40L, eg, ed, i1, i2, show ilt (i : Int) (nlen (lenB l)) = true from by simp only [ilt_d, nlen, lenB, decide_eq_true_eq]; omega, e3]
    cases hb : l[i] with
    | true =>
      have ih := l40 l hl j (i + 1) (f31r0 x) (y ++ [f31r0 x]) (by omega) (by simp [hy])
      simp only [cond_true]
      rw [i3]
      refine Eq.trans ?_ (ih.trans ?_)
      · rfl
      · simp [pth]
    | false =>
      have ih := l40 l hl j (i + 1) x (y ++ [x]) (by omega) (by simp [hy])
      simp only [cond_true, cond_false]
      rw [i3]
      refine Eq.trans ?_ (ih.trans ?_)
      · rfl
      · simp [pth]
theorem g40 (c : Int) (l : List Bool) (h : okB l = true) : ACalls Try.prog 40 [AV.v (.int .i64 c), AV.sw 0 1] [AObj.bools 0 false l] (AV.sw 1 1) [] [AObj.ints 0 true .i64 (pth c l)] :=
  f40 c l (l.length + 1) (pth c l) (l40 l (of_decide_eq_true h) l.length 0 c [] (by omega) rfl)
/-- a code's name, or what stands for it -/
def nmQ (c : Int) : ByteArray := bif f44r0 c then f38r0 c else bs [63]
def nmsF (l : List Int) : ByteArray := joinS (l.map nmQ) (bs [45])
theorem e39 (c : Int) : f39r0 c = f38r0 c := by
  have := names_eq c; rw [seqS_d, decide_eq_true_eq] at this; exact this
theorem no39 (c : Int) : seqS (f39r0 c) (bs []) = !f44r0 c := by
  rw [e39, seqS_d]
  unfold f38r0 f44r0
  simp only [ieq_d, cond_if]
  by_cases h0 : c = 0
  · subst h0; decide
  by_cases h1 : c = 1
  · subst h1; decide
  by_cases h2 : c = 2
  · subst h2; decide
  by_cases h3 : c = 3
  · subst h3; decide
  simp [h0, h1, h2, h3]
theorem sz38 (c : Int) : (f38r0 c).size ≤ 4 ∧ (nmQ c).size ≤ 4 := by
  unfold nmQ f38r0
  simp only [ieq_d, cond_if]
  have q : (bs [63]).size ≤ 4 := by decide
  have z : (bs []).size ≤ 4 := by decide
  by_cases h0 : c = 0
  · subst h0; exact ⟨by decide, by decide⟩
  by_cases h1 : c = 1
  · subst h1; exact ⟨by decide, by decide⟩
  by_cases h2 : c = 2
  · subst h2; exact ⟨by decide, by decide⟩
  by_cases h3 : c = 3
  · subst h3; exact ⟨by decide, by decide⟩
  simp only [h0, h1, h2, h3, decide_false, Bool.false_eq_true, if_false]
  refine ⟨z, ?_⟩
  split
  · exact z
  · exact q
theorem l42 (l : List Int) (hl : l.length ≤ 1000) : ∀ (j i : Nat) (y : List ByteArray), i + j = l.length → y.length = i → L42L l (j + 1) (nlen (lenI l)) (i : Int) y = some (y ++ (l.drop i).map nmQ)
  | 0, i, y, h, hy => by
    have e : l.drop i = [] := by rw [List.drop_eq_nil_iff]; omega
    rw [L42L, e, show ilt (i : Int) (nlen (lenI l)) = false from by simp only [ilt_d, nlen, lenI, decide_eq_false_iff_not]; omega]
    simp
  | j + 1, i, y, h, hy => by
    have hi : i < l.length := by omega
    have e3 : iadd .i64 (i : Int) 1 = ((i + 1 : Nat) : Int) := by unfold iadd; rw [w_i64_in (by omega)]; omega
    have eg : getI l (idxN 0 (i : Int)) = l[i] := by
      unfold getI idxN; rw [Int.toNat_natCast, Nat.zero_add, List.getD_eq_getElem?_getD, List.getElem?_eq_getElem hi, Option.getD_some]
    have i1 := decide_eq_true (show inB (i : Int) (lenI l) from ⟨by omega, by unfold lenI; omega⟩)
    have i2 := decide_eq_true (show ltN (idxN 0 (i : Int)) (lenI l) from by unfold ltN idxN lenI; omega)
    have i3 : ∀ v : ByteArray, decide (fitN (addN (lenS y) (lenS [v])) 16) = true := fun v => decide_eq_true (by unfold fitN addN lenS; simp; omega)
    have i4 : decide (fitN (addN (lenS y) 1) 16) = true := decide_eq_true (by unfold fitN addN lenS; omega)
    have ed : l.drop i = l[i] :: l.drop (i + 1) := List.drop_eq_getElem_cons hi
    have ih := l42 l hl j (i + 1) (y ++ [nmQ l[i]]) (by omega) (by simp [hy])
    rw [L42L, eg, ed, i1, i2, show ilt (i : Int) (nlen (lenI l)) = true from by simp only [ilt_d, nlen, lenI, decide_eq_true_eq]; omega, e3, no39, i3, i4, e39]
    refine Eq.trans ?_ (ih.trans ?_)
    · unfold nmQ; cases f44r0 l[i] <;> rfl
    · rw [List.map_cons, List.append_assoc]; rfl
theorem lens_small : ∀ l : List Int, Go.Lib.lens ((l.map nmQ).map (·.data.toList)) ≤ 4 * l.length
  | [] => by simp [Go.Lib.lens]
  | c :: l => by
    have := lens_small l
    have h := (sz38 c).2
    have e : (nmQ c).data.toList.length = (nmQ c).size := rfl
    simp only [Go.Lib.lens, List.map_cons, List.sum_cons, List.length_cons] at this ⊢
    omega
theorem join_small (l : List Int) (hl : l.length ≤ 1000) : jnOk (l.map nmQ) (bs [45]) = true := by
  unfold jnOk
  refine decide_eq_true ⟨by simp; omega, ?_⟩
  cases l with
  | nil => simp [Go.Lib.join_nil]
  | cons c r =>
    have h := lens_small (c :: r)
    have e : ((bs [45]).data.toList).length = 1 := rfl
    simp only [List.map_cons] at h ⊢
    rw [Go.Lib.join_length, e]
    simp only [List.length_map, List.length_cons] at h hl ⊢
    omega
theorem g42 (l : List Int) (h : okI l = true) : ACalls Try.prog 42 [AV.sw 0 1] [AObj.ints 0 true .i64 l] (AV.v (Value.string (nmsF l))) [] [] := by
  have hl : l.length ≤ 1000 := of_decide_eq_true h
  exact f42 l (l.length + 1) (l.map nmQ) (l42 l hl l.length 0 [] (by omega) rfl) (join_small l hl)
/-- the same, from the left -/
def nmsG : ByteArray → List Int → ByteArray
  | s, [] => s
  | s, c :: l => nmsG (sadd (sadd s (bs [45])) (nmQ c)) l
theorem ba_ext {a b : ByteArray} (h : a.data.toList = b.data.toList) : a = b := by
  obtain ⟨⟨x⟩⟩ := a; obtain ⟨⟨y⟩⟩ := b; simp at h; rw [h]
theorem sadd_l (a b : ByteArray) : (sadd a b).data.toList = a.data.toList ++ b.data.toList := by unfold sadd; simp
theorem nmsG_l : ∀ (l : List Int) (s : ByteArray), (nmsG s l).data.toList = s.data.toList ++ Go.Lib.joinTail [45] ((l.map nmQ).map (·.data.toList))
  | [], s => by simp [nmsG, Go.Lib.joinTail]
  | c :: l, s => by
    have e : (bs [45]).data.toList = [45] := rfl
    rw [nmsG, nmsG_l l, sadd_l, sadd_l, e]
    simp [Go.Lib.joinTail]
theorem nmsF_cons (c : Int) (l : List Int) : nmsF (c :: l) = nmsG (sadd (bs []) (nmQ c)) l := by
  refine ba_ext ?_
  have e : (bs [45]).data.toList = [45] := rfl
  have e0 : (bs []).data.toList = [] := rfl
  rw [nmsG_l, sadd_l, e0]
  unfold nmsF joinS
  rw [e, List.map_cons, List.map_cons, Go.Lib.join_cons]
  simp
theorem nmsF_nil : nmsF [] = bs [] := rfl
theorem sadd_sz (a b : ByteArray) : (sadd a b).size = a.size + b.size := by unfold sadd; simp
theorem l43 (l : List Int) (hl : l.length ≤ 1000) : ∀ (j i : Nat) (s : ByteArray), 0 < i → i + j = l.length → s.size ≤ 5 * i → L43L l (j + 1) s (i : Int) = some (nmsG s (l.drop i))
  | 0, i, s, h0, h, hs => by
    have e : l.drop i = [] := by rw [List.drop_eq_nil_iff]; omega
    rw [L43L, e, show ilt (i : Int) (nlen (lenI l)) = false from by simp only [ilt_d, nlen, lenI, decide_eq_false_iff_not]; omega]
    rfl
  | j + 1, i, s, h0, h, hs => by
    have hi : i < l.length := by omega
    have e3 : iadd .i64 (i : Int) 1 = ((i + 1 : Nat) : Int) := by unfold iadd; rw [w_i64_in (by omega)]; omega
    have eg : getI l (idxN 0 (i : Int)) = l[i] := by
      unfold getI idxN; rw [Int.toNat_natCast, Nat.zero_add, List.getD_eq_getElem?_getD, List.getElem?_eq_getElem hi, Option.getD_some]
    have i1 := decide_eq_true (show inB (i : Int) (lenI l) from ⟨by omega, by unfold lenI; omega⟩)
    have i2 := decide_eq_true (show ltN (idxN 0 (i : Int)) (lenI l) from by unfold ltN idxN lenI; omega)
    have d1 : (bs [45]).size = 1 := rfl
    have d2 : (bs [63]).size = 1 := rfl
    have sz := sz38 l[i]
    have i3 : decide (sfit s (bs [45])) = true := decide_eq_true (by unfold sfit; omega)
    have i4 : decide (sfit (sadd s (bs [45])) (f38r0 l[i])) = true := decide_eq_true (by unfold sfit; rw [sadd_sz]; omega)
    have i5 : decide (sfit (sadd s (bs [45])) (bs [63])) = true := decide_eq_true (by unfold sfit; rw [sadd_sz]; omega)
    have ed : l.drop i = l[i] :: l.drop (i + 1) := List.drop_eq_getElem_cons hi
    have ih := l43 l hl j (i + 1) (sadd (sadd s (bs [45])) (nmQ l[i])) (by omega) (by omega) (by rw [sadd_sz, sadd_sz]; omega)
    rw [L43L, eg, ed, i1, i2, show ilt (i : Int) (nlen (lenI l)) = true from by simp only [ilt_d, nlen, lenI, decide_eq_true_eq]; omega, show ilt 0 (i : Int) = true from by simp only [ilt_d, decide_eq_true_eq]; omega, e3, i3, i4, i5]
    refine Eq.trans ?_ (ih.trans ?_)
    · unfold nmQ; cases f44r0 l[i] <;> rfl
    · rfl
theorem l43_0 (l : List Int) (hl : l.length ≤ 1000) : L43L l (l.length + 1) (bs []) 0 = some (nmsF l) := by
  cases l with
  | nil => rfl
  | cons c r =>
    have sz := sz38 c
    have d0 : (bs []).size = 0 := rfl
    have d2 : (bs [63]).size = 1 := rfl
    have ih := l43 (c :: r) hl r.length 1 (sadd (bs []) (nmQ c)) (by omega) (by simp; omega) (by rw [sadd_sz]; omega)
    have eg : getI (c :: r) (idxN 0 0) = c := rfl
    have i1 := decide_eq_true (show inB 0 (lenI (c :: r)) from ⟨by omega, by unfold lenI; simp⟩)
    have i2 := decide_eq_true (show ltN (idxN 0 0) (lenI (c :: r)) from by unfold ltN idxN lenI; simp)
    have i4 : decide (sfit (bs []) (f38r0 c)) = true := decide_eq_true (by unfold sfit; omega)
    have i5 : decide (sfit (bs []) (bs [63])) = true := decide_eq_true (by unfold sfit; omega)
    rw [List.length_cons, L43L, eg, i1, i2, show ilt 0 (nlen (lenI (c :: r))) = true from by simp only [ilt_d, nlen, lenI, decide_eq_true_eq]; simp, show ilt 0 0 = false from rfl, show iadd .i64 0 1 = 1 from rfl, i4, i5, nmsF_cons]
    refine Eq.trans ?_ ih
    unfold nmQ; cases f44r0 c <;> rfl
theorem g43 (l : List Int) (h : okI l = true) : ACalls Try.prog 43 [AV.sw 0 1] [AObj.ints 0 true .i64 l] (AV.v (Value.string (nmsF l))) [] [] :=
  f43 l (l.length + 1) (nmsF l) (l43_0 l (of_decide_eq_true h))
end Go.Proofs.Yteaeolklkioceaa.Ec
