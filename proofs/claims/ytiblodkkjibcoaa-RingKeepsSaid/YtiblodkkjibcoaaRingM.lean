import Derived.Test.YtiblodkkjibcoaaAbsO
/- A row that goes round: what its steps come to, in plain lists. -/
set_option linter.unusedVariables false
set_option linter.unusedSimpArgs false
namespace Go.Proofs.Ytiblodkkjibcoaa.Ring
open Go.Abs
/-- a row's places -/
def okR (l : List Int) (a n k : Int) : Bool := decide (0 ≤ a) && decide (0 ≤ n) && decide (n ≤ l.length) && decide (l.length ≤ k) && decide (k ≤ 65536) && (decide (a < l.length) || decide (a = 0 ∧ n = 0))
theorem okR_iff {l : List Int} {a n k : Int} : okR l a n k = true ↔ 0 ≤ a ∧ 0 ≤ n ∧ n ≤ l.length ∧ l.length ≤ k ∧ k ≤ 65536 ∧ (a < l.length ∨ (a = 0 ∧ n = 0)) := by
  simp only [okR, Bool.and_eq_true, Bool.or_eq_true, decide_eq_true_eq, and_assoc]
/-- its items -/
def itR (l : List Int) (a n : Int) : List Int := (List.range n.toNat).map fun i => l.getD ((a.toNat + i) % l.length) 0
theorem itR_len (l : List Int) (a n : Int) : (itR l a n).length = n.toNat := by simp [itR]
def aV (l : List Int) (a n i : Int) : Int := if 0 ≤ i ∧ i < n then l.getD ((a.toNat + i.toNat) % l.length) 0 else 0
def aB (n i : Int) : Bool := decide (0 ≤ i ∧ i < n)
def popA (l : List Int) (a n : Int) : Int := if 0 < n then (a + 1) % l.length else a
def popN (n : Int) : Int := if 0 < n then n - 1 else n
def popL (l : List Int) (a n : Int) : List Int := if 0 < n then l.set a.toNat 0 else l
def groM (l : List Int) (k : Int) : Nat := (min (max 4 (2 * (l.length : Int))) k).toNat
def groL (l : List Int) (a n k : Int) : List Int := itR l a n ++ List.replicate (groM l k - n.toNat) 0
def gL (l : List Int) (a n k : Int) : List Int := if n = l.length then groL l a n k else l
def gA (l : List Int) (a n : Int) : Int := if n = l.length then 0 else a
def psE (n k : Int) : Int := if n = k then 9 else 0
def psL (l : List Int) (a n k x : Int) : List Int := if n = k then l else (gL l a n k).set (((gA l a n).toNat + n.toNat) % (gL l a n k).length) x
def psA (l : List Int) (a n k : Int) : Int := if n = k then a else gA l a n
def psN (n k : Int) : Int := if n = k then n else n + 1
theorem aV_it {l : List Int} {a n i : Int} (h : 0 ≤ i ∧ i < n) : aV l a n i = (itR l a n).getD i.toNat 0 := by
  unfold aV itR
  rw [if_pos h]
  have : ∀ (f : Nat → Int), ((List.range n.toNat).map f).getD i.toNat 0 = f i.toNat := fun f => by
    rw [List.getD_eq_getElem?_getD, List.getElem?_map, List.getElem?_range (by omega)]; rfl
  rw [this]
theorem aV_eq (l : List Int) (a n i : Int) : aV l a n i = if 0 ≤ i ∧ i < n then (itR l a n).getD i.toNat 0 else 0 := by
  by_cases h : 0 ≤ i ∧ i < n
  · rw [if_pos h, aV_it h]
  · rw [if_neg h]; unfold aV; rw [if_neg h]
theorem groL_len {l : List Int} {a n k : Int} (h : okR l a n k = true) (hn : n = l.length) (hk : n ≠ k) : (groL l a n k).length = groM l k ∧ n.toNat < groM l k ∧ (groM l k : Int) ≤ k := by
  rw [okR_iff] at h
  unfold groL; rw [List.length_append, itR_len, List.length_replicate]
  unfold groM
  omega
theorem gro_ok {l : List Int} {a n k : Int} (h : okR l a n k = true) (hn : n = l.length) (hk : n ≠ k) : okR (groL l a n k) 0 n k = true := by
  have := groL_len h hn hk
  rw [okR_iff] at h ⊢
  omega
theorem gro_it {l : List Int} {a n k : Int} (h : okR l a n k = true) (hn : n = l.length) (hk : n ≠ k) : itR (groL l a n k) 0 n = itR l a n := by
  have hl := groL_len h hn hk
  apply List.ext_getElem
  · simp [itR_len]
  intro i h1 h2
  rw [itR_len] at h1
  simp only [itR, List.getElem_map, List.getElem_range]
  rw [show ((0 : Int).toNat + i) % (groL l a n k).length = i from by rw [Nat.mod_eq_of_lt (by simp; omega)]; simp]
  unfold groL
  rw [List.getD_eq_getElem?_getD, List.getElem?_append_left (by rw [itR_len]; omega)]
  unfold itR
  rw [List.getElem?_map, List.getElem?_range (by omega)]; rfl
theorem g_ok {l : List Int} {a n k : Int} (h : okR l a n k = true) (hk : n ≠ k) : okR (gL l a n k) (gA l a n) n k = true ∧ n < (gL l a n k).length := by
  unfold gL gA
  by_cases hn : n = l.length
  · rw [if_pos hn, if_pos hn]
    have := groL_len h hn hk
    exact ⟨gro_ok h hn hk, by rw [okR_iff] at h; omega⟩
  · rw [if_neg hn, if_neg hn]
    exact ⟨h, by rw [okR_iff] at h; omega⟩
theorem g_it {l : List Int} {a n k : Int} (h : okR l a n k = true) (hk : n ≠ k) : itR (gL l a n k) (gA l a n) n = itR l a n := by
  unfold gL gA
  by_cases hn : n = l.length
  · rw [if_pos hn, if_pos hn]; exact gro_it h hn hk
  · rw [if_neg hn, if_neg hn]
/-- two places of a row are two, if they are fewer than its length apart -/
theorem mod_ne {a i j m : Nat} (hm : i < m) (hj : j < m) (h : i ≠ j) : (a + i) % m ≠ (a + j) % m := by
  intro e
  have := Nat.mod_lt a (show 0 < m by omega)
  rw [Nat.add_mod, Nat.add_mod a j, Nat.mod_eq_of_lt hm, Nat.mod_eq_of_lt hj] at e
  generalize a % m = r at *
  rcases Nat.lt_or_ge (r + i) m with h1 | h1 <;> rcases Nat.lt_or_ge (r + j) m with h2 | h2
  · rw [Nat.mod_eq_of_lt h1, Nat.mod_eq_of_lt h2] at e; omega
  · rw [Nat.mod_eq_of_lt h1, Nat.mod_eq_sub_mod h2, Nat.mod_eq_of_lt (by omega)] at e; omega
  · rw [Nat.mod_eq_of_lt h2, Nat.mod_eq_sub_mod h1, Nat.mod_eq_of_lt (by omega)] at e; omega
  · rw [Nat.mod_eq_sub_mod h1, Nat.mod_eq_of_lt (by omega), Nat.mod_eq_sub_mod h2, Nat.mod_eq_of_lt (by omega)] at e; omega
theorem put_it {l : List Int} {a n k x : Int} (h : okR l a n k = true) (hn : n < l.length) : itR (l.set ((a.toNat + n.toNat) % l.length) x) a (n + 1) = itR l a n ++ [x] := by
  rw [okR_iff] at h
  unfold itR
  rw [show (n + 1).toNat = n.toNat + 1 by omega, List.range_succ, List.map_append, List.length_set]
  congr 1
  · apply List.map_congr_left
    intro i hi
    rw [List.mem_range] at hi
    rw [List.getD_eq_getElem?_getD, List.getElem?_set_ne (mod_ne (by omega) (by omega) (by omega)), ← List.getD_eq_getElem?_getD]
  · simp only [List.map_cons, List.map_nil]
    rw [List.getD_eq_getElem?_getD, List.getElem?_set_self (Nat.mod_lt _ (by omega))]; rfl
theorem put_ok {l : List Int} {a n k x : Int} (p : Nat) (h : okR l a n k = true) (hn : n < l.length) : okR (l.set p x) a (n + 1) k = true := by
  rw [okR_iff] at h ⊢
  rw [List.length_set]; omega
theorem ps_ok {l : List Int} {a n k : Int} (x : Int) (h : okR l a n k = true) : okR (psL l a n k x) (psA l a n k) (psN n k) k = true := by
  unfold psL psA psN
  by_cases hk : n = k
  · rw [if_pos hk, if_pos hk, if_pos hk]; exact h
  · rw [if_neg hk, if_neg hk, if_neg hk]
    exact put_ok _ (g_ok h hk).1 (g_ok h hk).2
theorem ps_it {l : List Int} {a n k : Int} (x : Int) (h : okR l a n k = true) : itR (psL l a n k x) (psA l a n k) (psN n k) = if n = k then itR l a n else itR l a n ++ [x] := by
  unfold psL psA psN
  by_cases hk : n = k
  · rw [if_pos hk, if_pos hk, if_pos hk, if_pos hk]
  · rw [if_neg hk, if_neg hk, if_neg hk, if_neg hk, put_it (g_ok h hk).1 (g_ok h hk).2, g_it h hk]
theorem pop_ok {l : List Int} {a n k : Int} (h : okR l a n k = true) : okR (popL l a n) (popA l a n) (popN n) k = true := by
  unfold popL popA popN
  by_cases hn : 0 < n
  · rw [if_pos hn, if_pos hn, if_pos hn]
    rw [okR_iff] at h ⊢
    rw [List.length_set]
    have h1 := Int.emod_nonneg (a + 1) (b := (l.length : Int)) (by omega)
    have h2 := Int.emod_lt_of_pos (a + 1) (b := (l.length : Int)) (by omega)
    omega
  · rw [if_neg hn, if_neg hn, if_neg hn]; exact h
theorem pop_it {l : List Int} {a n k : Int} (h : okR l a n k = true) : itR (popL l a n) (popA l a n) (popN n) = (itR l a n).tail := by
  rw [okR_iff] at h
  unfold popL popA popN
  by_cases hn : 0 < n
  · rw [if_pos hn, if_pos hn, if_pos hn]
    apply List.ext_getElem
    · rw [itR_len, List.length_tail, itR_len]; omega
    intro i h1 h2
    rw [itR_len] at h1
    rw [List.getElem_tail]
    simp only [itR, List.getElem_map, List.getElem_range, List.length_set]
    have e : ((a + 1) % (l.length : Int)).toNat = (a.toNat + 1) % l.length := by
      obtain ⟨b, rfl⟩ := Int.eq_ofNat_of_zero_le h.1
      exact_mod_cast rfl
    rw [e, show ((a.toNat + 1) % l.length + i) % l.length = (a.toNat + (i + 1)) % l.length from by rw [Nat.mod_add_mod]; congr 1; omega]
    have ha : a.toNat = (a.toNat + 0) % l.length := by rw [Nat.add_zero, Nat.mod_eq_of_lt (by omega)]
    rw [List.getD_eq_getElem?_getD, List.getElem?_set_ne (by conv => lhs; rw [ha]
                                                             exact mod_ne (by omega) (by omega) (by omega)), ← List.getD_eq_getElem?_getD]
  · rw [if_neg hn, if_neg hn, if_neg hn]
    have : n = 0 := by omega
    subst this; simp [itR]
/-- the place of an item -/
theorem ix {l : List Int} {a n k i : Int} (h : okR l a n k = true) (hi : 0 ≤ i ∧ i ≤ n) (hl : 0 < l.length) : irem (iadd .i64 a i) (nlen (lenI l)) = (((a.toNat + i.toNat) % l.length : Nat) : Int) := by
  rw [okR_iff] at h
  unfold irem iadd nlen lenI
  rw [w_i64_in (by omega), Int.tmod_eq_emod_of_nonneg (by omega)]
  obtain ⟨b, rfl⟩ := Int.eq_ofNat_of_zero_le h.1
  obtain ⟨j, rfl⟩ := Int.eq_ofNat_of_zero_le hi.1
  exact_mod_cast rfl
theorem inN {m p : Nat} (h : 0 < m) : inB ((p % m : Nat) : Int) m ∧ ltN (idxN 0 ((p % m : Nat) : Int)) m := by
  have := Nat.mod_lt p h
  refine ⟨⟨by omega, by omega⟩, ?_⟩
  unfold ltN idxN; rw [Int.toNat_natCast]; omega
end Go.Proofs.Ytiblodkkjibcoaa.Ring
