import Derived.Test.YtfijbmnkbfljfaaLaw
import Derived.Test.YtfijbmnkbfljfaaAbsWs
set_option linter.unusedVariables false
set_option linter.unusedSimpArgs false
set_option maxRecDepth 100000
namespace Go.Proofs.Ytfijbmnkbfljfaa.Least
open Go.Abs
def Srt (l : List (Int × Int)) : Prop := l.Pairwise fun c d => c.1 ≤ d.1 ∧ c.2 < d.2
theorem srt_le {l : List (Int × Int)} (h : Srt l) {i j : Nat} (hij : i ≤ j) (hj : j < l.length) : (l[i]'(by omega)).1 ≤ l[j].1 ∧ (l[i]'(by omega)).2 ≤ l[j].2 := by
  rcases Nat.lt_or_ge i j with h1 | h1
  · have := List.pairwise_iff_getElem.1 h i j (by omega) hj h1
    exact ⟨this.1, by omega⟩
  · obtain rfl : i = j := by omega
    exact ⟨Int.le_refl _, Int.le_refl _⟩
theorem lastP_eq {l : List (Int × Int)} (h : 0 < l.length) : lastP l = l[l.length - 1] := by
  unfold lastP; rw [List.getD_eq_getElem?_getD, List.getElem?_eq_getElem (by omega), Option.getD_some]
theorem step_len (l : List (Int × Int)) (a x : Int) : (stepF l a x).length = l.findIdx (fun c => ile x c.2) + 1 ∧ l.findIdx (fun c => ile x c.2) ≤ l.length := by
  have := List.findIdx_le_length (p := fun c : Int × Int => ile x c.2) (xs := l)
  unfold stepF; rw [List.length_append, List.length_take, List.length_singleton]; omega
theorem step_last (l : List (Int × Int)) (a x : Int) : lastP (stepF l a x) = (atF l a, x) := by
  have h := step_len l a x
  rw [lastP_eq (by omega)]
  unfold stepF
  rw [List.getElem_append_right (by rw [List.length_append, List.length_take, List.length_singleton]; omega)]
  simp
theorem step_srt {l : List (Int × Int)} (h : Srt l) (a x : Int) : Srt (stepF l a x) := by
  unfold stepF Srt
  rw [List.pairwise_append]
  refine ⟨List.Pairwise.sublist (List.take_sublist _ _) h, by simp, fun c hc d hd => ?_⟩
  simp only [List.mem_singleton] at hd; subst hd
  obtain ⟨i, hi, rfl⟩ := List.getElem_of_mem hc
  rw [List.length_take] at hi
  rw [List.getElem_take]
  have hlt : i < l.findIdx (fun c => ile x c.2) := by omega
  have := List.not_of_lt_findIdx hlt
  simp only [ile_d, decide_eq_false_iff_not] at this
  have hp : 0 < l.length := by omega
  have hne : l ≠ [] := List.length_pos_iff.1 hp
  refine ⟨?_, by simpa using this⟩
  show _ ≤ atF l a
  unfold atF; rw [if_neg hne, lastP_eq hp]
  have := (srt_le h (i := i) (j := l.length - 1) (by omega) (by omega)).1
  unfold imax; omega
theorem tell_le {l : List (Int × Int)} (h : Srt l) (hp : 0 < l.length) (w now : Int) : tellF w l now ≤ (lastP l).2 := by
  have hne : l ≠ [] := List.length_pos_iff.1 hp
  unfold tellF; rw [if_neg hne]
  split
  · rename_i hi
    rw [lastP_eq hp, List.getD_eq_getElem?_getD, List.getElem?_eq_getElem hi, Option.getD_some]
    exact (srt_le h (by omega) (by omega)).2
  · exact Int.le_refl _
theorem tell_mono {l : List (Int × Int)} (h : Srt l) (w : Int) {m n : Int} (hmn : m ≤ n) : tellF w l m ≤ tellF w l n := by
  by_cases hne : l = []
  · subst hne; simp [tellF]
  have hp := List.length_pos_iff.2 hne
  have hnear : near m ≤ near n := by unfold near imax imin; omega
  have hf : l.findIdx (fun c => ilt (near m - w) c.1) ≤ l.findIdx (fun c => ilt (near n - w) c.1) := by
    refine List.findIdx_le_findIdx fun c hc h1 => ?_
    simp only [ilt_d, decide_eq_true_eq] at h1 ⊢; omega
  have hl := tell_le h hp w m
  unfold tellF at hl ⊢
  rw [if_neg hne] at hl ⊢; rw [if_neg hne]
  by_cases h2 : l.findIdx (fun c => ilt (near n - w) c.1) < l.length
  · rw [if_pos h2, if_pos (by omega)]
    rw [List.getD_eq_getElem?_getD, List.getElem?_eq_getElem (by omega), Option.getD_some, List.getD_eq_getElem?_getD, List.getElem?_eq_getElem h2, Option.getD_some]
    exact (srt_le h hf h2).2
  · rw [if_neg h2]; exact hl
theorem l4 (l : List (Int × Int)) (ta tb w : Int) (hw : 0 ≤ w ∧ w ≤ 1125899906842624) : ∀ (k i : Nat) (fl : List (Int × Int)), Srt fl → fl.length ≤ i → i + k = min 50 l.length →
    ∃ fl' : List (Int × Int), L4L l ta tb (k + 1) w (i : Int) fl = some (1, 0, [], w, fl') ∧ Srt fl' ∧ fl'.length ≤ 50
  | 0, i, fl, hs, hl, h => by
    refine ⟨fl, ?_, hs, by omega⟩
    rw [L4L]
    by_cases h1 : (i : Int) < l.length
    · rw [show ilt (i : Int) (nlen (lenR [CK.int .i64, CK.int .i64] l)) = true from by simp only [ilt_d, nlen, eL, decide_eq_true_eq]; omega, show ilt (i : Int) 50 = false from by simp only [ilt_d, decide_eq_false_iff_not]; omega]; rfl
    · rw [show ilt (i : Int) (nlen (lenR [CK.int .i64, CK.int .i64] l)) = false from by simp only [ilt_d, nlen, eL, decide_eq_false_iff_not]; omega]; rfl
  | k + 1, i, fl, hs, hl, h => by
    have hi : i < l.length := by omega
    have hg := getQ hi
    have sl := step_len fl l[i].1 l[i].2
    have ss := step_srt hs l[i].1 l[i].2
    obtain ⟨fl', h1, h2, h3⟩ := l4 l ta tb w hw k (i + 1) (stepF fl l[i].1 l[i].2) ss (by omega) (by omega)
    refine ⟨fl', ?_, h2, h3⟩
    have e1 : inB (i : Int) (lenR [CK.int .i64, CK.int .i64] l) := ⟨by omega, by rw [eL]; omega⟩
    have e2 : ltN (idxN 0 (i : Int)) (lenR [CK.int .i64, CK.int .i64] l) := by unfold ltN idxN; rw [eL]; omega
    have e3 : iadd .i64 (i : Int) 1 = ((i + 1 : Nat) : Int) := by unfold iadd; rw [w_i64_in (by omega)]; omega
    have e4 : notB (isF (stepF fl l[i].1 l[i].2)) = false := by
      have : stepF fl l[i].1 l[i].2 ≠ [] := List.length_pos_iff.1 (by omega)
      unfold isF; rw [notB_d]; simp [this]
    have e5 : ilt l[i].2 (tellF w (stepF fl l[i].1 l[i].2) ta) = false := by
      have := tell_le ss (by omega) w ta
      rw [step_last] at this
      simp only [ilt_d, decide_eq_false_iff_not]; simp only at this; omega
    rw [L4L, show ilt (i : Int) (nlen (lenR [CK.int .i64, CK.int .i64] l)) = true from by simp only [ilt_d, nlen, eL, decide_eq_true_eq]; omega, show ilt (i : Int) 50 = true from by simp only [ilt_d, decide_eq_true_eq]; omega,
      hg, e4, e5, decide_eq_true e1, decide_eq_true e2, decide_eq_true (show fl.length ≤ 1000000 by omega), decide_eq_true (show (stepF fl l[i].1 l[i].2).length ≤ 1000000 by omega), decide_eq_true hw, e3]
    exact h1
theorem least_below (win : Int) (l : List (Int × Int)) (ta tb : Int) :
    ACalls Try.prog 4 [AV.v (.int .i64 win), AV.sw 0 2, AV.agg [AV.v (.int .i64 ta), AV.v (.int .i64 tb)]] [AObj.rows false [CK.int .i64, CK.int .i64] l] (AV.v (Value.bool true)) [] [] := by
  have hw : 0 ≤ imax 0 (imin win 1125899906842624) ∧ imax 0 (imin win 1125899906842624) ≤ 1125899906842624 := by unfold imax imin; omega
  obtain ⟨fl, h1, h2, h3⟩ := l4 l ta tb _ hw (min 50 l.length) 0 [] List.Pairwise.nil (by simp) (by omega)
  have h := f4 win l ta tb 1 0 0 [] (min 50 l.length + 1) (imax 0 (imin win 1125899906842624)) fl (fun h => by simp at h) (fun _ => h1) (fun _ => by omega) (fun _ => hw)
  have e : f4r0 win l ta tb 1 0 0 [] (min 50 l.length + 1) (imax 0 (imin win 1125899906842624)) fl = true := by
    unfold f4r0
    have := tell_mono h2 (imax 0 (imin win 1125899906842624)) (m := imin ta tb) (n := imax ta tb) (by unfold imin imax; omega)
    rw [show ile (tellF (imax 0 (imin win 1125899906842624)) fl (imin ta tb)) (tellF (imax 0 (imin win 1125899906842624)) fl (imax ta tb)) = true from by simp only [ile_d, decide_eq_true_eq]; exact this]
    rfl
  rw [e] at h; exact h
theorem law_below (win : Int) (l : List (El (Go.Abs.PS.agg [.int .i64, .int .i64]).ck)) (ta tb : Int) (w0 : (Lit.int .i64 win).wf = true) (w3 : ∀ y ∈ l, El.ok (Go.Abs.PS.agg [.int .i64, .int .i64]).ck y) (w1 : (Lit.int .i64 ta).wf = true) (w2 : (Lit.int .i64 tb).wf = true) :
    ACalls Try.prog 4 [AV.v (.int .i64 win), AV.sw 0 2, AV.agg [AV.v (.int .i64 ta), AV.v (.int .i64 tb)]] [rowO (Go.Abs.PS.agg [.int .i64, .int .i64]).ck l] (AV.v (Value.bool true)) [] [] :=
  least_below win l ta tb
end Go.Proofs.Ytfijbmnkbfljfaa.Least
