import Derived.Test.YtfijbmnkbfljfaaFind
import Derived.Test.YtfijbmnkbfljfaaLeastH
set_option linter.unusedVariables false
set_option linter.unusedSimpArgs false
set_option maxRecDepth 100000
namespace Go.Proofs.Ytfijbmnkbfljfaa.Least
open Go.Abs
/-- those that are less than all that came later -/
def smin : List (Int × Int) → List (Int × Int)
  | [] => []
  | c :: r => bif r.all (fun d => ilt c.2 d.2) then c :: smin r else smin r
theorem smin_snoc (c : Int × Int) : ∀ l : List (Int × Int), smin (l ++ [c]) = (smin l).filter (fun d => ilt d.2 c.2) ++ [c]
  | [] => rfl
  | a :: r => by
    rw [List.cons_append]
    simp only [smin, List.all_append, List.all_cons, List.all_nil, Bool.and_true]
    rw [smin_snoc c r]
    cases h1 : r.all (fun d => ilt a.2 d.2) <;> cases h2 : ilt a.2 c.2 <;> simp [h2]
theorem take_filter (x : Int) : ∀ {l : List (Int × Int)}, Srt l → l.take (l.findIdx (fun c => ile x c.2)) = l.filter (fun d => ilt d.2 x)
  | [], _ => rfl
  | c :: r, h => by
    have hc := List.pairwise_cons.1 h
    rw [List.findIdx_cons]
    by_cases hx : x ≤ c.2
    · rw [show ile x c.2 = true from by simp only [ile_d, decide_eq_true_eq]; exact hx]
      rw [cond_true, List.take_zero]
      symm
      rw [List.filter_eq_nil_iff]
      intro d hd
      simp only [ilt_d, decide_eq_true_eq]
      rcases List.mem_cons.1 hd with rfl | hd
      · omega
      · have := (hc.1 d hd).2; omega
    · rw [show ile x c.2 = false from by simp only [ile_d, decide_eq_false_iff_not]; exact hx]
      rw [cond_false, List.take_succ_cons, List.filter_cons, take_filter x hc.2]
      rw [if_pos (by simp only [ilt_d, decide_eq_true_eq]; omega)]
theorem lessB_cons (c : Int × Int) (r : List (Int × Int)) (i : Nat) : lessB (c :: r) ((i + 1 : Nat) : Int) = lessB r (i : Int) := by
  unfold lessB getR idxN
  rw [Int.toNat_natCast, Int.toNat_natCast, Nat.zero_add, Nat.zero_add]
  rfl
theorem cnt_smin : ∀ l : List (Int × Int), (List.range l.length).countP (fun i : Nat => lessB l (i : Int)) = (smin l).length
  | [] => rfl
  | c :: r => by
    rw [List.length_cons, List.range_succ_eq_map, List.countP_cons, List.countP_map]
    have e : (List.range r.length).countP ((fun i : Nat => lessB (c :: r) (i : Int)) ∘ Nat.succ) = (List.range r.length).countP (fun i : Nat => lessB r (i : Int)) :=
      List.countP_congr (fun i _ => by simp only [Function.comp, Nat.succ_eq_add_one]; rw [lessB_cons])
    rw [e, cnt_smin r]
    have e2 : lessB (c :: r) ((0 : Nat) : Int) = r.all (fun d => ilt c.2 d.2) := rfl
    rw [e2]
    simp only [smin]
    cases r.all (fun d => ilt c.2 d.2) <;> simp
structure Both (al fl : List (Int × Int)) : Prop where
  srt : Srt fl
  emp : al = [] ↔ fl = []
  lst : lastP al = lastP fl
  sm : fl = smin al
  dom : ∀ c ∈ al, ∃ d ∈ fl, c.1 ≤ d.1 ∧ d.2 ≤ c.2
  mem : ∀ d ∈ fl, d ∈ al
theorem both_at {al fl : List (Int × Int)} (h : Both al fl) (a : Int) : atF al a = atF fl a := by
  unfold atF
  by_cases h0 : al = []
  · rw [if_pos h0, if_pos (h.emp.1 h0)]
  · rw [if_neg h0, if_neg (fun e => h0 (h.emp.2 e)), h.lst]
theorem stepR_last (l : List (Int × Int)) (a x : Int) : lastP (stepR l a x) = (atF l a, x) := by
  unfold lastP stepR
  rw [List.length_append, List.length_singleton, Nat.add_sub_cancel, List.getD_eq_getElem?_getD, List.getElem?_append_right (Nat.le_refl _)]
  simp
theorem stepF_eq {fl : List (Int × Int)} (h : Srt fl) (a x : Int) : stepF fl a x = fl.filter (fun d => ilt d.2 x) ++ [(atF fl a, x)] := by
  unfold stepF; rw [take_filter x h]
theorem both_step {al fl : List (Int × Int)} (h : Both al fl) (a x : Int) : Both (stepR al a x) (stepF fl a x) := by
  have ha := both_at h a
  have hs := step_srt h.srt a x
  refine ⟨hs, ?_, by rw [stepR_last, step_last, ha], ?_, ?_, ?_⟩
  · constructor
    · intro e; simp [stepR] at e
    · intro e; simp [stepF] at e
  · rw [stepF_eq h.srt]; unfold stepR; rw [smin_snoc, ← h.sm, ha]
  · intro c hc
    rw [stepF_eq h.srt]
    have new : (atF fl a, x) ∈ fl.filter (fun d => ilt d.2 x) ++ [(atF fl a, x)] := by simp
    unfold stepR at hc
    rcases List.mem_append.1 hc with hc | hc
    · obtain ⟨d, hd, h1, h2⟩ := h.dom c hc
      by_cases hx : d.2 < x
      · exact ⟨d, List.mem_append.2 (.inl (List.mem_filter.2 ⟨hd, by simp only [ilt_d, decide_eq_true_eq]; exact hx⟩)), h1, h2⟩
      · refine ⟨_, new, ?_, by simp only; omega⟩
        obtain ⟨j, hj, rfl⟩ := List.getElem_of_mem hd
        have hp : 0 < fl.length := by omega
        have := (srt_le h.srt (i := j) (j := fl.length - 1) (by omega) (by omega)).1
        show c.1 ≤ atF fl a
        unfold atF; rw [if_neg (List.length_pos_iff.1 hp), lastP_eq hp]
        unfold imax; omega
    · simp only [List.mem_singleton] at hc; subst hc
      exact ⟨_, new, by rw [ha]; exact Int.le_refl _, Int.le_refl _⟩
  · intro d hd
    rw [stepF_eq h.srt] at hd
    unfold stepR
    rcases List.mem_append.1 hd with hd | hd
    · exact List.mem_append.2 (.inl (h.mem d (List.mem_filter.1 hd).1))
    · rw [← ha] at hd; exact List.mem_append.2 (.inr hd)
theorem fold_best (old : Int) : ∀ (l : List (Int × Int)) (b : Int), l.foldl (best old) b ≤ b ∧ (∀ c ∈ l, old < c.1 → l.foldl (best old) b ≤ c.2) ∧ (l.foldl (best old) b = b ∨ ∃ c ∈ l, old < c.1 ∧ l.foldl (best old) b = c.2)
  | [], b => ⟨Int.le_refl _, by simp, .inl rfl⟩
  | c :: r, b => by
    obtain ⟨h1, h2, h3⟩ := fold_best old r (best old b c)
    rw [List.foldl_cons]
    have hb : best old b c ≤ b ∧ (old < c.1 → best old b c ≤ c.2) ∧ (best old b c = b ∨ (old < c.1 ∧ best old b c = c.2)) := by
      unfold best
      split
      · rename_i h; exact ⟨by omega, fun _ => Int.le_refl _, .inr ⟨h.1, rfl⟩⟩
      · rename_i h; exact ⟨Int.le_refl _, fun h1 => by omega, .inl rfl⟩
    refine ⟨by omega, fun d hd hod => ?_, ?_⟩
    · rcases List.mem_cons.1 hd with rfl | hd
      · have := hb.2.1 hod; omega
      · exact h2 d hd hod
    · rcases h3 with h3 | ⟨d, hd, h4, h5⟩
      · rcases hb.2.2 with h6 | ⟨h6, h7⟩
        · exact .inl (by omega)
        · exact .inr ⟨c, List.mem_cons_self, h6, by omega⟩
      · exact .inr ⟨d, List.mem_cons_of_mem _ hd, h4, h5⟩
theorem tell_eq {al fl : List (Int × Int)} (h : Both al fl) (win now : Int) : tellF (imax 0 (imin win 1125899906842624)) fl now = tellR al win now := by
  have hw : imin (imax win 0) 1125899906842624 = imax 0 (imin win 1125899906842624) := by unfold imin imax; omega
  unfold tellR; rw [hw]
  by_cases h0 : al = []
  · rw [if_pos h0, h.emp.1 h0]; simp [tellF]
  have h1 : fl ≠ [] := fun e => h0 (h.emp.2 e)
  have hp := List.length_pos_iff.2 h1
  have tl := tell_le h.srt hp (imax 0 (imin win 1125899906842624)) now
  rw [if_neg h0]
  obtain ⟨b1, b2, b3⟩ := fold_best (near now - imax 0 (imin win 1125899906842624)) al (lastP al).2
  rw [h.lst] at b1 b2 b3 ⊢
  generalize imax 0 (imin win 1125899906842624) = w at *
  unfold tellF at tl ⊢
  rw [if_neg h1] at tl ⊢
  by_cases hf : fl.findIdx (fun c => ilt (near now - w) c.1) < fl.length
  · rw [if_pos hf] at tl ⊢
    rw [List.getD_eq_getElem?_getD, List.getElem?_eq_getElem hf, Option.getD_some] at tl ⊢
    have hi := List.findIdx_getElem (xs := fl) (p := fun c => ilt (near now - w) c.1) (w := hf)
    simp only [ilt_d, decide_eq_true_eq] at hi
    have u1 := b2 _ (h.mem _ (List.getElem_mem hf)) hi
    have u2 : (fl[fl.findIdx (fun c => ilt (near now - w) c.1)]).2 ≤ al.foldl (best (near now - w)) (lastP fl).2 := by
      rcases b3 with b3 | ⟨c, hc, b4, b5⟩
      · rw [b3]; exact tl
      · obtain ⟨d, hd, d1, d2⟩ := h.dom c hc
        obtain ⟨j, hj, rfl⟩ := List.getElem_of_mem hd
        have : fl.findIdx (fun c => ilt (near now - w) c.1) ≤ j := by
          rcases Nat.lt_or_ge j (fl.findIdx (fun c => ilt (near now - w) c.1)) with h2 | h2
          · have := List.not_of_lt_findIdx h2
            simp only [ilt_d, decide_eq_false_iff_not] at this; omega
          · exact h2
        have := (srt_le h.srt this hj).2
        omega
    omega
  · rw [if_neg hf] at tl ⊢
    rcases b3 with b3 | ⟨c, hc, b4, b5⟩
    · exact b3.symm
    · exfalso
      obtain ⟨d, hd, d1, d2⟩ := h.dom c hc
      exact hf (List.findIdx_lt_length_of_exists ⟨d, hd, by simp only [ilt_d, decide_eq_true_eq]; omega⟩)
theorem both_is {al fl : List (Int × Int)} (h : Both al fl) : isF fl = isF al := by
  unfold isF
  by_cases h0 : al = []
  · rw [h0, h.emp.1 h0]
  · have h1 : fl ≠ [] := fun e => h0 (h.emp.2 e)
    cases al with
    | nil => exact absurd rfl h0
    | cons _ _ => cases fl with
      | nil => exact absurd rfl h1
      | cons _ _ => rfl
theorem both_cnt {al fl : List (Int × Int)} (h : Both al fl) : nlen (lenR [CK.int .i64, CK.int .i64] fl) = cntL al := by
  unfold cntL nlen; rw [cnt_smin, ← h.sm]; rfl
theorem l3 (win : Int) (l : List (Int × Int)) (now : Int) : ∀ (k i : Nat) (al fl : List (Int × Int)), Both al fl → fl.length ≤ i → al.length ≤ i → i + k = min 50 l.length →
    ∃ al' fl' : List (Int × Int), L3L win l now (k + 1) (nlen (lenR [CK.int .i64, CK.int .i64] l)) (imax 0 (imin win 1125899906842624)) (i : Int) al fl = some (0, imax 0 (imin win 1125899906842624), al', fl', 0, [], []) ∧ Both al' fl' ∧ fl'.length ≤ 50 ∧ al'.length ≤ 50
  | 0, i, al, fl, hb, h1, h2, h => by
    refine ⟨al, fl, ?_, hb, by omega, by omega⟩
    rw [L3L]
    by_cases h3 : (i : Int) < l.length
    · have e1 : inB (i : Int) (lenR [CK.int .i64, CK.int .i64] l) := ⟨by omega, by rw [eL]; omega⟩
      have e2 : ltN (idxN 0 (i : Int)) (lenR [CK.int .i64, CK.int .i64] l) := by unfold ltN idxN; rw [eL]; omega
      rw [show ilt (i : Int) (nlen (lenR [CK.int .i64, CK.int .i64] l)) = true from by simp only [ilt_d, nlen, eL, decide_eq_true_eq]; omega, show ile 50 (i : Int) = true from by simp only [ile_d, decide_eq_true_eq]; omega,
        decide_eq_true e1, decide_eq_true e2]; rfl
    · rw [show ilt (i : Int) (nlen (lenR [CK.int .i64, CK.int .i64] l)) = false from by simp only [ilt_d, nlen, eL, decide_eq_false_iff_not]; omega]; rfl
  | k + 1, i, al, fl, hb, h1, h2, h => by
    have hi : i < l.length := by omega
    have hg := getQ hi
    have sl := step_len fl l[i].1 l[i].2
    have rl : (stepR al l[i].1 l[i].2).length = al.length + 1 := by unfold stepR; simp
    have sb := both_step hb l[i].1 l[i].2
    obtain ⟨al', fl', h3, h4, h5, h6⟩ := l3 win l now k (i + 1) _ _ sb (by omega) (by omega) (by omega)
    refine ⟨al', fl', ?_, h4, h5, h6⟩
    have hw : 0 ≤ imax 0 (imin win 1125899906842624) ∧ imax 0 (imin win 1125899906842624) ≤ 1125899906842624 := by unfold imax imin; omega
    have e1 : inB (i : Int) (lenR [CK.int .i64, CK.int .i64] l) := ⟨by omega, by rw [eL]; omega⟩
    have e2 : ltN (idxN 0 (i : Int)) (lenR [CK.int .i64, CK.int .i64] l) := by unfold ltN idxN; rw [eL]; omega
    have e3 : iadd .i64 (i : Int) 1 = ((i + 1 : Nat) : Int) := by unfold iadd; rw [w_i64_in (by omega)]; omega
    have ine_self : ∀ z : Int, ine z z = false := fun z => by simp [ine]
    have b_self : ∀ z : Bool, notB (beqB z z) = false := fun z => by cases z <;> rfl
    rw [L3L, show ilt (i : Int) (nlen (lenR [CK.int .i64, CK.int .i64] l)) = true from by simp only [ilt_d, nlen, eL, decide_eq_true_eq]; omega, show ile 50 (i : Int) = false from by simp only [ile_d, decide_eq_false_iff_not]; omega,
      hg, tell_eq sb, both_is sb, both_cnt sb, ine_self, ine_self, b_self, decide_eq_true e1, decide_eq_true e2, decide_eq_true (show fl.length ≤ 1000000 by omega), decide_eq_true (show al.length ≤ 1000000 by omega),
      decide_eq_true (show (stepF fl l[i].1 l[i].2).length ≤ 1000000 by omega), decide_eq_true hw, decide_eq_true (show (stepR al l[i].1 l[i].2).length ≤ 1000000 by omega), e3]
    exact h3
theorem least_finds (win : Int) (l : List (Int × Int)) (now : Int) :
    ACalls Try.prog 3 [AV.v (.int .i64 win), AV.sw 0 2, AV.v (.int .i64 now)] [AObj.rows false [CK.int .i64, CK.int .i64] l] (AV.v (Value.bool true)) [] [] := by
  have hw : 0 ≤ imax 0 (imin win 1125899906842624) ∧ imax 0 (imin win 1125899906842624) ≤ 1125899906842624 := by unfold imax imin; omega
  obtain ⟨al, fl, h1, h2, h3, h4⟩ := l3 win l now (min 50 l.length) 0 [] [] ⟨List.Pairwise.nil, by simp, rfl, rfl, by simp, by simp⟩ (by simp) (by simp) (by omega)
  have h := f3 win l now 0 (min 50 l.length + 1) (imax 0 (imin win 1125899906842624)) al fl 0 0 [] [] (fun _ => h1) (fun h => by simp at h) (fun _ => by omega) (fun _ => hw) (fun _ => by omega)
  have e : f3r0 win l now 0 (min 50 l.length + 1) (imax 0 (imin win 1125899906842624)) al fl 0 0 [] [] = true := by
    unfold f3r0
    rw [tell_eq h2, both_is h2]
    have : ieq (tellR al win now) (tellR al win now) = true := by simp [ieq]
    rw [this]
    cases isF al <;> rfl
  rw [e] at h; exact h
theorem law_finds (win : Int) (l : List (El (Go.Abs.PS.agg [.int .i64, .int .i64]).ck)) (now : Int) (w0 : (Lit.int .i64 win).wf = true) (w1 : ∀ y ∈ l, El.ok (Go.Abs.PS.agg [.int .i64, .int .i64]).ck y) (w2 : (Lit.int .i64 now).wf = true) :
    ACalls Try.prog 3 [AV.v (.int .i64 win), AV.sw 0 2, AV.v (.int .i64 now)] [rowO (Go.Abs.PS.agg [.int .i64, .int .i64]).ck l] (AV.v (Value.bool true)) [] [] :=
  least_finds win l now
end Go.Proofs.Ytfijbmnkbfljfaa.Least
