import Derived.Test.YtffoldigaififaaAbsV
set_option linter.unusedVariables false
set_option linter.unusedSimpArgs false
/- append, copy, make, x[l:h:m], &x[i]. -/
namespace Go.Abs
section
variable {P : Program} {σ : Sg} {g h : List AObj} {w : World}

theorem grown_world {e : TypeId} {c : Array Value} : (∀ r, r < w.heap.size → (w.drew.alloc (.cells c e)).heap[r]? = w.heap[r]?) ∧ (w.drew.alloc (.cells c e)).heap[w.heap.size]? = some (.cells c e (0, 0)) ∧
    w.heap.size ≤ (w.drew.alloc (.cells c e)).heap.size ∧ (w.drew.alloc (.cells c e)).os = w.os ∧ (w.drew.alloc (.cells c e)).tape = w.tape ∧ (w.drew.alloc (.cells c e)).output = w.output := by
  refine ⟨fun r hr => push_old _ hr, show (w.heap.push _)[w.heap.size]? = _ by simp, ?_, rfl, rfl, rfl⟩
  show w.heap.size ≤ (w.heap.push _).size
  simp

/-- what append leaves behind, as one object -/
structure Grew (σ : Sg) (w w' : World) (p : AObj) (L : Loc) (B' : Option Addr) (N r' s : Nat) : Prop where
  old : ∀ r, r < w.heap.size → w'.heap[r]? = w.heap[r]?
  size : w.heap.size ≤ w'.heap.size
  os : w'.os = w.os
  tape : w'.tape = w.tape
  output : w'.output = w.output
  blk : Blk σ p w' L
  at_ : 0 < L.cap → w.heap.size ≤ L.at_
  base : B' = L.base 0
  len : L.len / s = N
  cap : L.cap / s = r'

/-- append that makes a new row -/
theorem append_new {t u ty e : TypeId} {i : TypeInfo} {zs : List AV} (ht : P.underlying t = some (.slice e)) (hu : (∃ e', P.underlying u = some (.slice e')) ∨ P.underlying u = some .string) (hi : P.info? e = some i)
    (hz : zeroT P e = some zs) (hzl : zs.length = i.size) (hs : 0 < i.size) (hb : 0 < i.bytes) {y : Value} {o' p : AObj} {m n r : Nat} {B : Option Addr} {olds : List Value} (hy : Cont P σ w i.size y o' m true)
    (hfo : ∀ w2 : World, w2.heap = w.heap → (Builtin.firstCells i.size n (.slice B n r)).run P w2 = .ok olds.toArray w2) (holds : olds.length = n * i.size)
    (hp : denO σ p = olds ++ denO σ o') (hpr : p.row = true) (htg : p.tagOk e = true) (hfit : fitN (n + m) i.bytes) (hroom : r < n + m) :
    ∃ v' w' L B' r', (∀ ks, (builtin .append #[t, u] ty ks #[.slice B n r, y]).run P w = .ok (.value v') w') ∧ v' = .slice B' (n + m) r' ∧ Grew σ w w' p L B' (n + m) r' i.size := by
  obtain ⟨i', z, z1, z2, z3, z4⟩ := zeroT_den (σ := σ) hz
  rw [hi] at z1; obtain rfl := Option.some.inj z1
  have hd : w.drew.heap = w.heap := rfl
  have hol : o'.len = m * i.size := hy.len
  have hfc := hy.cells w.drew hd m (Nat.le_refl _)
  rw [List.take_of_length_le (by simp [hol])] at hfc
  have hrun := run_append_new (ty := ty) ht hu hi z2 (hy.lenOf w) hfc (hfo w.drew hd) hroom hb hfit
  have hcap : n + m ≤ grownCap w (n + m) r e := grownCap_ge ..
  have hpl : p.len = (n + m) * i.size := by
    have := congrArg List.length hp; simp [holds, hol] at this; rw [this, Nat.add_mul]
  obtain ⟨g1, g2, g3, g4, g5, g6⟩ := grown_world (w := w) (e := e) (c := ((olds ++ denO σ o').toArray ++ Builtin.zeroCells z.cells (grownCap w (n + m) r e - (n + m))))
  have hsz : ((olds ++ denO σ o').toArray ++ Builtin.zeroCells z.cells (grownCap w (n + m) r e - (n + m))).size = grownCap w (n + m) r e * i.size := by
    have hz' : z.cells.size = i.size := by rw [z3]; simp [hzl]
    rw [Array.size_append, size_zeroCells, hz', Nat.sub_mul]
    have e1 : (olds ++ denO σ o').toArray.size = (n + m) * i.size := by simp [holds, hol, Nat.add_mul]
    have e2 : (n + m) * i.size ≤ grownCap w (n + m) r e * i.size := Nat.mul_le_mul_right _ hcap
    rw [e1]; omega
  refine ⟨_, _, ⟨w.heap.size, 0, p.len, grownCap w (n + m) r e * i.size, false⟩, some ⟨w.heap.size, 0, none⟩, grownCap w (n + m) r e, fun ks => ?_, rfl, ⟨g1, g3, g4, g5, g6, ⟨rfl, ?_, fun h => by simp at h, fun _ => ⟨_, g2, (Rep.row hpr).2 ⟨_, e, (0, 0), rfl, fun _ => unf0 _ _, ⟨?_, (tagOk_spec htg).imp id (fun h => ⟨h.1.symm, fun k => by rw [h.2] at k; simp at k⟩)⟩, fun j v hv => ?_⟩⟩, rowNo hpr⟩, fun _ => Nat.le_refl _, rfl, ?_, ?_⟩⟩
  · simp [builtin, hrun]
  · simp only [hpl]; exact Nat.mul_le_mul_right _ hcap
  · simp only [Nat.zero_add]; rw [hsz]; exact Nat.le_refl _
  · rw [hp] at hv
    have hj := (List.getElem?_eq_some_iff.1 hv).1
    simp only [Nat.zero_add]
    rw [Array.getElem?_append_left (by simpa using hj)]
    simpa using hv
  · simp only [hpl]; exact Nat.mul_div_cancel _ hs
  · exact Nat.mul_div_cancel _ hs

/-- append onto a row that the slice owns -/
theorem append_own (hr : RelH P σ g w) {t u ty e : TypeId} {i : TypeInfo} {zs : List AV} (ht : P.underlying t = some (.slice e)) (hu : (∃ e', P.underlying u = some (.slice e')) ∨ P.underlying u = some .string) (hi : P.info? e = some i)
    (hz : zeroT P e = some zs) (hzl : zs.length = i.size) (hs : 0 < i.size) (hb : 0 < i.bytes) {y : Value} {o' p ob : AObj} {m n r : Nat} {B : Option Addr} {olds : List Value} (hy : Cont P σ w i.size y o' m true)
    (hones : o'.ones = true) {L : Loc} {off z b : Nat} (hat : SlAt σ w i.size B n r L off z b olds) (hd : σ.dom b) (hob : g[b]? = some ob) (hl : ob.live = true) (hrow : ob.row = true) (hwr : ob.wr = true)
    (hp : denO σ p = olds ++ denO σ o') (hpr : p.row = true) (htg : p.tagOk e = true) (hto : p.tag.1 = 0 ∨ (p.tag = ob.tag ∧ p.tag.2 = false)) (hwf : wfO σ p) (hfit : fitN (n + m) i.bytes)
    {N : Nat} (hbN : b ≠ N) (hN : g[N]? = some p) (hf : ¬ σ.dom N) :
    ∃ v' w', (∀ ks, (builtin .append #[t, u] ty ks #[.slice B n r, y]).run P w = .ok (.value v') w') ∧ Post P σ N g w (.sw N i.size) [p] [(b, .dead)] v' w' := by
  have hol : o'.len = m * i.size := hy.len
  have hpl : p.len = (n + m) * i.size := by
    have := congrArg List.length hp; simp [hat.len, hol] at this; rw [this, Nat.add_mul]
  by_cases hroom : n + m ≤ r
  · have hfc := hy.cells w rfl m (Nat.le_refl _)
    rw [List.take_of_length_le (by simp [hol])] at hfc
    have hrun := run_append_fit (ty := ty) (base := B) (n := n) (r := r) ht hu hi (hy.lenOf w) hfc hroom
    by_cases hr0 : r = 0
    · -- nothing there, nothing appended
      have hm0 : m = 0 := by omega
      have hn0 : n = 0 := by omega
      have hnews : denO σ o' = [] := List.length_eq_zero_iff.1 (by simp [hol, hm0])
      have hst : (putOpt B (n * i.size) (denO σ o')).run P w = .ok () w := by
        cases B <;> simp [putOpt, hnews, storeCells]
      rw [hst] at hrun
      simp only [Result.andThen] at hrun
      have hval : wf (σ.more N [⟨L.at_, L.off + z * i.size, 0, 0, L.nil⟩]) (.sw N i.size) := ⟨(Sg.more_dom_one _ _ _ _).2 (.inr rfl), hs⟩
      have hpost := post_move (P := P) (L := ⟨L.at_, L.off + z * i.size, 0, 0, L.nil⟩) (w' := w) hr hd hob hl hwr hbN hN hf hwf (fun h => by simp at h) ⟨by simp [hpl, hm0, hn0], Nat.le_refl _, fun _ => rfl, fun h => by simp at h, rowNo hpr⟩ (fun _ _ _ => rfl) (Nat.le_refl _) rfl rfl rfl hval
      have e1 : (r == 0) = true := by simp [hr0]
      have hv : den (σ.more N [⟨L.at_, L.off + z * i.size, 0, 0, L.nil⟩]) (.sw N i.size) = .slice B (n + m) r := by
        simp [den, Sg.more_one, hat.base, e1, Loc.base, hm0, hn0, hr0]
      rw [hv] at hpost
      exact ⟨_, w, fun ks => by simp [builtin, hrun], hpost⟩
    · have e1 : (r == 0) = false := by simp [hr0]
      have hlc : 0 < L.cap := by
        have h1 := hat.fit
        have h2 : 1 * i.size ≤ (off + r) * i.size := Nat.mul_le_mul_right _ (by omega)
        omega
      have hnil : L.nil = false := by
        cases hn : L.nil with
        | false => rfl
        | true => have := hat.nil hn; omega
      have hB : B = some ⟨L.at_, L.off + off * i.size, none⟩ := by rw [hat.base, e1]; simp [Loc.base, hnil]
      have hblk := hr.blk b ob hd hob hl
      rw [hat.loc] at hblk
      obtain ⟨obj, r1, r2⟩ := hblk.rep hlc
      obtain ⟨c, tt, fr, rfl, r3, r4, r5⟩ := (Rep.row hrow).1 r2
      have hunf := r3 hwr
      have hfl : (off + n + m) * i.size ≤ L.cap := Nat.le_trans (Nat.mul_le_mul_right _ (by omega)) hat.fit
      have hfl2 : off * i.size + n * i.size + m * i.size ≤ L.cap := by rw [← Nat.add_mul, ← Nat.add_mul]; exact hfl
      have hst := run_storeCells_U P L.at_ (L.off + (off * i.size + n * i.size)) tt fr (denO σ o') 0 c w r1 (fun k hk => by
        have := hunf (off * i.size + n * i.size + k) (by simp [hol] at hk; omega)
        rw [show L.off + (off * i.size + n * i.size) + 0 + k = L.off + (off * i.size + n * i.size + k) by omega]; exact this) (by simp [hol]; omega) (ones_den hones)
      have hrun2 : (putOpt B (n * i.size) (denO σ o')).run P w = .ok () (w.setRow L.at_ (c.toList.take (L.off + (off * i.size + n * i.size)) ++ denO σ o' ++ c.toList.drop (L.off + (off * i.size + n * i.size) + o'.len)).toArray) := by
        rw [hB]
        simp only [putOpt, addr_add]
        simpa [Nat.add_assoc] using hst
      rw [hrun2] at hrun
      simp only [Result.andThen] at hrun
      have hat2 : L.at_ = σ.at_ b := by show L.at_ = (σ.loc b).at_; rw [hat.loc]
      have hval : wf (σ.more N [⟨L.at_, L.off + off * i.size, p.len, r * i.size, false⟩]) (.sw N i.size) := ⟨(Sg.more_dom_one _ _ _ _).2 (.inr rfl), hs⟩
      have hle1 : p.len ≤ r * i.size := by rw [hpl]; exact Nat.mul_le_mul_right _ hroom
      have hcapr : off * i.size + r * i.size ≤ L.cap := by rw [← Nat.add_mul]; exact hat.fit
      have hrow2 := setRow_heap w L.at_ c (c.toList.take (L.off + (off * i.size + n * i.size)) ++ denO σ o' ++ c.toList.drop (L.off + (off * i.size + n * i.size) + o'.len)).toArray tt fr r1
      have hcsz : L.off + (off * i.size + n * i.size) + o'.len ≤ c.size := by rw [hol]; omega
      have hpost := post_move (P := P) (L := ⟨L.at_, L.off + off * i.size, p.len, r * i.size, false⟩) (w' := w.setRow L.at_ (c.toList.take (L.off + (off * i.size + n * i.size)) ++ denO σ o' ++ c.toList.drop (L.off + (off * i.size + n * i.size) + o'.len)).toArray)
        hr hd hob hl hwr hbN hN hf hwf (fun _ => .inl ⟨hat2, by rw [hat.loc]; exact hlc⟩) ⟨rfl, hle1, fun h => by simp at h, fun _ => ⟨_, hrow2, (Rep.row hpr).2 ⟨_, tt, fr, rfl, fun _ k hk => by
            have := hunf (off * i.size + k) (by simp only at hk; omega)
            rw [show L.off + off * i.size + k = L.off + (off * i.size + k) by omega]; exact this, ⟨by simp; omega, hto.elim .inl (fun h => r4.2.elim (fun q => .inl (by rw [h.1]; exact q)) (fun q => .inr ⟨q.1.trans (by rw [h.1]), fun k => by rw [h.2] at k; simp at k⟩))⟩, fun j v hv => by
              rw [hp] at hv
              simp only [List.getElem?_toArray]
              simp only [List.append_assoc, List.getElem?_append, List.length_take, denO_length, List.getElem?_take, List.getElem?_drop, Array.length_toList, hat.len] at hv ⊢
              have m2 : min (L.off + (off * i.size + n * i.size)) c.size = L.off + (off * i.size + n * i.size) := by omega
              rw [m2]
              by_cases h1 : j < n * i.size
              · rw [if_pos h1] at hv
                rw [if_pos (by omega), if_pos (by omega)]
                have h5 := hat.cell j v hv
                rw [cell_of_heap r1] at h5
                rw [show L.off + off * i.size + j = L.off + (off * i.size + j) by omega]
                simpa using h5
              · rw [if_neg h1] at hv
                have h2 : j - n * i.size < o'.len := by have := (List.getElem?_eq_some_iff.1 hv).1; simpa using this
                rw [if_neg (by omega), if_pos (by omega)]
                rw [show L.off + off * i.size + j - (L.off + (off * i.size + n * i.size)) = j - n * i.size by omega]
                exact hv⟩⟩, rowNo hpr⟩
        (fun k hk hne => setRow_other w _ _ _ (fun he => hne (he.trans hat2) (by rw [hat.loc]; exact hlc))) (by simp) rfl rfl rfl hval
      have e2 : p.len / i.size = n + m := by rw [hpl]; exact Nat.mul_div_cancel _ hs
      have e3 : r * i.size / i.size = r := Nat.mul_div_cancel _ hs
      have hv : den (σ.more N [⟨L.at_, L.off + off * i.size, p.len, r * i.size, false⟩]) (.sw N i.size) = .slice B (n + m) r := by
        simp [den, Sg.more_one, Loc.base, e2, e3, hB]
      rw [hv] at hpost
      exact ⟨_, _, fun ks => by simp [builtin, hrun], hpost⟩
  · obtain ⟨v', w', L', B', r', h1, h2, h3⟩ := append_new (ty := ty) ht hu hi hz hzl hs hb hy (fun w2 hw => by
      have := hat.first (P := P) w2 hw n (Nat.le_refl _)
      rwa [List.take_of_length_le (by simp [hat.len])] at this) hat.len hp hpr htg hfit (by omega)
    have hval : wf (σ.more N [L']) (.sw N i.size) := ⟨(Sg.more_dom_one _ _ _ _).2 (.inr rfl), hs⟩
    have hpost := post_move (P := P) (L := L') (w' := w') hr hd hob hl hwr hbN hN hf hwf (fun h => .inr (h3.at_ h)) h3.blk (fun k hk _ => h3.old k hk) h3.size h3.os h3.tape h3.output hval
    refine ⟨v', w', h1, ?_⟩
    rw [h2]
    simpa [den, Sg.more_one, h3.len, h3.cap, h3.base] using hpost

/-- append onto what stays: nil, or a slice that has no room -/
theorem append_keep (hr : RelH P σ g w) {t u ty e : TypeId} {i : TypeInfo} {zs : List AV} (ht : P.underlying t = some (.slice e)) (hu : (∃ e', P.underlying u = some (.slice e')) ∨ P.underlying u = some .string) (hi : P.info? e = some i)
    (hz : zeroT P e = some zs) (hzl : zs.length = i.size) (hs : 0 < i.size) (hb : 0 < i.bytes) {y : Value} {o' p : AObj} {m n r : Nat} {B : Option Addr} {olds : List Value} (hy : Cont P σ w i.size y o' m true)
    (hfo : ∀ w2 : World, w2.heap = w.heap → (Builtin.firstCells i.size n (.slice B n r)).run P w2 = .ok olds.toArray w2) (holds : olds.length = n * i.size) (hnr : n ≤ r) (hB : r = 0 → ∃ L : Loc, B = L.base 0)
    (hp : denO σ p = olds ++ denO σ o') (hpr : p.row = true) (htg : p.tagOk e = true) (hwf : wfO σ p) (hfit : fitN (n + m) i.bytes) (hgrow : growN r (n + m)) {N : Nat} (hN : g[N]? = some p) (hf : ¬ σ.dom N) :
    ∃ v' w', (∀ ks, (builtin .append #[t, u] ty ks #[.slice B n r, y]).run P w = .ok (.value v') w') ∧ Post P σ N g w (.sw N i.size) [p] [] v' w' := by
  have hol : o'.len = m * i.size := hy.len
  have hpl : p.len = (n + m) * i.size := by
    have := congrArg List.length hp; simp [holds, hol] at this; rw [this, Nat.add_mul]
  by_cases hroom : n + m ≤ r
  · have hr0 : r = 0 := by
      rcases hgrow with h | h
      · exact h
      · omega
    have hm0 : m = 0 := by omega
    have hn0 : n = 0 := by omega
    have hfc := hy.cells w rfl m (Nat.le_refl _)
    rw [List.take_of_length_le (by simp [hol])] at hfc
    have hrun := run_append_fit (ty := ty) (base := B) (n := n) (r := r) ht hu hi (hy.lenOf w) hfc hroom
    have hnews : denO σ o' = [] := List.length_eq_zero_iff.1 (by simp [hol, hm0])
    have hst : (putOpt B (n * i.size) (denO σ o')).run P w = .ok () w := by
      cases B <;> simp [putOpt, hnews, storeCells]
    rw [hst] at hrun
    simp only [Result.andThen] at hrun
    obtain ⟨L, hL⟩ := hB hr0
    have hval : wf (σ.more N [⟨L.at_, L.off, 0, 0, L.nil⟩]) (.sw N i.size) := ⟨(Sg.more_dom_one _ _ _ _).2 (.inr rfl), hs⟩
    have hpost := post_new (P := P) (L := ⟨L.at_, L.off, 0, 0, L.nil⟩) (w' := w) hr hN hf hwf (fun _ _ => rfl) (Nat.le_refl _) rfl rfl rfl ⟨by simp [hpl, hm0, hn0], Nat.le_refl _, fun _ => rfl, fun h => by simp at h, rowNo hpr⟩ (fun h => by simp at h) hval
    have hv : den (σ.more N [⟨L.at_, L.off, 0, 0, L.nil⟩]) (.sw N i.size) = .slice B (n + m) r := by
      simp [den, Sg.more_one, hL, Loc.base, hm0, hn0, hr0]
    rw [hv] at hpost
    exact ⟨_, w, fun ks => by simp [builtin, hrun], hpost⟩
  · obtain ⟨v', w', L', B', r', h1, h2, h3⟩ := append_new (ty := ty) ht hu hi hz hzl hs hb hy hfo holds hp hpr htg hfit (by omega)
    have hval : wf (σ.more N [L']) (.sw N i.size) := ⟨(Sg.more_dom_one _ _ _ _).2 (.inr rfl), hs⟩
    have hpost := post_new (P := P) (L := L') (w' := w') hr hN hf hwf h3.old h3.size h3.os h3.tape h3.output h3.blk (fun h => .inl (h3.at_ h)) hval
    refine ⟨v', w', h1, ?_⟩
    rw [h2]
    simpa [den, Sg.more_one, h3.len, h3.cap, h3.base] using hpost
end
end Go.Abs
