import Derived.Test.YtffoldigaififaaAbsZ
set_option linter.unusedVariables false
set_option linter.unusedSimpArgs false
namespace Go.Abs
section
variable {P : Program} {σ : Sg} {g h : List AObj} {w : World}
theorem sliceA_sound (hr : RelH P σ g w) (hg : ∀ (b : Nat) (o : AObj), h[b]? = some o → g[b]? = some o) {t : TypeId} {x : AV} {lo hi mx : Option Int} {vl vh vm : Option Value} {res : Res}
    (hop : sliceA P h t x lo hi mx = some res) (hcs : All res.cs) (h1 : OV vl lo) (h2 : OV vh hi) (h3 : OV vm mx) (hx : wf σ x)
    (hnews : ∀ (j : Nat) (x : AObj), res.news[j]? = some x → g[h.length + j]? = some x) (hfr : ∀ j, j < res.news.length → ¬ σ.dom (h.length + j)) :
    ∃ v' w', (Instr.sliceAt t (den σ x) vl vh vm).run P w = .ok v' w' ∧ Post P σ h.length g w res.val res.news res.upd v' w' := by
  unfold sliceA at hop
  split at hop
  · -- texts
    rename_i s ht
    split at hop <;> simp at hop
    subst hop
    obtain ⟨⟨a1, a2, a3⟩, -⟩ := hcs
    simp only [slen] at a1 a2 a3
    have hm : vm = none := by cases vm <;> simp [OV] at h3; rfl
    subst hm
    refine ⟨_, w, ?_, post_pure hr trivial⟩
    have hb := run_bounds (P := P) (w := w) (isS := false) (len := s.size) (cap := s.size) h1 h2 (mx := none) (m := none) trivial (by simp) (Nat.le_refl _) ⟨a1, a2, by simpa using a3, by simp⟩
    have he : Instr.sliceAt t (den σ (.v (.string s))) vl vh none = Instr.sliceAt t (.string s) vl vh none := rfl
    rw [he, run_sliceAt_string w t _ _ _ _ ht]
    simp only [Instr.slice, Sem.run_bind, run_underlying ht, Result.andThen]
    simp [den, ssub, slen]
    rw [hb]; rfl
  · rename_i e b s ht
    split at hop <;> try simp at hop
    rename_i hs
    split at hop <;> try simp at hop
    rename_i o ho
    split at hop <;> try simp at hop
    rename_i n hn
    obtain ⟨hl, hat⟩ := sw_at hr hx (hg _ _ ho) hn
    have := cutA_sound (r := (σ.loc b).cap / s) hr hg ht hs hop hcs h1 h2 h3 hx.1 (by simp [Loc.room]) ⟨hx.2, hat.le, hat.fit⟩ hat.base hnews hfr
    rw [sw_val hl]
    exact this
  · rename_i e b s z off n c ht
    split at hop <;> try simp at hop
    rename_i hs
    exact cutA_sound (r := (σ.loc b).room s off c) hr hg ht hs hop hcs h1 h2 h3 hx.1 rfl hx.2 rfl hnews hfr
  · -- nil
    rename_i e ht
    have he : P.elem t = e := by simp [Program.elem, ht]
    have ht' : P.underlying t = some (.slice (P.elem t)) := by rw [he]; exact ht
    split at hop <;> try simp at hop
    · obtain ⟨hsome, rfl⟩ := hop
      obtain ⟨sz, hsz⟩ := Option.isSome_iff_exists.1 hsome
      obtain ⟨⟨a1, a2, a3⟩, -⟩ := hcs
      have hm : vm = none := by cases vm <;> simp [OV] at h3; rfl
      subst hm
      refine ⟨_, w, ?_, post_pure hr trivial⟩
      have hb := run_bounds (P := P) (w := w) (isS := true) (len := 0) (cap := 0) h1 h2 (mx := none) (m := none) trivial (by simp) (Nat.le_refl _) ⟨a1, by simpa using a2, by simpa using a3, by simp⟩
      have hd : den σ (.v (.slice none 0 0)) = .slice none 0 0 := rfl
      rw [hd, run_sliceAt_slice w t _ _ _ _ ht', run_slice_any w t none 0 0 ht', hb]
      have e0 : (lo.getD 0).toNat = 0 := by omega
      have e1 : (hi.getD 0).toNat = 0 := by omega
      simp [Result.andThen, he, run_sizeOf hsz, sliced, e0, e1]
    · rename_i M
      split at hop <;> try simp at hop
      rename_i hi'
      obtain ⟨hsome, rfl⟩ := hop
      obtain ⟨sz, hsz⟩ := Option.isSome_iff_exists.1 hsome
      obtain ⟨⟨a1, a2, a3⟩, ⟨b1, b2, b3⟩, -⟩ := hcs
      refine ⟨_, w, ?_, post_pure hr trivial⟩
      have hb := run_bounds (P := P) (w := w) (isS := true) (len := 0) (cap := 0) h1 h2 (m := some M) h3 (by simp) (Nat.le_refl _) ⟨a1, by simpa using a2, by simpa using a3, by simpa using b3⟩
      have hd : den σ (.v (.slice none 0 0)) = .slice none 0 0 := rfl
      rw [hd, run_sliceAt_slice w t _ _ _ _ ht', run_slice_any w t none 0 0 ht', hb]
      have e0 : (lo.getD 0).toNat = 0 := by omega
      have e1 : hi'.toNat = 0 := by omega
      have e2 : M.toNat = 0 := by omega
      simp [Result.andThen, he, run_sizeOf hsz, sliced, e0, e1, e2]
  · -- an array
    rename_i n e b off ht
    split at hop <;> try simp at hop
    rename_i o s ho hs
    obtain ⟨⟨c1, c2, c3, c4, c6⟩, hop⟩ := hop
    split at hop <;> simp at hop
    subst hop
    obtain ⟨⟨a1, a2, a3⟩, -⟩ := hcs
    simp only [nlen] at a1 a2 a3
    have hm : vm = none := by cases vm <;> simp [OV] at h3; rfl
    subst hm
    have hblk := hr.blk b o hx (hg _ _ ho) c4
    have hlen := hblk.len
    have hle := hblk.le
    have hb := run_bounds (P := P) (w := w) (isS := false) (len := n) (cap := n) h1 h2 (mx := none) (m := none) trivial (by simp) (Nat.le_refl _) ⟨a1, a2, by simpa using a3, by simp⟩
    simp only [Option.getD_none, Int.toNat_natCast] at hb
    have hroom : (σ.loc b).room s (idxN (off / s) (lo.getD 0)) (some (subN (nlen n) (lo.getD 0))) = n - (lo.getD 0).toNat := by simp only [Loc.room, subN, nlen]; omega
    have hfit : (idxN (off / s) (lo.getD 0) + (n - (lo.getD 0).toNat)) * s ≤ (σ.loc b).cap := by
      have : idxN (off / s) (lo.getD 0) + (n - (lo.getD 0).toNat) = off / s + n := by simp only [idxN]; omega
      rw [this, Nat.add_mul, c2]; omega
    have hval : wf σ (.sl b s (off / s) (idxN (off / s) (lo.getD 0)) (subN (hi.getD (nlen n)) (lo.getD 0)) (some (subN (nlen n) (lo.getD 0)))) := by
      refine ⟨hx, c1, ?_, ?_⟩
      · rw [hroom]; simp only [subN, nlen]; omega
      · rw [hroom]; exact hfit
    refine ⟨_, w, ?_, post_pure hr hval⟩
    have hd : den σ (.ptr b off) = .pointer (some ⟨σ.at_ b, (σ.loc b).off + off, none⟩) := rfl
    have hnil : n ≠ 0 → (σ.loc b).nil = false := fun hn => by
      cases h : (σ.loc b).nil with
      | false => rfl
      | true =>
        have h1 := hblk.nil h
        have h2 : 1 * s ≤ n * s := Nat.mul_le_mul_right _ (by omega)
        omega
    rw [hd]
    simp only [Instr.sliceAt, Sem.run_bind, run_underlying ht, Result.andThen, Instr.sureAddr, Sem.run_pure, hb, run_sizeOf hs, den, slV, hroom]
    simp only [Result.ok.injEq, Value.slice.injEq, and_true]
    refine ⟨?_, by simp only [subN, nlen]; omega⟩
    by_cases h0 : n = (lo.getD 0).toNat
    · have e1 : (n - (lo.getD 0).toNat == 0) = true := by simp; omega
      rw [if_pos h0, e1]
      by_cases hn : n = 0
      · exact absurd hn c6
      · simp [Loc.base, hnil hn, c2]
    · have e1 : (n - (lo.getD 0).toNat == 0) = false := by simp; omega
      rw [if_neg h0, e1]
      simp [Loc.base, hnil (by omega), addr_add, idxN, Nat.add_mul, c2, Nat.add_assoc]
  · simp at hop
end
end Go.Abs
