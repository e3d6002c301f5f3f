import Derived.Test.YtffoldigaififaaAbsY
set_option linter.unusedVariables false
set_option linter.unusedSimpArgs false
/- x[l:h:m], make, &x[i], conversions, texts gone over. -/
namespace Go.Abs
attribute [local simp] nlen
section
variable {P : Program} {σ : Sg} {g h : List AObj} {w : World}
/-- an optional bound -/
def OV : Option Value → Option Int → Prop
  | none, none => True
  | some v, some n => ∃ k, v = .int k n
  | _, _ => False
theorem optA_den {ρA : Operand → Option AV} {ρ : Operand → Value} (hρ : ∀ x v, ρA x = some v → ρ x = den σ v ∧ wf σ v) {x : Option Operand} {n : Option Int} (h : optA ρA x = some n) : OV (x.map ρ) n := by
  unfold optA at h
  split at h
  · simp at h; subst h; trivial
  · split at h <;> simp at h
    subst h
    rename_i y k m hy
    exact ⟨k, (hρ _ _ hy).1⟩
theorem run_bounds {isS : Bool} {len cap : Nat} {lo hi mx : Option Value} {l h m : Option Int} (h1 : OV lo l) (h2 : OV hi h) (h3 : OV mx m)
    (hmx : m.isSome = true → h.isSome = true) (hc : len ≤ cap) (hb : 0 ≤ l.getD 0 ∧ l.getD 0 ≤ h.getD len ∧ h.getD len ≤ m.getD cap ∧ m.getD cap ≤ cap) :
    (Instr.sliceBounds isS len cap lo hi mx).run P w = .ok ((l.getD 0).toNat, (h.getD len).toNat, (m.getD cap).toNat) w := by
  cases lo <;> cases l <;> simp only [OV] at h1
  all_goals cases hi <;> cases h <;> simp only [OV] at h2
  all_goals cases mx <;> cases m <;> simp only [OV] at h3
  all_goals try (simp at hmx; done)
  all_goals (try obtain ⟨k1, rfl⟩ := h1)
  all_goals (try obtain ⟨k2, rfl⟩ := h2)
  all_goals (try obtain ⟨k3, rfl⟩ := h3)
  all_goals simp only [Option.getD_some, Option.getD_none] at hb
  all_goals simp only [Instr.sliceBounds, Option.isSome_some, Option.isSome_none, if_true, if_false, Bool.false_eq_true, Option.getD_some, Option.getD_none, Sem.run_bind, Sem.run_pure, Result.andThen]
  all_goals
    repeat first
      | rw [run_sliceBound _ _ _ _ _ (by omega) (by omega)]
      | simp only [Result.andThen]
    try simp

theorem res_slice {t e : TypeId} {s : Nat} (ht : P.underlying t = some (.slice e)) (hs : sizeT P e = some s) {B : Option Addr} {n r : Nat} {lo hi mx : Option Value} {l h m : Option Int} (h1 : OV lo l) (h2 : OV hi h) (h3 : OV mx m)
    (hmx : m.isSome = true → h.isSome = true) (hc : n ≤ r) (hb : 0 ≤ l.getD 0 ∧ l.getD 0 ≤ h.getD n ∧ h.getD n ≤ m.getD r ∧ m.getD r ≤ r) :
    (Instr.sliceAt t (.slice B n r) lo hi mx).run P w = .ok (sliced B (l.getD 0).toNat (h.getD n).toNat (m.getD r).toNat s) w := by
  have he : P.elem t = e := by simp [Program.elem, ht]
  have ht' : P.underlying t = some (.slice (P.elem t)) := by rw [he]; exact ht
  rw [run_sliceAt_slice w t _ lo hi mx ht', run_slice_any w t B n r ht', run_bounds h1 h2 h3 hmx hc hb]
  simp [Result.andThen, he, run_sizeOf hs]

/-- the cut of a slice: the base behind it -/
theorem cut_base {L : Loc} {s off z n r l m : Nat} {B : Option Addr} (hB : B = L.base (cond (r == 0) z off * s)) (hm : m ≤ r) (hl : l ≤ m) :
    (if m = l then B else B.map (·.add (l * s))) = L.base (cond (m - l == 0) (if m = l then (cond (r == 0) z off) else 0) (off + l) * s) := by
  by_cases h : m = l
  · have : (m - l == 0) = true := by simp [h]
    rw [if_pos h, this, if_pos h]; exact hB
  · have e1 : (m - l == 0) = false := by simp; omega
    have e2 : (r == 0) = false := by simp; omega
    rw [if_neg h, e1, hB, e2]
    cases hn : L.nil <;> simp [Loc.base, hn, addr_add, Nat.add_mul, Nat.add_assoc]

theorem cutA_sound (hr : RelH P σ g w) (hg : ∀ (b : Nat) (o : AObj), h[b]? = some o → g[b]? = some o) {kp : Bool} {t e : TypeId} {b s z off n r : Nat} {c : Option Nat} {lo hi mx : Option Int} {vl vh vm : Option Value} {res : Res}
    (ht : P.underlying t = some (.slice e)) (hs : sizeT P e = some s) (hcut : cutA h kp b s z off n c lo hi mx = some res) (hcs : All res.cs) (h1 : OV vl lo) (h2 : OV vh hi) (h3 : OV vm mx)
    (hd : σ.dom b) (hrm : (σ.loc b).room s off c = r) (hok : slOk (σ.loc b) s off n r) {B : Option Addr} (hB : B = (σ.loc b).base (cond (r == 0) z off * s))
    (hnews : ∀ (j : Nat) (x : AObj), res.news[j]? = some x → g[h.length + j]? = some x) (hfr : ∀ j, j < res.news.length → ¬ σ.dom (h.length + j)) :
    ∃ v' w', (Instr.sliceAt t (.slice B n r) vl vh vm).run P w = .ok v' w' ∧ Post P σ h.length g w res.val res.news res.upd v' w' := by
  obtain ⟨hs0, hnr, hfit⟩ := hok
  unfold cutA at hcut
  split at hcut <;> try simp at hcut
  rename_i o ho
  split at hcut
  · -- no third bound
    rename_i m0 hcnt
    obtain ⟨c1, c2, c3⟩ := cnt_spec hcnt
    have hgo := hg _ _ ho
    have hblk := hr.blk b o hd hgo c1
    split at hcut
    · rename_i hwr
      have hwr := (Bool.or_eq_false_iff.1 hwr).2
      split at hcut <;> simp at hcut
      rename_i q ds hq
      subst hcut
      simp only at hcs hnews hfr ⊢
      obtain ⟨⟨a1, a2, a3⟩, hds⟩ := hcs
      have hwin := win_den (σ := σ) hq hds
      have hN := hnews 0 _ rfl
      have hf := hfr 0 (by simp)
      simp only [Nat.add_zero] at hN hf
      have hrun := res_slice (w := w) ht hs (B := B) (n := n) (r := r) h1 h2 h3 (by simp) hnr ⟨a1, a2, by simp; omega, by simp⟩
      simp only [Option.getD_none, Int.toNat_natCast] at hrun
      have hle : (lo.getD 0).toNat ≤ r := by omega
      have hcb := cut_base (L := σ.loc b) (s := s) (off := off) (z := z) (n := n) (r := r) (l := (lo.getD 0).toNat) (m := r) hB (Nat.le_refl _) hle
      have hval : wf (σ.more h.length [⟨(σ.loc b).at_, (σ.loc b).off + cond (r - (lo.getD 0).toNat == 0) (if r = (lo.getD 0).toNat then (cond (r == 0) z off) else 0) (off + (lo.getD 0).toNat) * s, q.len, (r - (lo.getD 0).toNat) * s, (σ.loc b).nil⟩]) (.sw h.length s) := ⟨(Sg.more_dom_one _ _ _ _).2 (.inr rfl), hs0⟩
      have hql : q.len = ((hi.getD n) - (lo.getD 0)).toNat * s := by rw [hwin.len]; rfl
      have hqr : q.len ≤ (r - (lo.getD 0).toNat) * s := by rw [hql]; exact Nat.mul_le_mul_right _ (by omega)
      have hpost := post_new (P := P) (w' := w) hr hN hf (hwin.wf (hr.wfo b o hd hgo)) (fun _ _ => rfl) (Nat.le_refl _) rfl rfl rfl
        (L := ⟨(σ.loc b).at_, (σ.loc b).off + cond (r - (lo.getD 0).toNat == 0) (if r = (lo.getD 0).toNat then (cond (r == 0) z off) else 0) (off + (lo.getD 0).toNat) * s, q.len, (r - (lo.getD 0).toNat) * s, (σ.loc b).nil⟩)
        ⟨rfl, hqr, fun hn => by
            have h5 := hblk.nil hn
            have h6 : (off + r) * s = 0 := by omega
            have h7 : off + r = 0 := by rcases Nat.mul_eq_zero.1 h6 with h | h <;> omega
            have : r - (lo.getD 0).toNat = 0 := by omega
            rw [this]; simp, fun hc => by
            have hpos : 0 < r - (lo.getD 0).toNat := Nat.pos_of_mul_pos_right hc
            have e1 : (r - (lo.getD 0).toNat == 0) = false := by simp; omega
            have hcap : 0 < (σ.loc b).cap := by
              have h5 : 1 * s ≤ (off + r) * s := Nat.mul_le_mul_right _ (by omega)
              omega
            obtain ⟨obj, r1, r2⟩ := hblk.rep hcap
            obtain ⟨a, tt, fr, rfl, r3, r4, r5⟩ := (Rep.row c2).1 r2
            refine ⟨_, r1, (Rep.row hwin.row').2 ⟨a, tt, fr, rfl, fun hw => by rw [hwin.wr] at hw; simp at hw, ⟨?_, .inl (win_tag hq)⟩, fun j v hv => ?_⟩⟩
            · simp only [e1, cond_false]
              have h6 : (off + (lo.getD 0).toNat) * s + (r - (lo.getD 0).toNat) * s ≤ (off + r) * s := by rw [← Nat.add_mul]; exact Nat.mul_le_mul_right _ (by omega)
              omega
            · simp only [e1, cond_false]
              have hj : j < q.len := by have := (List.getElem?_eq_some_iff.1 hv).1; simpa using this
              rw [hwin.den, List.getElem?_take, if_pos (by rw [← hwin.len]; exact hj), List.getElem?_drop] at hv
              have := r5 _ v hv
              rw [show (σ.loc b).off + (off + (lo.getD 0).toNat) * s + j = (σ.loc b).off + (idxN off (lo.getD 0) * s + j) by unfold idxN; omega]
              exact this, rowNo hwin.row'⟩
        (fun hc => .inr ⟨hwin.wr, b, o, hd, hgo, c1, hwr, by
            have hpos : 0 < r - (lo.getD 0).toNat := Nat.pos_of_mul_pos_right hc
            have h5 : 1 * s ≤ (off + r) * s := Nat.mul_le_mul_right _ (by omega)
            omega, rfl⟩) hval
      refine ⟨_, w, hrun, ?_⟩
      have e2 : q.len / s = (hi.getD n).toNat - (lo.getD 0).toNat := by rw [hql, Nat.mul_div_cancel _ hs0]; omega
      have e3 : (r - (lo.getD 0).toNat) * s / s = r - (lo.getD 0).toNat := Nat.mul_div_cancel _ hs0
      have hv : den (σ.more h.length [⟨(σ.loc b).at_, (σ.loc b).off + cond (r - (lo.getD 0).toNat == 0) (if r = (lo.getD 0).toNat then (cond (r == 0) z off) else 0) (off + (lo.getD 0).toNat) * s, q.len, (r - (lo.getD 0).toNat) * s, (σ.loc b).nil⟩]) (.sw h.length s) =
          sliced B (lo.getD 0).toNat (hi.getD n).toNat r s := by
        simp only [sliced, hcb, den, Sg.more_one, e2, e3]
        simp [Loc.base]
      rw [hv] at hpost
      exact hpost
    · rename_i hwr
      simp only [Option.some.injEq] at hcut
      subst hcut
      simp only at hcs hnews hfr ⊢
      obtain ⟨⟨a1, a2, a3⟩, -⟩ := hcs
      have hrun := res_slice (w := w) ht hs (B := B) (n := n) (r := r) h1 h2 h3 (by simp) hnr ⟨a1, a2, by simp; omega, by simp⟩
      simp only [Option.getD_none, Int.toNat_natCast] at hrun
      have hle : (lo.getD 0).toNat ≤ r := by omega
      have hcb := cut_base (L := σ.loc b) (s := s) (off := off) (z := z) (n := n) (r := r) (l := (lo.getD 0).toNat) (m := r) hB (Nat.le_refl _) hle
      have hroom : (σ.loc b).room s (idxN off (lo.getD 0)) (c.map fun k => subN (nlen k) (lo.getD 0)) = r - (lo.getD 0).toNat := by
        cases c with
        | none => simp only [Option.map_none, Loc.room, idxN] at hrm ⊢; omega
        | some k => simp only [Option.map_some, Loc.room, subN, nlen] at hrm ⊢; omega
      have hval : wf σ (.sl b s (zN (lo.getD 0) z off) (idxN off (lo.getD 0)) (subN (hi.getD (nlen n)) (lo.getD 0)) (c.map fun k => subN (nlen k) (lo.getD 0))) := by
        refine ⟨hd, hs0, ?_, ?_⟩
        · rw [hroom]; simp only [subN, nlen]; omega
        · rw [hroom]
          have : (idxN off (lo.getD 0) + (r - (lo.getD 0).toNat)) = off + r := by simp only [idxN]; omega
          rw [this]; exact hfit
      refine ⟨_, w, hrun, ?_⟩
      have hv : den σ (.sl b s (zN (lo.getD 0) z off) (idxN off (lo.getD 0)) (subN (hi.getD (nlen n)) (lo.getD 0)) (c.map fun k => subN (nlen k) (lo.getD 0))) = sliced B (lo.getD 0).toNat (hi.getD n).toNat r s := by
        simp only [sliced, hcb, den, slV, hroom]
        have e1 : subN (hi.getD (nlen n)) (lo.getD 0) = (hi.getD n).toNat - (lo.getD 0).toNat := by simp only [subN, nlen]; omega
        rw [e1]
        congr 2
        by_cases he : r - (lo.getD 0).toNat = 0
        · have e2 : (r - (lo.getD 0).toNat == 0) = true := by simp [he]
          have e3 : r = (lo.getD 0).toNat := by omega
          rw [e2, if_pos e3]
          simp only [cond_true, zN]
          by_cases hl0 : lo.getD 0 = 0
          · have e4 : (r == 0) = true := by simp; omega
            rw [e4]; simp [hl0]
          · have e4 : (r == 0) = false := by simp; omega
            have e5 : (lo.getD 0 == 0) = false := by simp [hl0]
            rw [e4, e5]
        · have e2 : (r - (lo.getD 0).toNat == 0) = false := by simp; omega
          rw [e2]; rfl
      rw [← hv]
      exact post_pure hr hval
  · -- three bounds
    rename_i m0 M hcnt
    split at hcut <;> simp only [Option.some.injEq, reduceCtorEq] at hcut
    rename_i hi'
    subst hcut
    simp only at hcs hnews hfr ⊢
    obtain ⟨⟨a1, a2, a3⟩, ⟨b1, b2, b3⟩, hz, -⟩ := hcs
    have en : nlen n = (n : Int) := rfl
    try rw [en] at b3
    have hrun := res_slice (w := w) ht hs (B := B) (n := n) (r := r) h1 h2 h3 (by simp) hnr ⟨a1, by simpa using a2, by simpa using a3, by simp; omega⟩
    simp only [Option.getD_some] at hrun
    have hle : (lo.getD 0).toNat ≤ M.toNat := by omega
    have hcb := cut_base (L := σ.loc b) (s := s) (off := off) (z := z) (n := n) (r := r) (l := (lo.getD 0).toNat) (m := M.toNat) hB (by omega) hle
    have hroom : (σ.loc b).room s (idxN off (lo.getD 0)) (some (subN M (lo.getD 0))) = M.toNat - (lo.getD 0).toNat := by simp only [Loc.room, subN]; omega
    have hval : wf σ (.sl b s (zN (lo.getD 0) z off) (idxN off (lo.getD 0)) (subN hi' (lo.getD 0)) (some (subN M (lo.getD 0)))) := by
      refine ⟨hd, hs0, ?_, ?_⟩
      · rw [hroom]; simp only [subN]; omega
      · rw [hroom]
        have : (idxN off (lo.getD 0) + (M.toNat - (lo.getD 0).toNat)) * s ≤ (off + r) * s := Nat.mul_le_mul_right _ (by simp only [idxN]; omega)
        omega
    refine ⟨_, w, hrun, ?_⟩
    have hv : den σ (.sl b s (zN (lo.getD 0) z off) (idxN off (lo.getD 0)) (subN hi' (lo.getD 0)) (some (subN M (lo.getD 0)))) = sliced B (lo.getD 0).toNat hi'.toNat M.toNat s := by
      simp only [sliced, hcb, den, slV, hroom]
      have e1 : subN hi' (lo.getD 0) = hi'.toNat - (lo.getD 0).toNat := by simp only [subN]; omega
      rw [e1]
      congr 2
      by_cases he : M.toNat - (lo.getD 0).toNat = 0
      · have e2 : (M.toNat - (lo.getD 0).toNat == 0) = true := by simp [he]
        have e3 : M.toNat = (lo.getD 0).toNat := by omega
        have hzo : z = off := by
          rcases hz with h | h
          · exact h
          · omega
        rw [e2, if_pos e3]
        subst hzo
        simp only [cond_true, zN]
        cases (lo.getD 0 == 0) <;> cases (r == 0) <;> rfl
      · have e2 : (M.toNat - (lo.getD 0).toNat == 0) = false := by simp; omega
        rw [e2]; rfl
    rw [← hv]
    exact post_pure hr hval
  · simp at hcut
end
end Go.Abs
