import Derived.Test.YtffoldigaififaaAbsX
set_option linter.unusedVariables false
set_option linter.unusedSimpArgs false
namespace Go.Abs
section
variable {P : Program} {σ : Sg} {g h : List AObj} {w : World}

theorem sw_val {b s m : Nat} (e : (σ.loc b).len / s = m) : den σ (.sw b s) = .slice ((σ.loc b).base 0) m ((σ.loc b).cap / s) := by simp [den, e]
theorem All.mem {p : Prop} : ∀ {l : List Prop}, All l → p ∈ l → p
  | [], _, h => by simp at h
  | q :: l, ⟨h1, h2⟩, h => by
    rcases List.mem_cons.1 h with rfl | h
    · exact h1
    · exact All.mem h2 h

theorem appA_sound (hr : RelH P σ g w) (hg : ∀ (b : Nat) (o : AObj), h[b]? = some o → g[b]? = some o) {t u ty : TypeId} {x y : AV} {r : Res} (happ : appA P h t x y = some r) (hcs : All r.cs) (hx : wf σ x) (hy : wf σ y)
    (hu : (∃ e', P.underlying u = some (.slice e')) ∨ P.underlying u = some .string)
    (hnews : ∀ (j : Nat) (x : AObj), r.news[j]? = some x → g[h.length + j]? = some x) (hfr : ∀ j, j < r.news.length → ¬ σ.dom (h.length + j)) :
    ∃ v' w', (∀ ks, (builtin .append #[t, u] ty ks #[den σ x, den σ y]).run P w = .ok (.value v') w') ∧ Post P σ h.length g w r.val r.news r.upd v' w' := by
  unfold appA at happ
  split at happ <;> try simp at happ
  rename_i e ht
  split at happ <;> try simp at happ
  rename_i i zs hi hz
  obtain ⟨⟨hzl, hs, hb⟩, happ⟩ := happ
  split at happ
  · rename_i o' m cs hcont
    split at happ <;> try simp at happ
    rename_i hones
    have hones : o'.ones = true := by simpa using hones
    split at happ
    · -- nil
      simp only [Option.some.injEq] at happ
      subst happ
      simp only at hcs hnews hfr ⊢
      rw [All_append] at hcs
      have hc := contA_sound hr hg hcont hcs.1 hy
      have hN := hnews 0 _ rfl
      have hf := hfr 0 (by simp)
      simp only [Nat.add_zero] at hN hf
      obtain ⟨v', w', h1, h2⟩ := append_keep (P := P) (ty := ty) (B := none) (n := 0) (r := 0) (olds := []) (p := o'.reTag (tagE P e)) hr ht hu hi hz hzl hs hb hc (fun w2 _ => by simp [Builtin.firstCells]) (by simp) (Nat.le_refl _)
        (fun _ => ⟨⟨0, 0, 0, 0, true⟩, rfl⟩) (by simp) (by simpa using hc.row) (reTag_ok _ _ _ (tagE_or P e)) (reTag_wf _ _ _ hc.wfo) (by rw [Nat.zero_add]; exact hcs.2.1) (.inl rfl) hN hf
      exact ⟨v', w', h1, h2⟩
    · -- whole
      rename_i b s
      split at happ <;> try simp at happ
      rename_i hs'; subst hs'
      split at happ <;> try simp at happ
      rename_i o ho
      split at happ <;> simp at happ
      rename_i n p hwr hn hp htok
      subst happ
      simp only at hcs hnews hfr ⊢
      rw [All_append] at hcs
      have hc := contA_sound hr hg hcont hcs.1 hy
      have hgo := hg _ _ ho
      have ha := app_den (σ := σ) hp
      obtain ⟨c1, c2, c3⟩ := cnt_spec hn
      obtain ⟨hl, hat⟩ := sw_at hr hx hgo hn
      have hN := hnews 0 _ rfl
      have hf := hfr 0 (by simp)
      simp only [Nat.add_zero] at hN hf
      obtain ⟨v', w', h1, h2⟩ := append_own (P := P) (N := h.length) (ty := ty) hr ht hu hi hz hzl hs hb hc hones hat hx.1 hgo c1 c2 hwr ha.den ha.row (by
        unfold AObj.tagOk at htok ⊢; rcases ha.tag with q | q
        · simp [q]
        · rw [q.1]; exact htok) ha.tag (ha.wf (hr.wfo b o hx.1 hgo) hc.wfo) hcs.2.1 (fun he => hf (by rw [← he]; exact hx.1)) hN hf
      exact ⟨v', w', fun ks => by rw [sw_val hl]; exact h1 ks, h2⟩
    · -- a window, all that follows is its own
      rename_i b s z off n
      split at happ <;> try simp at happ
      rename_i hs'; subst hs'
      split at happ <;> try simp at happ
      rename_i o ho
      split at happ <;> try simp at happ
      rename_i q ds hwr hq
      split at happ <;> simp at happ
      rename_i p hp
      subst happ
      simp only at hcs hnews hfr ⊢
      rw [All_append, All_append] at hcs
      have hc := contA_sound hr hg hcont hcs.1 hy
      have hgo := hg _ _ ho
      have ha := app_den (σ := σ) hp
      have hwin := win_den (σ := σ) hq hcs.2.1
      have hwt := win_tag hq
      have hat := sl_at hr hx hgo hwin
      have hN := hnews 0 _ rfl
      have hf := hfr 0 (by simp)
      simp only [Nat.add_zero] at hN hf
      obtain ⟨v', w', h1, h2⟩ := append_own (P := P) (N := h.length) (ty := ty) hr ht hu hi hz hzl hs hb hc hones hat hx.1 hgo hwin.live hwin.row hwr ha.den ha.row (by unfold AObj.tagOk; rcases ha.tag with q | q <;> simp [q, hwt]) (by rcases ha.tag with q | q <;> simp [q, hwt]) (ha.wf (hwin.wf (hr.wfo b o hx.1 hgo)) hc.wfo) hcs.2.2.1 (fun he => hf (by rw [← he]; exact hx.1)) hN hf
      exact ⟨v', w', fun ks => h1 ks, h2⟩
    · -- a window without room
      rename_i b s z off n k
      split at happ <;> try simp at happ
      rename_i hs'; subst hs'
      split at happ <;> try simp at happ
      rename_i o ho
      split at happ <;> try simp at happ
      rename_i q ds hq
      split at happ <;> simp at happ
      rename_i p hp
      subst happ
      simp only at hcs hnews hfr ⊢
      rw [All_append, All_append] at hcs
      have hc := contA_sound hr hg hcont hcs.1 hy
      have hgo := hg _ _ ho
      have ha := app_den (σ := σ) hp
      have hwin := win_den (σ := σ) hq hcs.2.1
      have hwt := win_tag hq
      have hat := sl_at hr hx hgo hwin
      have hN := hnews 0 _ rfl
      have hf := hfr 0 (by simp)
      simp only [Nat.add_zero] at hN hf
      have hrk : (σ.loc b).room i.size off (some k) = k := rfl
      obtain ⟨v', w', h1, h2⟩ := append_keep (P := P) (ty := ty) hr ht hu hi hz hzl hs hb hc (fun w2 hw => by
          have := hat.first (P := P) w2 hw n (Nat.le_refl _)
          rwa [List.take_of_length_le (by simp [hwin.len])] at this) (by simp [hwin.len]) hat.le
        (fun h0 => ⟨⟨(σ.loc b).at_, (σ.loc b).off + z * i.size, 0, 0, (σ.loc b).nil⟩, by rw [hrk] at h0; subst h0; simp [Loc.base, Loc.room]⟩) ha.den ha.row (by unfold AObj.tagOk; rcases ha.tag with q | q <;> simp [q, hwt]) (ha.wf (hwin.wf (hr.wfo b o hx.1 hgo)) hc.wfo) hcs.2.2.2.1 hcs.2.2.1 hN hf
      exact ⟨v', w', fun ks => h1 ks, h2⟩
    · simp at happ
  · have keep : ∀ {B : Option Addr} {n r : Nat}, n ≤ r → (∀ ks, (builtin .append #[t, u] ty ks #[.slice B n r, .slice none 0 0]).run P w = .ok (.value (.slice B n r)) w) := fun {B n r} hnr ks => by
      have hrun := run_append_fit (P := P) (w := w) (ty := ty) (base := B) (n := n) (r := r) (m := 0) (y := .slice none 0 0) (news := []) ht hu hi (by simp [Builtin.lenOf]) (by simp [Builtin.firstCells]) (by omega)
      have hst : (putOpt B (n * i.size) []).run P w = .ok () w := by cases B <;> simp [putOpt, storeCells]
      rw [hst] at hrun
      simp only [Result.andThen] at hrun
      simp [builtin, hrun]
    split at happ
    · simp only [Option.some.injEq] at happ; subst happ
      exact ⟨_, w, keep (Nat.le_refl _), post_pure hr trivial⟩
    · rename_i b s
      split at happ <;> try simp at happ
      rename_i o ho
      split at happ <;> simp at happ
      rename_i m hm
      subst happ
      obtain ⟨hl, hat⟩ := sw_at hr hx (hg _ _ ho) hm
      refine ⟨_, w, fun ks => ?_, post_pure hr hx⟩
      rw [sw_val hl]
      exact keep hat.le ks
    · rename_i b s z off n c
      simp only [Option.some.injEq] at happ; subst happ
      exact ⟨_, w, keep hx.2.2.1, post_pure hr hx⟩
    · simp at happ

theorem copyA_sound (hr : RelH P σ g w) (hg : ∀ (b : Nat) (o : AObj), h[b]? = some o → g[b]? = some o) {t u ty : TypeId} {x y : AV} {r : Res} (happ : copyA P h t x y = some r) (hcs : All r.cs) (hx : wf σ x) (hy : wf σ y) :
    ∃ v' w', (∀ ks, (builtin .copy #[t, u] ty ks #[den σ x, den σ y]).run P w = .ok (.value v') w') ∧ Post P σ h.length g w r.val r.news r.upd v' w' := by
  have main : ∀ {e : TypeId} {i : TypeInfo} {o' o q p : AObj} {m n rr b off z : Nat} {B : Option Addr} {olds : List Value} {ds es : List Prop}, P.underlying t = some (.slice e) → P.info? e = some i → 0 < i.size →
      Cont P σ w i.size (den σ y) o' m true → SlAt σ w i.size B n rr (σ.loc b) off z b olds → σ.dom b → h[b]? = some o → o.wr = true → o'.win i.size 0 (minN m n) true = some (q, ds) → o.lay i.size off q = some (p, es) → q.ones = true → All ds → All es →
      ∃ v' w', (∀ ks, (builtin .copy #[t, u] ty ks #[.slice B n rr, den σ y]).run P w = .ok (.value v') w') ∧ Post P σ h.length g w (.v (.int .i64 (nlen (minN m n)))) [] [(b, p)] v' w' := by
    intro e i o' o q p m n rr b off z B olds ds es ht hi hs hc hat hd ho hwr hq hp hones hds hes
    have hwin := win_den (σ := σ) hq hds
    obtain ⟨k1, k2, k3, k4, k5, k6⟩ := lay_den (σ := σ) hp hes
    have hmin : Nat.min m n = minN m n := rfl
    have hfc := hc.cells w rfl (minN m n) (Nat.min_le_left _ _)
    have hqd : denO σ q = (denO σ o').take (minN m n * i.size) := by rw [hwin.den]; simp
    by_cases h0 : denO σ q = []
    · have hql : q.len = 0 := by rw [← denO_length σ, h0]; rfl
      have hst : (match B with | some a => storeCells a ((denO σ o').take (minN m n * i.size)) | none => pure ()).run P w = .ok () w := by
        rw [← hqd, h0]; cases B <;> simp [storeCells]
      have hden : denO σ p = denO σ o := by rw [k5, h0, hql]; simp
      have hrun : ∀ ks, (builtin .copy #[t, u] ty ks #[.slice B n rr, den σ y]).run P w = .ok (.value (goInt (minN m n))) w := fun ks => by
        rw [← hqd, h0] at hfc
        cases B <;> simp [builtin, Builtin.copy_, run_underlying ht, sizeOf, typeInfo, hi, hc.lenOf w, hmin, hfc, storeCells]
      refine ⟨_, w, hrun, ?_⟩
      have hval : wf σ (.v (.int .i64 (nlen (minN m n)))) := trivial
      have hb := hr.blk b o hd (hg _ _ ho) k2
      by_cases hcap : 0 < (σ.loc b).cap
      · have := post_write (P := P) (n := h.length) (w' := w) hr hd (hg _ _ ho) k2 hwr k1 k6 hcap (by
          obtain ⟨obj, r1, r2⟩ := hb.rep hcap
          obtain ⟨a, tt, fr, rfl, r3, r4, r5⟩ := (Rep.row k3).1 r2
          exact ⟨_, r1, (Rep.row (by rw [k1.row]; exact k3)).2 ⟨a, tt, fr, rfl, fun _ => r3 hwr, ⟨r4.1, by rw [k1.tag]; exact r4.2⟩, by rw [hden]; exact r5⟩⟩) (fun _ _ => rfl) rfl rfl rfl rfl hval
        exact this
      · -- no cells at all: the object stays as it was told
        refine post_mk hr ⟨[], rfl, by rw [Sg.more_nil]; rfl, by rw [Sg.more_nil]; exact hval, ?_, Frm.refl _ _, ?_, ?_⟩
        · rw [Sg.more_nil]
          refine ⟨fun k hk => by simpa [applyUpd] using hr.lt k hk, ?_, ?_, ?_⟩
          · intro k z hkd hkx hxl
            rcases set_get _ _ _ hkx with ⟨rfl, rfl, -⟩ | ⟨hne, hx⟩
            · exact ⟨by rw [k1.len]; exact hb.len, hb.le, hb.nil, fun h => absurd h hcap, fun h => hb.it (by rw [← k1.row]; exact h)⟩
            · exact hr.blk k z hkd hx hxl
          · intro k k' z z' hkd hkd' hx hx' hlx hlx' c1 c2 hwx he
            rcases set_get _ _ _ hx with ⟨rfl, rfl, -⟩ | ⟨hne, h1⟩
            · exact absurd c1 hcap
            · rcases set_get _ _ _ hx' with ⟨rfl, rfl, -⟩ | ⟨hne', h2⟩
              · exact absurd c2 hcap
              · exact hr.inj _ _ z z' hkd hkd' h1 h2 hlx hlx' c1 c2 hwx he
          · intro k z hkd hx
            rcases set_get _ _ _ hx with ⟨rfl, rfl, -⟩ | ⟨hne, h1⟩
            · exact k6
            · exact hr.wfo k z hkd h1
        · rw [Sg.more_nil]
          rintro r ⟨k, z, hkd, hx, hlx, hc, rfl⟩
          rcases set_get _ _ _ hx with ⟨rfl, rfl, -⟩ | ⟨hne, h1⟩
          · exact absurd hc hcap
          · exact .inl ⟨k, z, hkd, h1, hlx, hc, rfl⟩
        · rw [Sg.more_nil]
          rintro r ⟨k, z, hkd, hx, hlx, hc, hw, rfl⟩
          rcases set_get _ _ _ hx with ⟨rfl, rfl, -⟩ | ⟨hne, h1⟩
          · exact absurd hc hcap
          · exact .inl ⟨k, z, hkd, h1, hlx, hc, hw, rfl⟩
    · have hqn : 0 < minN m n := by
        rcases Nat.eq_zero_or_pos (minN m n) with h1 | h1
        · exact absurd (by rw [hqd, h1]; simp) h0
        · exact h1
      have hn0 : 0 < n := Nat.lt_of_lt_of_le hqn (Nat.min_le_right _ _)
      have hrr : (rr == 0) = false := by have := hat.le; simp; omega
      have hnil : (σ.loc b).nil = false := by
        cases hn : (σ.loc b).nil with
        | false => rfl
        | true =>
          have h1 := hat.nil hn
          have h2 := hat.fit
          have h3 := hat.le
          have h4 : 1 * i.size ≤ (off + rr) * i.size := Nat.mul_le_mul_right _ (by omega)
          omega
      have hB : B = some ⟨σ.at_ b, (σ.loc b).off + off * i.size, none⟩ := by rw [hat.base, hrr]; simp [Loc.base, hnil]
      obtain ⟨w', h1, h2⟩ := write_row (P := P) (n := h.length) (val := .v (.int .i64 (nlen (minN m n)))) hr hd (hg _ _ ho) k2 k3 hwr (off := off * i.size) (vs := denO σ q) (by simpa using k4) h0 (ones_den hones) k1 k6 (by simpa using k5) trivial
      refine ⟨_, w', fun ks => ?_, h2⟩
      rw [← hqd] at hfc
      simp [builtin, Builtin.copy_, run_underlying ht, sizeOf, typeInfo, hi, hc.lenOf w, hmin, hfc, hB, h1, den, goInt, nlen]
  unfold copyA at happ
  split at happ <;> try simp at happ
  rename_i e ht
  split at happ <;> try simp at happ
  rename_i i hi
  obtain ⟨hs, happ⟩ := happ
  split at happ
  · rename_i b s o' m cs hcont
    split at happ <;> try simp at happ
    rename_i hs'; subst hs'
    split at happ <;> try simp at happ
    rename_i o ho
    split at happ <;> try simp at happ
    rename_i n hwr hn
    split at happ <;> try simp at happ
    rename_i q ds hq
    split at happ <;> try simp at happ
    rename_i p es hp
    obtain ⟨hones, rfl⟩ := happ
    simp only at hcs ⊢
    rw [All_append, All_append] at hcs
    have hc := contA_sound hr hg hcont hcs.1 hy
    obtain ⟨hl, hat⟩ := sw_at hr hx (hg _ _ ho) hn
    rw [sw_val hl]
    exact main ht hi hs hc hat hx.1 ho hwr hq hp hones hcs.2.1 hcs.2.2
  · rename_i b s z off n c o' m cs hcont
    split at happ <;> try simp at happ
    rename_i hs'; subst hs'
    split at happ <;> try simp at happ
    rename_i o ho
    split at happ <;> try simp at happ
    rename_i hwr
    split at happ <;> try simp at happ
    rename_i q0 ds0 hq0
    split at happ <;> try simp at happ
    rename_i q ds hq
    split at happ <;> try simp at happ
    rename_i p es hp
    obtain ⟨hones, rfl⟩ := happ
    simp only at hcs ⊢
    rw [All_append, All_append, All_append] at hcs
    have hc := contA_sound hr hg hcont hcs.1 hy
    have hwin := win_den (σ := σ) hq0 hcs.2.1
    have hat := sl_at hr hx (hg _ _ ho) hwin
    exact main ht hi hs hc hat hx.1 ho hwr hq hp hones hcs.2.2.1 hcs.2.2.2
  · simp at happ
end
end Go.Abs
