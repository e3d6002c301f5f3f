import Derived.Test.YtfihmphhklplnaaAbsP
set_option linter.unusedVariables false
set_option linter.unusedSimpArgs false
/- The order of a drawn region: whatever comes first, the end is one. -/
namespace Go.Abs

theorem opA_pure {P : Program} {ρ : Operand → Option AV} {h g : List AObj} {op : Op} (hc : clsOp op = 0) : opA P ρ h op = opA P ρ g op := by
  cases op <;> simp only [clsOp, reduceCtorEq, Nat.succ_ne_self] at hc <;> try rfl
  all_goals try (simp at hc; done)

theorem stepA_pure {P : Program} {tm tm' : Tm} {h h' g : List AObj} {o : Oper} {orc orc' : List Orc} {v : AV} {cs : List Prop} (hc : clsOp o.op = 0)
    (hs : stepA P tm h o orc = some (v, tm', h', orc', cs)) (he : evA P tm h o orc = false) : stepA P tm g o orc = some (v, tm', g, orc', cs) := by
  have plain : ∀ {r : Res}, opA P (evalA tm) h o.op = some r → opEv P tm h o.op = false → applyUpd r.upd (g ++ r.news) = g := fun {r} h1 h2 => by
    unfold opEv at h2
    rw [h1] at h2
    simp at h2
    rw [h2.1, h2.2]; simp [applyUpd]
  unfold stepA at hs ⊢
  unfold evA at he
  split at hs
  · rename_i c x y hop
    split at hs <;> try simp at hs
    rename_i b tm1 orc1 cs1 hdec
    split at hs <;> simp at hs
    rename_i v1 hv
    obtain ⟨rfl, rfl, rfl, rfl, rfl⟩ := hs
    rfl
  · rename_i c hop
    simp only [hop] at he hc ⊢
    split at hs
    · rename_i f hcal
      simp [clsOp, hcal] at hc
    · rename_i b hcal
      simp only [hcal] at he
      split at hs <;> simp at hs
      rename_i r hop'
      obtain ⟨rfl, rfl, rfl, rfl, rfl⟩ := hs
      have he' : opEv P tm h o.op = false := by rw [hop]; exact he
      have hg : opA P (evalA tm) g o.op = some r := by rw [← opA_pure (h := h) (by rw [hop]; exact hc)]; exact hop'
      rw [← hop, hg]
      simp only []
      rw [plain hop' he']
  · rename_i hnp hnc
    split at hs <;> simp at hs
    rename_i r hop'
    obtain ⟨rfl, rfl, rfl, rfl, rfl⟩ := hs
    have he' : opEv P tm h o.op = false := by
      cases hop : o.op <;> simp only [hop] at he hnp hnc <;> try exact he
      · rename_i c a b
        cases c <;> simp only at he <;> first | exact he | exact (hnp _ _ _ rfl).elim
      · exact (hnc _ rfl).elim
    have hg : opA P (evalA tm) g o.op = some r := by rw [← opA_pure (h := h) hc]; exact hop'
    rw [hg]; simp only []; rw [plain hop' he']

theorem stepA_load {P : Program} {tm tm' : Tm} {h h' g : List AObj} {o : Oper} {orc orc' : List Orc} {v : AV} {cs : List Prop} {t : TypeId} {x : Operand} (hop : o.op = .load t x)
    (hs : stepA P tm h o orc = some (v, tm', h', orc', cs)) (hag : ∀ b off, evalA tm x = some (.ptr b off) → ∀ ob, h[b]? = some ob → g[b]? = some ob) :
    stepA P tm g o orc = some (v, tm', g, orc', cs) := by
  unfold stepA at hs ⊢
  simp only [hop] at hs ⊢
  split at hs <;> simp at hs
  rename_i r hop'
  obtain ⟨rfl, rfl, rfl, rfl, rfl⟩ := hs
  have hg : opA P (evalA tm) g (.load t x) = some r ∧ r.upd = [] ∧ r.news = [] := by
    simp only [opA] at hop' ⊢
    split at hop'
    · rename_i b off n h1 h2 h3
      split at hop' <;> try simp at hop'
      rename_i ob hb
      rw [hag _ _ h1 ob hb]
      simp only []
      split at hop' <;> try simp at hop'
      rename_i l cs hl
      obtain ⟨hlv, rfl⟩ := hop'
      simp [hl, hlv]
    · rename_i b off n h1 h2 h3
      split at hop' <;> try simp at hop'
      rename_i ob hb
      rw [hag _ _ h1 ob hb]
      simp only []
      split at hop' <;> simp at hop'
      rename_i l cs hl
      subst hop'
      simp [hl]
    · simp at hop'
  rw [hg.1]
  simp [hg.2.1, hg.2.2, applyUpd]

theorem keepT_mem {keep : List Nat} : ∀ {tm : Tm} {i t : Nat} {x : AV}, (keepT keep i tm)[t]? = some (some x) → keep.any (fun k => k == i + t) = true
  | [], i, t, x, h => by simp [keepT] at h
  | y :: l, i, t, x, h => by
    cases t with
    | zero =>
      simp only [keepT, List.getElem?_cons_zero, Option.some.injEq] at h
      split at h
      · rename_i hk; exact hk
      · simp at h
    | succ t =>
      simp only [keepT, List.getElem?_cons_succ] at h
      have := keepT_mem h
      rw [show i + (t + 1) = i + 1 + t from by omega]; exact this

/-! ### the bits -/
theorem fold_bits {acc : List Nat} {j : Nat} : ∀ {es : List Edge} {s : Nat}, (es.foldl (fun s e => if Region.binds .any e then s ||| (2 ^ e.on) ||| (acc.getD e.on 0) else s) s).testBit j = true →
    s.testBit j = true ∨ ∃ e ∈ es, Region.binds .any e = true ∧ (e.on = j ∨ (acc.getD e.on 0).testBit j = true)
  | [], s, h => .inl h
  | e :: es, s, h => by
    simp only [List.foldl_cons] at h
    rcases fold_bits h with h1 | ⟨e', he, h2⟩
    · split at h1
      · rename_i hb
        simp only [Nat.testBit_or, Bool.or_eq_true] at h1
        rcases h1 with (h1 | h1) | h1
        · exact .inl h1
        · rw [Nat.testBit_two_pow] at h1
          exact .inr ⟨e, by simp, hb, .inl (by simpa using h1)⟩
        · exact .inr ⟨e, by simp, hb, .inr h1⟩
      · exact .inl h1
    · exact .inr ⟨e', by simp [he], h2⟩
theorem masks_keep : ∀ {l : List Oper} {acc : List Nat} {k : Nat}, k < acc.length → (masks l acc).getD k 0 = acc.getD k 0
  | [], acc, k, h => rfl
  | o :: l, acc, k, h => by
    simp only [masks]
    rw [masks_keep (by simp; omega)]
    simp [List.getD, List.getElem?_append_left h]
theorem masks_bit : ∀ {l : List Oper} {acc : List Nat} {k j : Nat} {o : Oper}, l[k]? = some o → ((masks l acc).getD (acc.length + k) 0).testBit j = true →
    ∃ e ∈ o.after.toList, Region.binds .any e = true ∧ (e.on = j ∨ (e.on < acc.length + k ∧ ((masks l acc).getD e.on 0).testBit j = true))
  | [], acc, k, j, o, ho, h => by simp at ho
  | o' :: l, acc, k, j, o, ho, h => by
    simp only [masks] at h ⊢
    cases k with
    | zero =>
      simp at ho; subst ho
      rw [Nat.add_zero, masks_keep (by simp)] at h
      have h' : (o'.after.toList.foldl (fun s e => if Region.binds .any e then s ||| (2 ^ e.on) ||| (acc.getD e.on 0) else s) 0).testBit j = true := by
        simpa [List.getD] using h
      rcases fold_bits h' with h1 | ⟨e, he, hb, h2⟩
      · simp at h1
      · refine ⟨e, he, hb, ?_⟩
        rcases h2 with h2 | h2
        · exact .inl h2
        · have hlt : e.on < acc.length := by
            rcases Nat.lt_or_ge e.on acc.length with h3 | h3
            · exact h3
            · rw [List.getD_eq_getElem?_getD, List.getElem?_eq_none h3] at h2; simp at h2
          refine .inr ⟨by omega, ?_⟩
          rw [masks_keep (by simp; omega)]
          simpa [List.getD, List.getElem?_append_left hlt] using h2
    | succ k =>
      have := masks_bit (acc := acc ++ [o'.after.toList.foldl (fun s e => if Region.binds .any e then s ||| (2 ^ e.on) ||| (acc.getD e.on 0) else s) 0]) (k := k) (j := j) (o := o) (by simpa using ho)
        (by rw [show acc.length + (k + 1) = (acc ++ [_]).length + k from by simp; omega] at h; exact h)
      simpa [show acc.length + (k + 1) = acc.length + 1 + k from by omega] using this
end Go.Abs
