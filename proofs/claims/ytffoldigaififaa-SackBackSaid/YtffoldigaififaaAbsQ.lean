import Derived.Test.YtffoldigaififaaAbsP
set_option linter.unusedVariables false
set_option linter.unusedSimpArgs false
/- The order of a drawn region: whatever comes first, the end is one. -/
namespace Go.Abs

theorem opA_pure {P : Program} {ρ : Operand → Option AV} {h g : List AObj} {op : Op} (hc : clsOp op = 0) : opA P ρ h op = opA P ρ g op := by
  cases op <;> first
    | (simp [clsOp] at hc; done)
    | (simp only [clsOp] at hc; done)
    | rfl
    | skip
  rename_i c
  simp only [opA]
  cases hcal : c.callee with
  | value f => rfl
  | invoke r m => rfl
  | builtin b =>
    cases evalsA ρ c.args.toList with
    | none => rfl
    | some args =>
      simp only [clsOp, hcal] at hc
      cases b <;> simp at hc
      · simp only []
        unfold builtA
        split <;> first | rfl | contradiction
      · simp only []
        unfold builtA
        split <;> first | rfl | contradiction

theorem ixA_pure {P : Program} {tm tm' : Tm} {h h' g : List AObj} {op : Op} {i : Nat} {orc orc' : List Orc} {v : AV} {cs : List Prop} (hq : ∀ {h : List AObj} {ρ : Operand → Option AV} {r : Res}, opA P ρ h op = some r → r.news = [] ∧ r.upd = [])
    (hg : ∀ {ρ : Operand → Option AV} {r : Res}, (∀ y, (∃ x, ρ y = some x) → (∃ x, evalA tm y = some x) ∨ True) → opA P ρ h op = some r → opA P ρ g op = some r)
    (hs : ixA P tm h op i orc = some (v, tm', h', orc', cs)) : ixA P tm g op i orc = some (v, tm', g, orc', cs) := by
  unfold ixA at hs ⊢
  split at hs
  · rename_i j r k n hti
    split at hs <;> simp at hs
    rename_i q hq'
    obtain ⟨rfl, rfl, rfl, rfl, rfl⟩ := hs
    obtain ⟨h1, h2⟩ := hq hq'
    rw [hg (fun _ _ => .inr trivial) hq']
    simp [h1, h2, applyUpd]
  · rename_i hno
    split at hs <;> simp at hs
    rename_i q hq'
    obtain ⟨rfl, rfl, rfl, rfl, rfl⟩ := hs
    obtain ⟨h1, h2⟩ := hq hq'
    rw [hg (fun _ _ => .inr trivial) hq']
    simp [h1, h2, applyUpd]
theorem stepA_pure {P : Program} {tm tm' : Tm} {h h' g : List AObj} {o : Oper} {orc orc' : List Orc} {v : AV} {cs : List Prop} (hc : clsOp o.op = 0)
    (hs : stepA P tm h o orc = some (v, tm', h', orc', cs)) (he : evA P tm h o orc = false) : stepA P tm g o orc = some (v, tm', g, orc', cs) := by
  have plain : ∀ {r : Res}, opA P (evalA tm) h o.op = some r → opEv P tm h o.op = false → applyUpd r.upd (g ++ r.news) = g := fun {r} h1 h2 => by
    unfold opEv at h2
    rw [h1] at h2
    simp at h2
    rw [h2.1, h2.2]; simp [applyUpd]
  have movs : ∀ {x : Nat}, movA tm h x orc = some (v, tm', h', orc', cs) → movA tm g x orc = some (v, tm', g, orc', cs) := by
    intro x hx
    unfold movA at hx ⊢
    split at hx <;> simp at hx <;> (obtain ⟨rfl, rfl, rfl, rfl, rfl⟩ := hx) <;> simp_all
  have nils : ∀ {t : TypeId} {x : Nat} {b : Bool}, opEv P tm h o.op = false → nilA P tm h o t x b orc = some (v, tm', h', orc', cs) → nilA P tm g o t x b orc = some (v, tm', g, orc', cs) := by
    intro t x b he hx
    unfold nilA at hx ⊢
    split at hx
    · simp at hx; obtain ⟨rfl, rfl, rfl, rfl, rfl⟩ := hx; rfl
    · split at hx <;> simp at hx
      rename_i r hop'
      obtain ⟨rfl, rfl, rfl, rfl, rfl⟩ := hx
      have hg : opA P (evalA tm) g o.op = some r := by rw [← opA_pure (h := h) hc]; exact hop'
      rw [hg]; simp only []; rw [plain hop' he]
  unfold stepA at hs ⊢
  unfold evA at he
  split at hs
  · rename_i c x y hop
    split at hs <;> try simp at hs
    rename_i b tm1 orc1 cs1 hdec
    split at hs <;> simp at hs
    rename_i v1 hv
    obtain ⟨rfl, rfl, rfl, rfl, rfl⟩ := hs
    rfl
  · rename_i c hop
    simp only [hop] at he hc ⊢
    split at hs
    · rename_i f hcal
      simp [clsOp, hcal] at hc
    · rename_i b hcal
      simp only [hcal] at he
      split at hs <;> simp at hs
      rename_i r hop'
      obtain ⟨rfl, rfl, rfl, rfl, rfl⟩ := hs
      have he' : opEv P tm h o.op = false := by rw [hop]; exact he
      have hg : opA P (evalA tm) g o.op = some r := by rw [← opA_pure (h := h) (by rw [hop]; exact hc)]; exact hop'
      rw [← hop, hg]
      simp only []
      rw [plain hop' he']
  · rename_i t x i hop
    refine ixA_pure opA_index (fun _ h1 => ?_) hs
    rw [← opA_pure (h := h) rfl]; exact h1
  · rename_i t x i hop
    rw [hop] at hc; simp [clsOp] at hc
  · exact movs hs
  · exact movs hs
  · rename_i hop
    simp only [hop] at he
    exact nils (by rw [hop]; exact he) hs
  · rename_i hop
    simp only [hop] at he
    exact nils (by rw [hop]; exact he) hs
  · rename_i it hop
    rw [hop] at hc; simp [clsOp] at hc
  · rename_i hnp hnc _ _ _ _ _ _ _
    split at hs <;> simp at hs
    rename_i r hop'
    obtain ⟨rfl, rfl, rfl, rfl, rfl⟩ := hs
    have hq : applyUpd r.upd (g ++ r.news) = g := by
      cases hop : o.op <;> simp only [hop] at he hnp hnc hc <;> try exact plain hop' (by rw [hop]; exact he)
      · rename_i c a b
        cases c <;> simp only at he <;> first | exact plain hop' (by rw [hop]; exact he) | exact (hnp _ _ _ rfl).elim
      · simp [clsOp] at hc
      · rw [hop] at hop'
        obtain ⟨h1, h2⟩ := opA_index hop'
        simp [h1, h2, applyUpd]
      · exact (hnc _ rfl).elim
    have hg : opA P (evalA tm) g o.op = some r := by rw [← opA_pure (h := h) hc]; exact hop'
    rw [hg]; simp only []; rw [hq]

/-- what these operands lead to is the same -/
def Agree (ρ : Operand → Option AV) (h g : List AObj) : Prop := ∀ y x b, ρ y = some x → blk1 x = some b → ∀ ob, h[b]? = some ob → g[b]? = some ob
theorem contA_mono {h g : List AObj} {s m : Nat} {w : Bool} {x : AV} {o' : AObj} {cs : List Prop} (hag : ∀ b, blk1 x = some b → ∀ ob, h[b]? = some ob → g[b]? = some ob) (hc : contA h s w x = some (o', m, cs)) : contA g s w x = some (o', m, cs) := by
  unfold contA at hc ⊢
  split at hc
  · split at hc <;> try simp at hc
    rename_i hs
    simp only [hs, if_true]
    split at hc <;> try simp at hc
    rename_i ob hob
    rw [hag _ rfl ob hob]; simpa [hs] using hc
  · split at hc <;> try simp at hc
    rename_i hs
    simp only [hs, if_true]
    split at hc <;> try simp at hc
    rename_i ob hob
    rw [hag _ rfl ob hob]; simpa [hs] using hc
  · exact hc
  · simp at hc
theorem elemA_mono {h g : List AObj} {s : Nat} {x : AV} {n : Int} {r : Res} (hag : ∀ b, blk1 x = some b → ∀ ob, h[b]? = some ob → g[b]? = some ob) (hc : elemA h s x n = some r) : elemA g s x n = some r := by
  unfold elemA at hc ⊢
  split at hc
  · split at hc <;> try simp at hc
    rename_i hs
    simp only [hs, if_true]
    split at hc <;> try simp at hc
    rename_i ob hob
    rw [hag _ rfl ob hob]; exact hc
  · split at hc <;> try simp at hc
    rename_i hs
    simp only [hs, if_true]
    split at hc <;> try simp at hc
    rename_i ob hob
    rw [hag _ rfl ob hob]; exact hc
  · simp at hc
theorem cutA_mono {h g : List AObj} {kp : Bool} {b s z off n : Nat} {c : Option Nat} {lo hi mx : Option Int} {r : Res} (hag : ∀ ob, h[b]? = some ob → g[b]? = some ob) (hq : r.news = []) (hc : cutA h kp b s z off n c lo hi mx = some r) : cutA g kp b s z off n c lo hi mx = some r := by
  unfold cutA at hc ⊢
  split at hc <;> try simp at hc
  rename_i ob hob
  rw [hag _ hob]
  simp only []
  split at hc
  · rename_i m hm
    split at hc
    · split at hc <;> simp at hc
      subst hc; simp at hq
    · rename_i hw
      exact hc
  · rename_i m M hm
    exact hc
  · simp at hc
/-- what reads memory reads the same in a heap that agrees -/
theorem opA_read {P : Program} {ρ : Operand → Option AV} {h g : List AObj} {op : Op} {r : Res} (hcl : clsOp op = 1) (hag : Agree ρ h g) (hop : opA P ρ h op = some r) (hq : r.news = []) (hu : r.upd = []) : opA P ρ g op = some r := by
  cases op <;> try (simp [clsOp] at hcl; done)
  case load t a =>
    simp only [opA] at hop ⊢
    split at hop <;> try simp at hop
    all_goals
      rename_i ha hagg hsz
      split at hop <;> try simp at hop
      rename_i ob hob
      try simp only [ha, hagg, hsz]
      rw [hag _ _ _ ha rfl ob hob]
      simpa using hop
  case convert src dst x =>
    simp only [opA] at hop ⊢
    split at hop <;> try simp at hop
    rename_i v hv
    have hb := fun b hb => hag _ _ b hv hb
    try simp only [hv]
    unfold convA at hop ⊢
    split at hop <;> try exact hop
    · rename_i e h1 h2
      split at hop <;> simp at hop
      subst hop; simp at hq
    · rename_i e h1 h2
      split at hop <;> try simp at hop
      rename_i he hs
      try simp only [he, hs]
      split at hop
      · exact hop
      · split at hop <;> try simp at hop
        rename_i hcont
        rw [contA_mono hb hcont]
        exact hop
    · split at hop <;> try simp at hop
      split at hop <;> try simp at hop
      obtain ⟨-, rfl⟩ := hop
      simp at hu
    · split at hop <;> try simp at hop
      rename_i b j hj
      split at hop <;> try simp at hop
      rename_i T wr c l ho
      simp only [hj, hb b rfl _ ho]
      simpa using hop
    · split at hop <;> try simp at hop
      rename_i b j hj
      split at hop <;> try simp at hop
      rename_i T wr c l ho
      simp only [hj, hb b rfl _ ho]
      simpa using hop
  case slice t x lo hi mx =>
    simp only [opA] at hop ⊢
    split at hop <;> try simp at hop
    rename_i v lo' hi' mx' hv h1 h2 h3
    have hb := fun b hb => hag _ _ b hv hb
    try simp only [hv, h1, h2, h3]
    unfold sliceA at hop ⊢
    split at hop <;> try exact hop
    · rename_i e b s ht
      split at hop <;> try simp at hop
      rename_i hs
      try simp only [hs, if_true]
      split at hop <;> try simp at hop
      rename_i ob hob
      rw [hb b rfl ob hob]
      simp only []
      split at hop <;> try simp at hop
      rename_i n hn
      try simp only [hn]
      exact cutA_mono (hb b rfl) hq hop
    · rename_i e b s z off n c ht
      split at hop <;> try simp at hop
      rename_i hs
      try simp only [hs, if_true]
      exact cutA_mono (hb b rfl) hq hop
    · rename_i n e b off ht
      split at hop <;> try simp at hop
      rename_i ob s hob hs
      rw [hb b rfl ob hob, hs]
      simpa using hop
  case indexAddr t x i =>
    simp only [opA] at hop ⊢
    split at hop <;> try simp at hop
    · rename_i h1 h2 h3; (try simp only [h1, h2, h3]); simpa using hop
    · rename_i h1 h2 h3; (try simp only [h1, h2, h3]); simpa using hop
    · rename_i e x' k n h1 h2 h3
      try simp only [h1, h2, h3]
      split at hop <;> try simp at hop
      rename_i s hs
      try simp only [hs]
      exact elemA_mono (fun b hb => hag _ _ b h2 hb) hop
  case call c =>
    simp only [opA] at hop ⊢
    split at hop <;> try simp at hop
    rename_i b args hc ha
    simp only [clsOp, hc] at hcl
    have key : ∀ {x}, args = [x] → ∀ b, blk1 x = some b → ∀ ob, h[b]? = some ob → g[b]? = some ob := by
      intro x hx
      subst hx
      cases hl : c.args.toList with
      | nil => rw [hl] at ha; simp [evalsA] at ha
      | cons y l =>
        rw [hl] at ha
        simp only [evalsA] at ha
        split at ha <;> simp at ha
        rename_i v vs hv hvs
        obtain ⟨rfl, rfl⟩ := ha
        exact fun b hb => hag y _ b hv hb
    try simp only [hc, ha]
    cases b <;> simp at hcl
    · -- cap
      unfold builtA at hop ⊢
      split at hop <;> try simp at hop
      all_goals try contradiction
      exact hop
    · -- len
      have hlen : ∀ ts x, args = [x] → builtA P h .len ts [x] = some r → builtA P g .len ts [x] = some r := by
        intro ts x hx hb
        cases x with
        | sw b s =>
          cases ts with
          | nil => simp [builtA] at hb
          | cons t ts =>
            cases ts with
            | cons _ _ => simp [builtA] at hb
            | nil =>
              simp only [builtA] at hb ⊢
              cases hu : P.underlying t with
              | none => simp [hu] at hb
              | some d =>
                cases d <;> simp only [hu] at hb ⊢ <;> try exact hb
                split at hb <;> try simp at hb
                rename_i ob hob
                rw [key hx b rfl ob hob]
                simpa using hb
        | v y =>
          cases ts with
          | nil => exact hb
          | cons t ts =>
            cases ts with
            | cons _ _ => exact hb
            | nil =>
              simp only [builtA] at hb ⊢
              cases hu : P.underlying t with
              | none => rw [hu] at hb; exact hb
              | some d => rw [hu] at hb; cases d <;> cases y <;> exact hb
        | _ =>
          cases ts with
          | nil => exact hb
          | cons t ts =>
            cases ts with
            | cons _ _ => exact hb
            | nil =>
              simp only [builtA] at hb ⊢
              cases hu : P.underlying t with
              | none => rw [hu] at hb; exact hb
              | some d => rw [hu] at hb; cases d <;> exact hb
      cases hargs : args with
      | nil => rw [hargs] at hop; simp [builtA] at hop
      | cons x l =>
        cases l with
        | nil => rw [hargs] at hop; exact hlen _ x hargs hop
        | cons _ _ => rw [hargs] at hop; simp [builtA] at hop
theorem stepA_read {P : Program} {tm tm' : Tm} {h h' g : List AObj} {o : Oper} {orc orc' : List Orc} {v : AV} {cs : List Prop} (hc : clsOp o.op = 1)
    (hs : stepA P tm h o orc = some (v, tm', h', orc', cs)) (he : evA P tm h o orc = false) (hag : Agree (evalA tm) h g) : stepA P tm g o orc = some (v, tm', g, orc', cs) := by
  have plain : ∀ {r : Res}, opA P (evalA tm) h o.op = some r → opEv P tm h o.op = false → opA P (evalA tm) g o.op = some r ∧ applyUpd r.upd (g ++ r.news) = g := fun {r} h1 h2 => by
    unfold opEv at h2
    rw [h1] at h2
    simp at h2
    exact ⟨opA_read hc hag h1 h2.2 h2.1, by rw [h2.1, h2.2]; simp [applyUpd]⟩
  unfold stepA at hs ⊢
  unfold evA at he
  split at hs
  · rename_i c x y hop
    rw [hop] at hc; simp [clsOp] at hc
  · rename_i c hop
    simp only [hop] at he ⊢
    split at hs
    · rename_i f hcal
      rw [hop] at hc; simp [clsOp, hcal] at hc
    · rename_i b hcal
      simp only [hcal] at he
      split at hs <;> simp at hs
      rename_i r hop'
      obtain ⟨rfl, rfl, rfl, rfl, rfl⟩ := hs
      obtain ⟨h1, h2⟩ := plain hop' (by rw [hop]; exact he)
      rw [← hop, h1]
      simp only []
      rw [h2]
  · rename_i t x i hop
    rw [hop] at hc; simp [clsOp] at hc
  · rename_i t x i hop
    unfold ixA at hs ⊢
    split at hs
    · rename_i j r k n hti
      split at hs <;> simp at hs
      rename_i q hq'
      obtain ⟨rfl, rfl, rfl, rfl, rfl⟩ := hs
      obtain ⟨h1, h2⟩ := opA_indexAddr hq'
      have hag2 : Agree (evalA (tm.set i (some (.v (.int k j))))) h g := by
        intro y z b hy hb
        refine hag y z b ?_ hb
        cases y with
        | tmp t' =>
          simp only [evalA] at hy ⊢
          by_cases hti' : t' = i
          · subst hti'
            rw [List.getElem?_set_self (List.getElem?_eq_some_iff.1 hti).1] at hy
            simp at hy; subst hy; simp [blk1, soft] at hb
          · rw [List.getElem?_set_ne (Ne.symm hti')] at hy; exact hy
        | _ => exact hy
      rw [opA_read (by rfl) hag2 hq' h1 h2]
      simp [h1, h2, applyUpd]
    · split at hs <;> simp at hs
      rename_i q hq'
      obtain ⟨rfl, rfl, rfl, rfl, rfl⟩ := hs
      obtain ⟨h1, h2⟩ := opA_indexAddr hq'
      rw [opA_read (by rfl) hag hq' h1 h2]
      simp [h1, h2, applyUpd]
  · rename_i hop
    rw [hop] at hc; simp [clsOp] at hc
  · rename_i hop
    rw [hop] at hc; simp [clsOp] at hc
  · rename_i hop
    rw [hop] at hc; simp [clsOp] at hc
  · rename_i hop
    rw [hop] at hc; simp [clsOp] at hc
  · rename_i it hop
    rw [hop] at hc; simp [clsOp] at hc
  · rename_i hnp hnc _ _ _ _ _ _ _
    split at hs <;> simp at hs
    rename_i r hop'
    obtain ⟨rfl, rfl, rfl, rfl, rfl⟩ := hs
    have key : opA P (evalA tm) g o.op = some r ∧ applyUpd r.upd (g ++ r.news) = g := by
      cases hop : o.op <;> simp only [hop] at he hnp hnc hc <;> (try rw [← hop]) <;> try exact plain hop' (by rw [hop]; exact he)
      · rename_i c a b
        cases c <;> simp only at he <;> first | exact plain hop' (by rw [hop]; exact he) | exact (hnp _ _ _ rfl).elim
      · rw [hop] at hop'
        obtain ⟨h1, h2⟩ := opA_indexAddr hop'
        exact ⟨by rw [hop]; exact opA_read (by rfl) hag hop' h1 h2, by simp [h1, h2, applyUpd]⟩
      · simp [clsOp] at hc
      · exact (hnc _ rfl).elim
    rw [key.1]; simp only []; rw [key.2]

theorem keepT_mem {keep : List Nat} : ∀ {tm : Tm} {i t : Nat} {x : AV}, (keepT keep i tm)[t]? = some (some x) → keep.any (fun k => k == i + t) = true
  | [], i, t, x, h => by simp [keepT] at h
  | y :: l, i, t, x, h => by
    cases t with
    | zero =>
      simp only [keepT, List.getElem?_cons_zero, Option.some.injEq] at h
      split at h
      · rename_i hk; exact hk
      · simp at h
    | succ t =>
      simp only [keepT, List.getElem?_cons_succ] at h
      have := keepT_mem h
      rw [show i + (t + 1) = i + 1 + t from by omega]; exact this

/-! ### the bits -/
theorem fold_bits {acc : List Nat} {j : Nat} : ∀ {es : List Edge} {s : Nat}, (es.foldl (fun s e => if Region.binds .any e then s ||| (2 ^ e.on) ||| (acc.getD e.on 0) else s) s).testBit j = true →
    s.testBit j = true ∨ ∃ e ∈ es, Region.binds .any e = true ∧ (e.on = j ∨ (acc.getD e.on 0).testBit j = true)
  | [], s, h => .inl h
  | e :: es, s, h => by
    simp only [List.foldl_cons] at h
    rcases fold_bits h with h1 | ⟨e', he, h2⟩
    · split at h1
      · rename_i hb
        simp only [Nat.testBit_or, Bool.or_eq_true] at h1
        rcases h1 with (h1 | h1) | h1
        · exact .inl h1
        · rw [Nat.testBit_two_pow] at h1
          exact .inr ⟨e, by simp, hb, .inl (by simpa using h1)⟩
        · exact .inr ⟨e, by simp, hb, .inr h1⟩
      · exact .inl h1
    · exact .inr ⟨e', by simp [he], h2⟩
theorem masks_keep : ∀ {l : List Oper} {acc : List Nat} {k : Nat}, k < acc.length → (masks l acc).getD k 0 = acc.getD k 0
  | [], acc, k, h => rfl
  | o :: l, acc, k, h => by
    simp only [masks]
    rw [masks_keep (by simp; omega)]
    simp [List.getD, List.getElem?_append_left h]
theorem masks_bit : ∀ {l : List Oper} {acc : List Nat} {k j : Nat} {o : Oper}, l[k]? = some o → ((masks l acc).getD (acc.length + k) 0).testBit j = true →
    ∃ e ∈ o.after.toList, Region.binds .any e = true ∧ (e.on = j ∨ (e.on < acc.length + k ∧ ((masks l acc).getD e.on 0).testBit j = true))
  | [], acc, k, j, o, ho, h => by simp at ho
  | o' :: l, acc, k, j, o, ho, h => by
    simp only [masks] at h ⊢
    cases k with
    | zero =>
      simp at ho; subst ho
      rw [Nat.add_zero, masks_keep (by simp)] at h
      have h' : (o'.after.toList.foldl (fun s e => if Region.binds .any e then s ||| (2 ^ e.on) ||| (acc.getD e.on 0) else s) 0).testBit j = true := by
        simpa [List.getD] using h
      rcases fold_bits h' with h1 | ⟨e, he, hb, h2⟩
      · simp at h1
      · refine ⟨e, he, hb, ?_⟩
        rcases h2 with h2 | h2
        · exact .inl h2
        · have hlt : e.on < acc.length := by
            rcases Nat.lt_or_ge e.on acc.length with h3 | h3
            · exact h3
            · rw [List.getD_eq_getElem?_getD, List.getElem?_eq_none h3] at h2; simp at h2
          refine .inr ⟨by omega, ?_⟩
          rw [masks_keep (by simp; omega)]
          simpa [List.getD, List.getElem?_append_left hlt] using h2
    | succ k =>
      have := masks_bit (acc := acc ++ [o'.after.toList.foldl (fun s e => if Region.binds .any e then s ||| (2 ^ e.on) ||| (acc.getD e.on 0) else s) 0]) (k := k) (j := j) (o := o) (by simpa using ho)
        (by rw [show acc.length + (k + 1) = (acc ++ [_]).length + k from by simp; omega] at h; exact h)
      simpa [show acc.length + (k + 1) = acc.length + 1 + k from by omega] using this
end Go.Abs
