import Derived.Test.YtmaalibjfjokeaaAbsR
set_option linter.unusedVariables false
set_option linter.unusedSimpArgs false
namespace Go.Abs
section
variable {P : Program} {ops : Array Oper} {R : List DRec} {tm0 tmF : Tm} {h0 hF : List AObj}

theorem putT_length (tm : Tm) (d : Option Tmp) (v : AV) : (putT tm d v).length = tm.length := by cases d <;> simp [putT]

/-- slots and heap, as the text has them before operation k -/
theorem Reg.slots (g : Reg P ops R tm0 tmF h0 hF) : ∀ k, k ≤ ops.size → (tmAt R tmF k).length = tm0.length ∧ ∀ t, t < tm0.length →
    (∀ j o r, j < k → ops[j]? = some o → R[j]? = some r → o.dst = some t → (tmAt R tmF k)[t]? = some (some r.v)) ∧
    ((∀ j o, j < k → ops[j]? = some o → o.dst ≠ some t) → (tmAt R tmF k)[t]? = tm0[t]?) := by
  intro k
  induction k with
  | zero => intro _; rw [g.tm0]; exact ⟨rfl, fun t ht => ⟨fun j o r hj => by omega, fun _ => rfl⟩⟩
  | succ k ih =>
    intro hk
    obtain ⟨i1, i2⟩ := ih (by omega)
    have ho : ops[k]? = some ops[k] := Array.getElem?_eq_getElem (by omega)
    obtain ⟨r, hr, hf⟩ := g.fact k _ ho
    have htm : tmAt R tmF k = r.tm := by simp [tmAt, hr]
    have hnext := hf.tmn
    rw [← htm] at hnext
    refine ⟨by rw [hnext, putT_length]; exact i1, fun t ht => ⟨fun j o r' hj hoj hrj hd => ?_, fun hno => ?_⟩⟩
    · by_cases hjk : j = k
      · subst hjk
        rw [ho] at hoj; obtain rfl := Option.some.inj hoj
        rw [hr] at hrj; obtain rfl := Option.some.inj hrj
        rw [hnext, hd]
        simp only [putT]
        rw [List.getElem?_set_self (by omega)]
      · have h1 := (i2 t ht).1 j o r' (by omega) hoj hrj hd
        rw [hnext]
        have hne : ops[k].dst ≠ some t := g.uniq j k o _ t hoj ho hjk hd
        cases hdk : ops[k].dst with
        | none => exact h1
        | some d =>
          simp only [putT]
          rw [List.getElem?_set_ne (fun e => hne (by rw [hdk, e]))]; exact h1
    · have h1 := (i2 t ht).2 (fun j o hj hoj => hno j o (by omega) hoj)
      rw [hnext]
      have hne := hno k _ (by omega) ho
      cases hdk : ops[k].dst with
      | none => exact h1
      | some d =>
        simp only [putT]
        rw [List.getElem?_set_ne (fun e => hne (by rw [hdk, e]))]; exact h1

def Ev (R : List DRec) (k : Nat) : Prop := ∃ r, R[k]? = some r ∧ r.ev = true
def Wr (R : List DRec) (k : Nat) : Prop := ∃ r, R[k]? = some r ∧ r.wr = true

theorem Reg.ev_of_wr (g : Reg P ops R tm0 tmF h0 hF) {k : Nat} (h : Wr R k) : Ev R k := by
  obtain ⟨r, hr, hw⟩ := h
  have hk : k < ops.size := by rw [← g.len]; exact (List.getElem?_eq_some_iff.1 hr).1
  obtain ⟨r', hr', hf⟩ := g.fact k _ (Array.getElem?_eq_getElem hk)
  rw [hr] at hr'; obtain rfl := Option.some.inj hr'
  cases hrun : r.run with
  | false => rw [(hf.skip hrun).2.2.2] at hw; simp at hw
  | true =>
    obtain ⟨orc, v0, tm1, orc1, cs2, -, -, -, he, hw', -⟩ := hf.run hrun
    exact ⟨r, hr, by rw [he, ← hw', hw]; simp⟩

theorem Reg.heap_same (g : Reg P ops R tm0 tmF h0 hF) {k : Nat} (hk : k < ops.size) (hn : ¬ Ev R k) : hAt R hF (k + 1) = hAt R hF k := by
  obtain ⟨r, hr, hf⟩ := g.fact k _ (Array.getElem?_eq_getElem hk)
  have hh : hAt R hF k = r.h := by simp [hAt, hr]
  have hev : r.ev = false := by cases h : r.ev with | false => rfl | true => exact absurd ⟨r, hr, h⟩ hn
  rw [hh]
  cases hrun : r.run with
  | false => exact (hf.skip hrun).1
  | true =>
    obtain ⟨orc, v0, tm1, orc1, cs2, h1, -, -, he, -⟩ := hf.run hrun
    rw [hev] at he
    have : evA P (keepT (looksL ops.toList ops[k]) 0 r.tm) r.h ops[k] orc = false := by
      cases h : evA P (keepT (looksL ops.toList ops[k]) 0 r.tm) r.h ops[k] orc with
      | false => rfl
      | true => rw [h] at he; simp at he
    exact step_quiet h1 this
theorem Reg.heap_app (g : Reg P ops R tm0 tmF h0 hF) {k : Nat} (hk : k < ops.size) (hn : ¬ Wr R k) : ∃ news, hAt R hF (k + 1) = hAt R hF k ++ news := by
  obtain ⟨r, hr, hf⟩ := g.fact k _ (Array.getElem?_eq_getElem hk)
  have hh : hAt R hF k = r.h := by simp [hAt, hr]
  have hwr : r.wr = false := by cases h : r.wr with | false => rfl | true => exact absurd ⟨r, hr, h⟩ hn
  rw [hh]
  cases hrun : r.run with
  | false => exact ⟨[], by rw [(hf.skip hrun).1]; simp⟩
  | true =>
    obtain ⟨orc, v0, tm1, orc1, cs2, h1, -, -, -, hw, -⟩ := hf.run hrun
    rw [hwr] at hw
    exact step_app h1 hw.symm
theorem Reg.heap_range (g : Reg P ops R tm0 tmF h0 hF) {a : Nat} : ∀ d, a + d ≤ ops.size → (∀ i, a ≤ i → i < a + d → ¬ Ev R i) → hAt R hF (a + d) = hAt R hF a
  | 0, _, _ => rfl
  | d + 1, hd, hn => by
    rw [← Nat.add_assoc, g.heap_same (by omega) (hn (a + d) (by omega) (by omega)), g.heap_range d (by omega) (fun i h1 h2 => hn i h1 (by omega))]
theorem Reg.heap_range2 (g : Reg P ops R tm0 tmF h0 hF) {a : Nat} : ∀ d, a + d ≤ ops.size → (∀ i, a ≤ i → i < a + d → ¬ Wr R i) → ∃ news, hAt R hF (a + d) = hAt R hF a ++ news
  | 0, _, _ => ⟨[], by simp⟩
  | d + 1, hd, hn => by
    obtain ⟨n1, h1⟩ := g.heap_app (k := a + d) (by omega) (hn (a + d) (by omega) (by omega))
    obtain ⟨n2, h2⟩ := g.heap_range2 d (by omega) (fun i h1 h2 => hn i h1 (by omega))
    exact ⟨n2 ++ n1, by rw [← Nat.add_assoc, h1, h2]; simp⟩
theorem Reg.heap_at (g : Reg P ops R tm0 tmF h0 hF) {k b : Nat} (hk : k < ops.size) (hb : b < (hAt R hF k).length) (hn : ¬ Wr R k ∨ ∃ r l, R[k]? = some r ∧ r.ws = some l ∧ b ∉ l) :
    (hAt R hF (k + 1))[b]? = (hAt R hF k)[b]? ∧ b < (hAt R hF (k + 1)).length := by
  rcases hn with hn | ⟨r', l, hr', hw, hbl⟩
  · obtain ⟨news, e⟩ := g.heap_app hk hn
    rw [e]
    exact ⟨List.getElem?_append_left hb, by rw [List.length_append]; omega⟩
  · obtain ⟨r, hr, hf⟩ := g.fact k _ (Array.getElem?_eq_getElem hk)
    rw [hr] at hr'; obtain rfl := Option.some.inj hr'
    have hh : hAt R hF k = r.h := by simp [hAt, hr]
    rw [hh] at hb ⊢
    cases hrun : r.run with
    | false => rw [(hf.skip hrun).1]; exact ⟨rfl, hb⟩
    | true =>
      obtain ⟨orc, v0, tm1, orc1, cs2, h1, -, -, -, -, h2, -⟩ := hf.run hrun
      rw [hw] at h2
      exact ⟨wsA_keeps h1 h2.symm hbl hb, Nat.lt_of_lt_of_le hb (stepA_length h1)⟩
theorem Reg.heap_range3 (g : Reg P ops R tm0 tmF h0 hF) {a b : Nat} (hb : b < (hAt R hF a).length) : ∀ d, a + d ≤ ops.size → (∀ i, a ≤ i → i < a + d → ¬ Wr R i ∨ ∃ r l, R[i]? = some r ∧ r.ws = some l ∧ b ∉ l) →
    (hAt R hF (a + d))[b]? = (hAt R hF a)[b]? ∧ b < (hAt R hF (a + d)).length
  | 0, _, _ => ⟨rfl, hb⟩
  | d + 1, hd, hn => by
    obtain ⟨i1, i2⟩ := g.heap_range3 hb d (by omega) (fun i h1 h2 => hn i h1 (by omega))
    obtain ⟨j1, j2⟩ := g.heap_at (k := a + d) (by omega) i2 (hn (a + d) (by omega) (by omega))
    exact ⟨by rw [← Nat.add_assoc, j1, i1], by rw [← Nat.add_assoc]; exact j2⟩
theorem rdOk_some {n0 : Nat} {rd ws : Option (List Nat)} {wr : Bool} (h : rdOk n0 rd ws wr = true) : ∃ ι, rd = some ι ∧ ∀ b ∈ ι, b < n0 := by
  unfold rdOk at h
  split at h
  · rename_i ι
    simp only [Bool.and_eq_true, List.all_eq_true, decide_eq_true_eq] at h
    exact ⟨ι, rfl, h.1⟩
  · simp at h
theorem rdOk_apart {n0 : Nat} {rd ws : Option (List Nat)} {ι : List Nat} (hr : rd = some ι) (h : rdOk n0 rd ws true = true) : ∀ b ∈ ι, ∃ l, ws = some l ∧ b ∉ l := by
  intro b hb
  subst hr
  unfold rdOk at h
  simp only [Bool.not_true, Bool.false_or, Bool.and_eq_true] at h
  obtain ⟨-, h2⟩ := h
  split at h2
  · rename_i l
    rw [List.all_eq_true] at h2
    exact ⟨l, rfl, by simpa using h2 b hb⟩
  · simp at h2
theorem rdA_cls {o : Oper} {orc : List Orc} {ι : List Nat} (h : rdA o orc = some ι) : clsOp o.op = 2 := by
  unfold rdA at h
  split at h <;> try simp at h
  rename_i c hop
  split at h <;> try simp at h
  rename_i f hcal
  simp [hop, clsOp, hcal]
theorem blk1_soft (x : AV) : blk1 (soft x) = blk1 x := by cases x <;> rfl
theorem blk1_val (v : Value) : blk1 (ofVal v) = none := by cases v <;> rfl
theorem apart_out {tm : Tm} {l : List Nat} (h : apart tm l = true) {y : Operand} {x : AV} {b : Nat} (hx : evalA tm y = some x) (hb : blk1 x = some b) : b ∉ l := by
  cases y with
  | tmp t =>
    simp only [evalA] at hx
    split at hx <;> simp at hx
    rename_i x' hx'
    subst hx
    rw [blk1_soft] at hb
    have := List.all_eq_true.1 h _ (List.mem_of_getElem? hx')
    simp only [hb] at this
    simpa using this
  | const v => simp [evalA] at hx; subst hx; rw [blk1_val] at hb; simp at hb
  | func f => simp [evalA] at hx; subst hx; simp [blk1] at hb
  | global g => simp [evalA] at hx
theorem Reg.next_ev (g : Reg P ops R tm0 tmF h0 hF) : ∀ d k, k + d = ops.size → ∃ q, k ≤ q ∧ q ≤ ops.size ∧ (∀ i, k ≤ i → i < q → ¬ Ev R i) ∧ (q < ops.size → Ev R q)
  | 0, k, h => ⟨k, by omega, by omega, fun i h1 h2 => by omega, fun h1 => by omega⟩
  | d + 1, k, h => by
    by_cases he : Ev R k
    · exact ⟨k, by omega, by omega, fun i h1 h2 => by omega, fun _ => he⟩
    · obtain ⟨q, h1, h2, h3, h4⟩ := g.next_ev d (k + 1) (by omega)
      refine ⟨q, by omega, h2, fun i h5 h6 => ?_, h4⟩
      by_cases hik : i = k
      · exact hik ▸ he
      · exact h3 i (by omega) h6

theorem Reg.len_mono (g : Reg P ops R tm0 tmF h0 hF) : ∀ k, k ≤ ops.size → h0.length ≤ (hAt R hF k).length
  | 0, _ => by rw [g.h0]; exact Nat.le_refl _
  | k + 1, hk => by
    have ih := g.len_mono k (by omega)
    obtain ⟨r, hr, hf⟩ := g.fact k _ (Array.getElem?_eq_getElem (by omega))
    have hh : hAt R hF k = r.h := by simp [hAt, hr]
    rw [hh] at ih
    cases hrun : r.run with
    | false => rw [(hf.skip hrun).1]; exact ih
    | true =>
      obtain ⟨orc, v0, tm1, orc1, cs2, h1, -⟩ := hf.run hrun
      exact Nat.le_trans ih (stepA_length h1)
theorem cls_read {op : Op} (h0 : clsOp op ≠ 0) (h2 : clsOp op ≠ 2) : clsOp op = 1 := by
  have : clsOp op ≤ 2 := by
    unfold clsOp
    split <;> try decide
    split <;> decide
  omega
theorem blk1_dom {σ : Sg} {x : AV} {b : Nat} (h : blk1 x = some b) (hw : wf σ x) : σ.dom b := by
  cases x <;> simp [blk1] at h <;> subst h
  · exact hw
  · exact hw
  · exact hw.1
  · exact hw.1
  · exact hw.1
/-- what holds while a drawn region is under way -/
structure Inv (P : Program) (ops : Array Oper) (R : List DRec) (tm0 tmF : Tm) (h0 hF : List AObj) (σ0 : Sg) (w0 : World) (l : Array Bool) (a : Act) (w : World) (σ : Sg) (q : Nat) : Prop where
  size : l.size = ops.size
  closed : ∀ (k : Nat) (o : Oper), ops[k]? = some o → Lst l k → ∀ e ∈ o.after.toList, Region.binds .any e = true → Lst l e.on
  qle : q ≤ ops.size
  done : ∀ k, k < q → Ev R k → Lst l k
  todo : ∀ k, q ≤ k → Ev R k → ¬ Lst l k
  qev : q < ops.size → Ev R q
  rel : RelH P σ (hAt R hF q) w
  full : Full σ (hAt R hF q)
  went : Went P σ0 h0 w0 σ (hAt R hF q) w
  keeps : Keeps h0.length σ0 σ
  ad : a.defers = []
  asz : a.tmps.size = tm0.length
  sl1 : ∀ (t j : Nat) (o : Oper) (r : DRec), t < tm0.length → ops[j]? = some o → R[j]? = some r → o.dst = some t → Lst l j → a.tmps[t]? = some (den σ r.v) ∧ wf σ r.v
  sl0 : ∀ (t : Nat), t < tm0.length → (∀ (j : Nat) (o : Oper), ops[j]? = some o → o.dst = some t → ¬ Lst l j) → ∀ x, tm0[t]? = some (some x) → a.tmps[t]? = some (den σ x) ∧ wf σ x

theorem lst_set {l : Array Bool} {k i : Nat} (hk : k < l.size) : Lst (l.setIfInBounds k true) i ↔ Lst l i ∨ i = k := by
  unfold Lst
  by_cases h : k = i
  · subst h
    rw [Array.getElem?_setIfInBounds_self_of_lt hk]; simp
  · rw [Array.getElem?_setIfInBounds_ne h]
    constructor
    · exact fun h1 => .inl h1
    · rintro (h1 | h1)
      · exact h1
      · exact absurd h1.symm h

theorem Inv.ops_ok (g : Reg P ops R tm0 tmF h0 hF) {σ0 : Sg} {w0 : World} {l : Array Bool} {a : Act} {w : World} {σ : Sg} {q k : Nat} {o : Oper} (iv : Inv P ops R tm0 tmF h0 hF σ0 w0 l a w σ q)
    (ho : ops[k]? = some o) (hnk : ¬ Lst l k) (hpre : ∀ e ∈ o.after.toList, Region.binds .any e = true → Lst l e.on) {Q : Exit → Act → World → Prop} {K : Act → World → Prop}
    (hK : ∀ a' w' σ' q', Inv P ops R tm0 tmF h0 hF σ0 w0 (l.setIfInBounds k true) a' w' σ' q' → K a' w') : wpOp P ops Q k K a w := by
  have hk : k < ops.size := (Array.getElem?_eq_some_iff.1 ho).1
  have hkl : k < l.size := by rw [iv.size]; exact hk
  obtain ⟨r, hr, hf⟩ := g.fact k o ho
  have htm : tmAt R tmF k = r.tm := by simp [tmAt, hr]
  have hh : hAt R hF k = r.h := by simp [hAt, hr]
  -- what is before is done; what is done is not behind
  have before : ∀ j, bef (masks ops.toList []) k j = true → Lst l j ∧ j < k := fun j hb => pre_closed iv.closed g.low k j o ho hpre hb
  have behind : ∀ j, j < ops.size → bef (masks ops.toList []) j k = true → k < j ∧ ¬ Lst l j := fun j hj hb => by
    have hoj : ops[j]? = some ops[j] := Array.getElem?_eq_getElem hj
    have hlt := (pre_closed (S := fun _ => True) (fun _ _ _ _ _ _ _ => trivial) g.low j k ops[j] hoj (fun _ _ _ => trivial) hb).2
    refine ⟨hlt, fun hl => hnk ?_⟩
    exact (pre_closed iv.closed g.low j k ops[j] hoj (iv.closed j _ hoj hl) hb).1
  -- the slots that it looks at
  have htr : TR σ (keepT (looksL ops.toList o) 0 r.tm) a := by
    refine ⟨iv.ad, by rw [keepT_length, ← htm, (g.slots k (by omega)).1]; exact iv.asz, fun t x hx => ?_⟩
    have hmem := keepT_mem hx
    rw [Nat.zero_add, List.any_eq_true] at hmem
    obtain ⟨t', ht', hte⟩ := hmem
    have ht' : t ∈ looksL ops.toList o := by have : t' = t := by simpa using hte
                                             exact this ▸ ht'
    have hx' := keepT_get hx
    rw [← htm] at hx'
    have htl : t < tm0.length := by rw [← (g.slots k (by omega)).1]; exact (List.getElem?_eq_some_iff.1 hx').1
    obtain ⟨s1, s2⟩ := (g.slots k (by omega)).2 t htl
    by_cases hw : ∃ j oj, ops[j]? = some oj ∧ oj.dst = some t ∧ Lst l j
    · obtain ⟨j, oj, hoj, hdj, hlj⟩ := hw
      have hjk : k ≠ j := fun e => hnk (e ▸ hlj)
      have hjs : j < ops.size := (Array.getElem?_eq_some_iff.1 hoj).1
      have hlt : j < k := by
        rcases g.look k j o oj t ho hoj hjk hdj ht' with h1 | h1
        · exact (before j h1).2
        · exact absurd hlj (behind j hjs h1).2
      obtain ⟨rj, hrj, -⟩ := g.fact j oj hoj
      have h1 := s1 j oj rj hlt hoj hrj hdj
      rw [h1] at hx'
      simp only [Option.some.injEq] at hx'
      subst hx'
      exact iv.sl1 t j oj rj htl hoj hrj hdj hlj
    · have hno : ∀ (j : Nat) (oj : Oper), ops[j]? = some oj → oj.dst = some t → ¬ Lst l j := fun j oj h1 h2 h3 => hw ⟨j, oj, h1, h2, h3⟩
      have h1 := s2 (fun j oj hj hoj hdj => by
        rcases g.look k j o oj t ho hoj (by omega) hdj ht' with h2 | h2
        · exact hno j oj hoj hdj (before j h2).1
        · have := (behind j (Array.getElem?_eq_some_iff.1 hoj).1 h2).1; omega)
      rw [h1] at hx'
      exact iv.sl0 t htl hno x hx'
  -- behind it
  have after : ∀ (σ' : Sg) (w' : World) (q' : Nat), Ext σ σ' → wf σ' r.v → q' ≤ ops.size → (∀ i, i < q' → Ev R i → Lst l i ∨ i = k) → (∀ i, q' ≤ i → Ev R i → ¬ Lst l i ∧ i ≠ k) → (q' < ops.size → Ev R q') →
      Went P σ (hAt R hF q) w σ' (hAt R hF q') w' → Keeps h0.length σ σ' → K (a.put o.dst (den σ' r.v)) w' := by
    intro σ' w' q' hext hwv q1 q2 q3 q4 hwent hkeep
    refine hK _ w' σ' q' ⟨by simpa using iv.size, ?_, q1, fun i h1 h2 => (lst_set hkl).2 (q2 i h1 h2), fun i h1 h2 h3 => ?_, q4, hwent.rel, hwent.full, iv.went.trans hwent, iv.keeps.trans hkeep, ?_, ?_, ?_, ?_⟩
    · intro j oj hoj hlj e he hb
      rcases (lst_set hkl).1 hlj with h1 | rfl
      · exact (lst_set hkl).2 (.inl (iv.closed j oj hoj h1 e he hb))
      · rw [ho] at hoj; obtain rfl := Option.some.inj hoj
        exact (lst_set hkl).2 (.inl (hpre e he hb))
    · rcases (lst_set hkl).1 h3 with h4 | h4
      · exact (q3 i h1 h2).1 h4
      · exact (q3 i h1 h2).2 h4
    · cases o.dst <;> exact iv.ad
    · cases o.dst <;> simp [Act.put, iv.asz]
    · intro t j oj rj htl hoj hrj hdj hlj
      by_cases hjk : j = k
      · subst hjk
        rw [ho] at hoj; obtain rfl := Option.some.inj hoj
        rw [hr] at hrj; obtain rfl := Option.some.inj hrj
        rw [hdj]
        simp only [Act.put]
        rw [Array.getElem?_setIfInBounds_self_of_lt (by rw [iv.asz]; exact htl)]
        exact ⟨rfl, hwv⟩
      · have hl' : Lst l j := by rcases (lst_set hkl).1 hlj with h1 | h1; exact h1; exact absurd h1 hjk
        obtain ⟨e1, e2⟩ := iv.sl1 t j oj rj htl hoj hrj hdj hl'
        have hne : o.dst ≠ some t := g.uniq j k oj o t hoj ho hjk hdj
        refine ⟨?_, wf_ext hext _ e2⟩
        rw [den_ext hext _ e2]
        cases hd : o.dst with
        | none => exact e1
        | some d => simp only [Act.put]; rw [Array.getElem?_setIfInBounds_ne (fun e => hne (by rw [hd, e]))]; exact e1
    · intro t htl hno x hx
      obtain ⟨e1, e2⟩ := iv.sl0 t htl (fun j oj h1 h2 h3 => hno j oj h1 h2 ((lst_set hkl).2 (.inl h3))) x hx
      have hne : o.dst ≠ some t := fun h1 => hno k o ho h1 ((lst_set hkl).2 (.inr rfl))
      refine ⟨?_, wf_ext hext _ e2⟩
      rw [den_ext hext _ e2]
      cases hd : o.dst with
      | none => exact e1
      | some d => simp only [Act.put]; rw [Array.getElem?_setIfInBounds_ne (fun e => hne (by rw [hd, e]))]; exact e1
  unfold wpOp
  rw [ho]
  simp only []
  have hwant := hf.want σ a htr
  have evk : Ev R k ↔ r.ev = true := ⟨fun ⟨r', h1, h2⟩ => by rw [hr] at h1; obtain rfl := Option.some.inj h1; exact h2, fun h => ⟨r, hr, h⟩⟩
  have wrk : Wr R k ↔ r.wr = true := ⟨fun ⟨r', h1, h2⟩ => by rw [hr] at h1; obtain rfl := Option.some.inj h1; exact h2, fun h => ⟨r, hr, h⟩⟩
  cases hrun : r.run with
  | false =>
    rw [hrun] at hwant
    rw [if_neg (by simp [hwant])]
    obtain ⟨s1, s2, s3, s4⟩ := hf.skip hrun
    have h1 := after σ w q (Ext.refl σ) (by rw [s2]; trivial) iv.qle (fun i h1 h2 => .inl (iv.done i h1 h2)) (fun i h1 h2 => ⟨iv.todo i h1 h2, fun e => by
      rw [e] at h2; rw [evk.1 h2] at s3; simp at s3⟩) iv.qev (Went.refl iv.rel iv.full) (Keeps.refl _ _)
    rw [s2] at h1
    exact h1
  | true =>
    rw [hrun] at hwant
    rw [if_pos hwant]
    obtain ⟨orc, v0, tm1, orc1, cs2, hstep, hcs, hden, hev, hwr, -, hrd⟩ := hf.run hrun
    have hput : ∀ σ', den σ' v0 = den σ' r.v := fun σ' => ((hden σ').1).symm
    refine .inl ?_
    by_cases hE : Ev R k
    · have hqk : q = k := by
        have h1 : q ≤ k := by
          rcases Nat.lt_or_ge k q with h | h
          · exact absurd (iv.done k h hE) hnk
          · exact h
        rcases Nat.lt_or_ge q k with h | h
        · exfalso
          have hq := iv.qev (by omega)
          obtain ⟨rq, hrq, heq⟩ := hq
          rcases g.evs k q r rq hr hrq (by omega) (evk.1 hE) heq with h2 | h2
          · exact iv.todo q (Nat.le_refl _) ⟨rq, hrq, heq⟩ (before q h2).1
          · have := (behind q (by omega) h2).1; omega
        · omega
      subst hqk
      obtain ⟨q', n1, n2, n3, n4⟩ := g.next_ev (ops.size - (q + 1)) (q + 1) (by omega)
      have hheap : hAt R hF q' = hAt R hF (q + 1) := by
        have := g.heap_range (a := q + 1) (q' - (q + 1)) (by omega) (fun i h1 h2 => n3 i h1 (by omega))
        rw [show q + 1 + (q' - (q + 1)) = q' from by omega] at this
        exact this
      refine step_sound hstep hcs (by rw [← hh]; exact iv.full) (by rw [← hh]; exact iv.rel) htr (fun σ' w' _ k1 k2 k3 k4 => ?_)
      rw [hput]
      refine after σ' w' q' k3 ((hden σ').2 k4) n2 (fun i h1 h2 => ?_) (fun i h1 h2 => ⟨iv.todo i (by omega) h2, by omega⟩) n4 (by rw [hheap, hh]; exact k1) ?_
      · rcases Nat.lt_trichotomy i q with h3 | h3 | h3
        · exact .inl (iv.done i h3 h2)
        · exact .inr h3
        · exact absurd h2 (n3 i (by omega) h1)
      · have := g.len_mono q (by omega)
        rw [hh] at this
        exact k2.mono this
    · have hevf : r.ev = false := by cases h : r.ev with | false => rfl | true => exact absurd (evk.2 h) hE
      rw [hevf] at hev
      have he1 : evA P (keepT (looksL ops.toList o) 0 r.tm) r.h o orc = false := by
        cases h : evA P (keepT (looksL ops.toList o) 0 r.tm) r.h o orc with
        | false => rfl
        | true => rw [h] at hev; simp at hev
      have hquiet := step_quiet hstep he1
      have hqsize := iv.qle
      have hs' : stepA P (keepT (looksL ops.toList o) 0 r.tm) (hAt R hF q) o orc = some (v0, tm1, hAt R hF q, orc1, cs2) := by
        by_cases c0 : clsOp o.op = 0
        · exact stepA_pure c0 hstep he1
        by_cases c2 : clsOp o.op = 2
        · by_cases hrq : ∃ ι, r.rd = some ι ∧ ∀ b ∈ ι, b < (hAt R hF 0).length
          · obtain ⟨ι, hι, hlow⟩ := hrq
            rw [hquiet] at hstep
            refine stepA_rd hstep (by rw [← hrd, hι]) (fun b hbι ob hob => ?_)
            have clear : ∀ i, i < ops.size → (k ≤ i ∧ i < q) ∨ (q ≤ i ∧ i < k) → ¬ Wr R i ∨ ∃ ri l, R[i]? = some ri ∧ ri.ws = some l ∧ b ∉ l := by
              intro i his hi
              rcases Classical.em (Wr R i) with ⟨ri, hri, hwi⟩ | hno
              · have hei : Ev R i := g.ev_of_wr ⟨ri, hri, hwi⟩
                by_cases hik : i = k
                · subst hik; exact absurd hei hE
                have out : rdOk (hAt R hF 0).length r.rd ri.ws true = true → ∃ ri l, R[i]? = some ri ∧ ri.ws = some l ∧ b ∉ l := fun h3 => by
                  obtain ⟨l, h4, h5⟩ := rdOk_apart hι h3 b hbι
                  exact ⟨ri, l, hri, h4, h5⟩
                rcases hi with ⟨h1, h2⟩ | ⟨h1, h2⟩
                · have hl := iv.done i h2 hei
                  rcases g.wrs k i o r ri ho hr hri (by omega) hrun hwi c0 with h3 | h3 | ⟨h3, -⟩ | h3
                  · have := (before i h3).2; omega
                  · exact absurd hl (behind i his h3).2
                  · rw [c2] at h3; simp at h3
                  · exact .inr (out h3)
                · have hl := iv.todo i h1 hei
                  rcases g.wrs k i o r ri ho hr hri (by omega) hrun hwi c0 with h3 | h3 | ⟨h3, -⟩ | h3
                  · exact absurd (before i h3).1 hl
                  · have := (behind i his h3).1; omega
                  · rw [c2] at h3; simp at h3
                  · exact .inr (out h3)
              · exact .inl hno
            have hb0 := hlow b hbι
            rw [g.h0] at hb0
            rcases Nat.le_total k q with h | h
            · have hn := g.heap_range3 (a := k) (b := b) (by have := g.len_mono k (by omega); omega) (q - k) (by omega) (fun i h1 h2 => clear i (by omega) (.inl ⟨h1, by omega⟩))
              rw [show k + (q - k) = q from by omega] at hn
              rw [hn.1, hh]; exact hob
            · have hn := g.heap_range3 (a := q) (b := b) (by have := g.len_mono q iv.qle; omega) (k - q) (by omega) (fun i h1 h2 => clear i (by omega) (.inr ⟨h1, by omega⟩))
              rw [show q + (k - q) = k from by omega] at hn
              rw [← hh, hn.1] at hob; exact hob
          · have hsame : hAt R hF q = hAt R hF k := by
              have noev : ∀ i, i < ops.size → (k ≤ i ∧ i < q) ∨ (q ≤ i ∧ i < k) → ¬ Ev R i := by
                rintro i his hi ⟨ri, hri, hei⟩
                by_cases hik : i = k
                · subst hik; exact hE ⟨ri, hri, hei⟩
                rcases hi with ⟨h1, h2⟩ | ⟨h1, h2⟩
                · have hl := iv.done i h2 ⟨ri, hri, hei⟩
                  rcases g.evc k i o r ri ho hr hri (by omega) hrun hei c2 with h3 | h3 | h3
                  · have := (before i h3).2; omega
                  · exact (behind i his h3).2 hl
                  · exact hrq (rdOk_some h3)
                · have hl := iv.todo i h1 ⟨ri, hri, hei⟩
                  rcases g.evc k i o r ri ho hr hri (by omega) hrun hei c2 with h3 | h3 | h3
                  · exact hl (before i h3).1
                  · have := (behind i his h3).1; omega
                  · exact hrq (rdOk_some h3)
              rcases Nat.le_total k q with h | h
              · have := g.heap_range (a := k) (q - k) (by omega) (fun i h1 h2 => noev i (by omega) (.inl ⟨h1, by omega⟩))
                rw [show k + (q - k) = q from by omega] at this; exact this
              · have := g.heap_range (a := q) (k - q) (by omega) (fun i h1 h2 => noev i (by omega) (.inr ⟨h1, by omega⟩))
                rw [show q + (k - q) = k from by omega] at this; exact this.symm
            rw [hsame, hh]
            rw [hquiet] at hstep
            exact hstep
        · have c1 := cls_read c0 c2
          have nowr : ∀ i, i < ops.size → (k ≤ i ∧ i < q) ∨ (q ≤ i ∧ i < k) → ¬ Wr R i ∨ ∃ ri l, R[i]? = some ri ∧ ri.ws = some l ∧ apart (keepT (looksL ops.toList o) 0 r.tm) l = true := by
            intro i his hi
            rcases Classical.em (Wr R i) with ⟨ri, hri, hwi⟩ | hno
            · have hei : Ev R i := g.ev_of_wr ⟨ri, hri, hwi⟩
              by_cases hik : i = k
              · subst hik; exact absurd hei hE
              rcases hi with ⟨h1, h2⟩ | ⟨h1, h2⟩
              · have hl := iv.done i h2 hei
                rcases g.wrs k i o r ri ho hr hri (by omega) hrun hwi c0 with h3 | h3 | ⟨-, l', h3, h4⟩ | h3
                · have := (before i h3).2; omega
                · exact absurd hl (behind i his h3).2
                · exact .inr ⟨ri, l', hri, h3, h4⟩
                · exact absurd (rdOk_some h3) (by rintro ⟨ι, h5, -⟩; rw [hrd] at h5; have := rdA_cls h5; omega)
              · have hl := iv.todo i h1 hei
                rcases g.wrs k i o r ri ho hr hri (by omega) hrun hwi c0 with h3 | h3 | ⟨-, l', h3, h4⟩ | h3
                · exact absurd (before i h3).1 hl
                · have := (behind i his h3).1; omega
                · exact .inr ⟨ri, l', hri, h3, h4⟩
                · exact absurd (rdOk_some h3) (by rintro ⟨ι, h5, -⟩; rw [hrd] at h5; have := rdA_cls h5; omega)
            · exact .inl hno
          rw [hquiet] at hstep
          refine stepA_read c1 hstep he1 (fun y x b hx hb ob hob => ?_)
          have hbd : b < (hAt R hF q).length := (iv.full b).1 (blk1_dom hb (htr.eval y _ hx).2)
          have clear : ∀ i, i < ops.size → (k ≤ i ∧ i < q) ∨ (q ≤ i ∧ i < k) → ¬ Wr R i ∨ ∃ ri l, R[i]? = some ri ∧ ri.ws = some l ∧ b ∉ l := fun i h1 h2 => by
            rcases nowr i h1 h2 with h3 | ⟨ri, l, h3, h4, h5⟩
            · exact .inl h3
            · exact .inr ⟨ri, l, h3, h4, apart_out h5 hx hb⟩
          rcases Nat.le_total k q with h | h
          · have hn := g.heap_range3 (a := k) (b := b) (by rw [hh]; exact (List.getElem?_eq_some_iff.1 hob).1) (q - k) (by omega) (fun i h1 h2 => clear i (by omega) (.inl ⟨h1, by omega⟩))
            rw [show k + (q - k) = q from by omega] at hn
            rw [hn.1, hh]; exact hob
          · have hn := g.heap_range3 (a := q) (b := b) hbd (k - q) (by omega) (fun i h1 h2 => clear i (by omega) (.inr ⟨h1, by omega⟩))
            rw [show q + (k - q) = k from by omega] at hn
            rw [← hh, hn.1] at hob; exact hob
      refine step_sound hs' hcs iv.full iv.rel htr (fun σ' w' _ k1 k2 k3 k4 => ?_)
      rw [hput]
      refine after σ' w' q k3 ((hden σ').2 k4) iv.qle (fun i h1 h2 => .inl (iv.done i h1 h2)) (fun i h1 h2 => ⟨iv.todo i h1 h2, fun e => hE (e ▸ h2)⟩) iv.qev k1 (k2.mono (g.len_mono q iv.qle))

theorem draw_any (g : Reg P ops R tm0 tmF h0 hF) {σ0 : Sg} {w0 : World} {Q : Exit → Act → World → Prop}
    (hQ : ∀ σ' w' a', Went P σ0 h0 w0 σ' hF w' → Keeps h0.length σ0 σ' → TR σ' tmF a' → Q .normal a' w') :
    ∀ (fuel : Nat) (l : Array Bool) (a : Act) (w : World) (σ : Sg) (q : Nat), Inv P ops R tm0 tmF h0 hF σ0 w0 l a w σ q → l.toList.count false = fuel → wpAny P .any ops Q fuel l a w := by
  have hend : ∀ (l : Array Bool) (a : Act) (w : World) (σ : Sg) (q : Nat), Inv P ops R tm0 tmF h0 hF σ0 w0 l a w σ q → (∀ k, k < ops.size → Lst l k) → Q .normal a w := by
    intro l a w σ q iv hall
    have hq : q = ops.size := by
      rcases Nat.lt_or_ge q ops.size with h | h
      · exact absurd (hall q h) (iv.todo q (Nat.le_refl _) (iv.qev h))
      · have := iv.qle; omega
    have hR : R[ops.size]? = none := List.getElem?_eq_none (by rw [g.len]; exact Nat.le_refl _)
    have e1 : hAt R hF q = hF := by rw [hq]; simp [hAt, hR]
    have e2 : tmAt R tmF ops.size = tmF := by simp [tmAt, hR]
    obtain ⟨s1, s2⟩ := g.slots ops.size (Nat.le_refl _)
    rw [e2] at s1 s2
    refine hQ σ w a (by rw [← e1]; exact iv.went) iv.keeps ⟨iv.ad, by rw [s1]; exact iv.asz, fun t x hx => ?_⟩
    have htl : t < tm0.length := by rw [← s1]; exact (List.getElem?_eq_some_iff.1 hx).1
    obtain ⟨t1, t2⟩ := s2 t htl
    by_cases hw : ∃ (j : Nat) (oj : Oper), ops[j]? = some oj ∧ oj.dst = some t
    · obtain ⟨j, oj, hoj, hdj⟩ := hw
      have hjs := (Array.getElem?_eq_some_iff.1 hoj).1
      obtain ⟨rj, hrj, -⟩ := g.fact j oj hoj
      rw [t1 j oj rj hjs hoj hrj hdj] at hx
      simp only [Option.some.injEq] at hx
      subst hx
      exact iv.sl1 t j oj rj htl hoj hrj hdj (hall j hjs)
    · rw [t2 (fun j oj _ hoj hdj => hw ⟨j, oj, hoj, hdj⟩)] at hx
      exact iv.sl0 t htl (fun j oj h1 h2 _ => hw ⟨j, oj, h1, h2⟩) x hx
  intro fuel
  induction fuel with
  | zero =>
    intro l a w σ q iv hcount
    have hall : ∀ k, k < ops.size → Lst l k := by
      intro k hk
      have hkl : k < l.size := by rw [iv.size]; exact hk
      have h1 : ¬ false ∈ l.toList := List.count_eq_zero.1 hcount
      unfold Lst
      rw [Array.getElem?_eq_getElem hkl]
      cases hb : l[k] with
      | true => rfl
      | false => exact absurd (by rw [← hb]; simp) h1
    refine ⟨?_, hend l a w σ q iv hall⟩
    refine List.eq_nil_iff_forall_not_mem.2 fun k hk => ?_
    obtain ⟨o, h1, h2, -⟩ := ready_mem iv.size hk
    exact h2 (hall k (Array.getElem?_eq_some_iff.1 h1).1)
  | succ fuel ih =>
    intro l a w σ q iv hcount
    refine ⟨fun hnil => hend l a w σ q iv (ready_nil iv.size g.low hnil), fun k hk => ?_⟩
    obtain ⟨o, h1, h2, h3⟩ := ready_mem iv.size hk
    have hks := (Array.getElem?_eq_some_iff.1 h1).1
    have hkl : k < l.size := by rw [iv.size]; exact hks
    refine iv.ops_ok g h1 h2 h3 (fun a' w' σ' q' iv' => ih _ a' w' σ' q' iv' ?_)
    have hlf : l[k] = false := by
      cases hb : l[k] with
      | false => rfl
      | true => exact absurd (by unfold Lst; rw [Array.getElem?_eq_getElem hkl, hb]) h2
    rw [Array.toList_setIfInBounds, List.count_set (by simpa using hkl)]
    simp [hlf, hcount]
end

/-- Every choice that a drawn region may be given: a departure of the compiler's is let by. -/
def Mixed (P : Program) : Prop := P.follows .mixedOrders = true

theorem draw_sound {P : Program} {ops : Array Oper} {Q : Exit → Act → World → Prop} {tm tmF : Tm} {h hF : List AObj} {orc orcF : List Orc} {R : List DRec} {cs : List Prop} {σ : Sg} {w : World} {a : Act} {id : Nat}
    (hm : Mixed P) (hd : drawGo P ops.toList ops.toList tm h orc = some (R, tmF, hF, orcF, cs)) (hc : All cs) (hok : drawOk ops.toList R (masks ops.toList []) = true)
    (hf : Full σ h) (hr : RelH P σ h w) (ht : TR σ tm a) (hQ : ∀ σ' w' a', Went P σ h w σ' hF w' → Keeps h.length σ σ' → TR σ' tmF a' → Q .normal a' w') :
    (Code.region id ops true).wp P Q a w := by
  have g := Reg.of_ok hd hc hok
  obtain ⟨q, n1, n2, n3, n4⟩ := g.next_ev ops.size 0 (by omega)
  have hheap : hAt R hF q = h := by
    have := g.heap_range (a := 0) q (by omega) (fun i h1 h2 => n3 i h1 (by omega))
    rw [Nat.zero_add] at this
    rw [this, g.h0]
  have hnl : ∀ k, ¬ Lst (Array.replicate ops.size false) k := by
    intro k hk
    unfold Lst at hk
    rw [Array.getElem?_replicate] at hk
    split at hk <;> simp at hk
  have hr' : RelH P σ h { w with drawn := w.drawn + 1 } := hr.heap_eq rfl
  refine wp_region_any hm (draw_any g (σ0 := σ) (w0 := { w with drawn := w.drawn + 1 }) (fun σ' w' a' h1 h2 h3 => hQ σ' w' a' ?_ h2 h3) ops.size _ a _ σ q ?_ (by simp))
  · exact ⟨h1.rel, h1.full, ⟨h1.frm.os, h1.frm.tape, h1.frm.output, h1.frm.size, h1.frm.block⟩, h1.img, h1.wim⟩
  · exact ⟨by simp, fun k o _ hl => absurd hl (hnl k), n2, fun k h1 h2 => absurd h2 (n3 k (by omega) h1), fun k _ _ => hnl k, n4, by rw [hheap]; exact hr', by rw [hheap]; exact hf, by rw [hheap]; exact Went.refl hr' hf, Keeps.refl _ _, ht.defers, ht.size,
      fun t j o r _ _ _ _ hl => absurd hl (hnl j), fun t _ _ x hx => ht.get t x hx⟩
end Go.Abs
