import Derived.Test.YtffoldigaififaaAbsR
import Derived.Test.YtffoldigaififaaAbsKh
set_option linter.unusedVariables false
set_option linter.unusedSimpArgs false
namespace Go.Abs
variable {dl : List Deferred}
section
variable {P : Program} {ops : Array Oper} {R : List DRec} {tm0 tmF : Tm} {h0 hF : List AObj}

theorem putT_length (tm : Tm) (d : Option Tmp) (v : AV) : (putT tm d v).length = tm.length := by cases d <;> simp [putT]

/-- slots and heap, as the text has them before operation k -/
theorem Reg.slots (g : Reg P ops R tm0 tmF h0 hF) : ∀ k, k ≤ ops.size → (tmAt R tmF k).length = tm0.length ∧ ∀ t, t < tm0.length →
    (∀ j o r, j < k → ops[j]? = some o → R[j]? = some r → o.dst = some t → (tmAt R tmF k)[t]? = some (some r.v)) ∧
    ((∀ j o, j < k → ops[j]? = some o → o.dst ≠ some t) → (tmAt R tmF k)[t]? = tm0[t]?) := by
  intro k
  induction k with
  | zero => intro _; rw [g.tm0]; exact ⟨rfl, fun t ht => ⟨fun j o r hj => by omega, fun _ => rfl⟩⟩
  | succ k ih =>
    intro hk
    obtain ⟨i1, i2⟩ := ih (by omega)
    have ho : ops[k]? = some ops[k] := Array.getElem?_eq_getElem (by omega)
    obtain ⟨r, hr, hf⟩ := g.fact k _ ho
    have htm : tmAt R tmF k = r.tm := by simp [tmAt, hr]
    have hnext := hf.tmn
    rw [← htm] at hnext
    refine ⟨by rw [hnext, putT_length]; exact i1, fun t ht => ⟨fun j o r' hj hoj hrj hd => ?_, fun hno => ?_⟩⟩
    · by_cases hjk : j = k
      · subst hjk
        rw [ho] at hoj; obtain rfl := Option.some.inj hoj
        rw [hr] at hrj; obtain rfl := Option.some.inj hrj
        rw [hnext, hd]
        simp only [putT]
        rw [List.getElem?_set_self (by omega)]
      · have h1 := (i2 t ht).1 j o r' (by omega) hoj hrj hd
        rw [hnext]
        have hne : ops[k].dst ≠ some t := g.uniq j k o _ t hoj ho hjk hd
        cases hdk : ops[k].dst with
        | none => exact h1
        | some d =>
          simp only [putT]
          rw [List.getElem?_set_ne (fun e => hne (by rw [hdk, e]))]; exact h1
    · have h1 := (i2 t ht).2 (fun j o hj hoj => hno j o (by omega) hoj)
      rw [hnext]
      have hne := hno k _ (by omega) ho
      cases hdk : ops[k].dst with
      | none => exact h1
      | some d =>
        simp only [putT]
        rw [List.getElem?_set_ne (fun e => hne (by rw [hdk, e]))]; exact h1

def Ev (R : List DRec) (k : Nat) : Prop := ∃ r, R[k]? = some r ∧ r.ev = true
def Wr (R : List DRec) (k : Nat) : Prop := ∃ r, R[k]? = some r ∧ r.wr = true

theorem Reg.ev_of_wr (g : Reg P ops R tm0 tmF h0 hF) {k : Nat} (h : Wr R k) : Ev R k := by
  obtain ⟨r, hr, hw⟩ := h
  have hk : k < ops.size := by rw [← g.len]; exact (List.getElem?_eq_some_iff.1 hr).1
  obtain ⟨r', hr', hf⟩ := g.fact k _ (Array.getElem?_eq_getElem hk)
  rw [hr] at hr'; obtain rfl := Option.some.inj hr'
  cases hrun : r.run with
  | false => rw [(hf.skip hrun).2.2.2] at hw; simp at hw
  | true =>
    obtain ⟨orc, v0, tm1, orc1, cs2, -, -, -, he, hw', -⟩ := hf.run hrun
    exact ⟨r, hr, by rw [he, ← hw', hw]; simp⟩

theorem Reg.heap_same (g : Reg P ops R tm0 tmF h0 hF) {k : Nat} (hk : k < ops.size) (hn : ¬ Ev R k) : hAt R hF (k + 1) = hAt R hF k := by
  obtain ⟨r, hr, hf⟩ := g.fact k _ (Array.getElem?_eq_getElem hk)
  have hh : hAt R hF k = r.h := by simp [hAt, hr]
  have hev : r.ev = false := by cases h : r.ev with | false => rfl | true => exact absurd ⟨r, hr, h⟩ hn
  rw [hh]
  cases hrun : r.run with
  | false => exact (hf.skip hrun).1
  | true =>
    obtain ⟨orc, v0, tm1, orc1, cs2, h1, -, -, he, -⟩ := hf.run hrun
    rw [hev] at he
    have : evA P (keepT (looksL ops.toList ops[k]) 0 r.tm) r.h ops[k] orc = false := by
      cases h : evA P (keepT (looksL ops.toList ops[k]) 0 r.tm) r.h ops[k] orc with
      | false => rfl
      | true => rw [h] at he; simp at he
    exact step_quiet h1 this
theorem Reg.heap_app (g : Reg P ops R tm0 tmF h0 hF) {k : Nat} (hk : k < ops.size) (hn : ¬ Wr R k) : ∃ news, hAt R hF (k + 1) = hAt R hF k ++ news := by
  obtain ⟨r, hr, hf⟩ := g.fact k _ (Array.getElem?_eq_getElem hk)
  have hh : hAt R hF k = r.h := by simp [hAt, hr]
  have hwr : r.wr = false := by cases h : r.wr with | false => rfl | true => exact absurd ⟨r, hr, h⟩ hn
  rw [hh]
  cases hrun : r.run with
  | false => exact ⟨[], by rw [(hf.skip hrun).1]; simp⟩
  | true =>
    obtain ⟨orc, v0, tm1, orc1, cs2, h1, -, -, -, hw, -⟩ := hf.run hrun
    rw [hwr] at hw
    exact step_app h1 hw.symm
theorem Reg.heap_range (g : Reg P ops R tm0 tmF h0 hF) {a : Nat} : ∀ d, a + d ≤ ops.size → (∀ i, a ≤ i → i < a + d → ¬ Ev R i) → hAt R hF (a + d) = hAt R hF a
  | 0, _, _ => rfl
  | d + 1, hd, hn => by
    rw [← Nat.add_assoc, g.heap_same (by omega) (hn (a + d) (by omega) (by omega)), g.heap_range d (by omega) (fun i h1 h2 => hn i h1 (by omega))]
theorem Reg.heap_range2 (g : Reg P ops R tm0 tmF h0 hF) {a : Nat} : ∀ d, a + d ≤ ops.size → (∀ i, a ≤ i → i < a + d → ¬ Wr R i) → ∃ news, hAt R hF (a + d) = hAt R hF a ++ news
  | 0, _, _ => ⟨[], by simp⟩
  | d + 1, hd, hn => by
    obtain ⟨n1, h1⟩ := g.heap_app (k := a + d) (by omega) (hn (a + d) (by omega) (by omega))
    obtain ⟨n2, h2⟩ := g.heap_range2 d (by omega) (fun i h1 h2 => hn i h1 (by omega))
    exact ⟨n2 ++ n1, by rw [← Nat.add_assoc, h1, h2]; simp⟩
theorem Reg.heap_at (g : Reg P ops R tm0 tmF h0 hF) {k b : Nat} (hk : k < ops.size) (hb : b < (hAt R hF k).length) (hn : ¬ Wr R k ∨ ∃ r l, R[k]? = some r ∧ r.ws = some l ∧ b ∉ l) :
    (hAt R hF (k + 1))[b]? = (hAt R hF k)[b]? ∧ b < (hAt R hF (k + 1)).length := by
  rcases hn with hn | ⟨r', l, hr', hw, hbl⟩
  · obtain ⟨news, e⟩ := g.heap_app hk hn
    rw [e]
    exact ⟨List.getElem?_append_left hb, by rw [List.length_append]; omega⟩
  · obtain ⟨r, hr, hf⟩ := g.fact k _ (Array.getElem?_eq_getElem hk)
    rw [hr] at hr'; obtain rfl := Option.some.inj hr'
    have hh : hAt R hF k = r.h := by simp [hAt, hr]
    rw [hh] at hb ⊢
    cases hrun : r.run with
    | false => rw [(hf.skip hrun).1]; exact ⟨rfl, hb⟩
    | true =>
      obtain ⟨orc, v0, tm1, orc1, cs2, h1, -, -, -, -, h2, -⟩ := hf.run hrun
      rw [hw] at h2
      exact ⟨wsA_keeps h1 h2.symm hbl hb, Nat.lt_of_lt_of_le hb (stepA_length h1)⟩
theorem Reg.heap_range3 (g : Reg P ops R tm0 tmF h0 hF) {a b : Nat} (hb : b < (hAt R hF a).length) : ∀ d, a + d ≤ ops.size → (∀ i, a ≤ i → i < a + d → ¬ Wr R i ∨ ∃ r l, R[i]? = some r ∧ r.ws = some l ∧ b ∉ l) →
    (hAt R hF (a + d))[b]? = (hAt R hF a)[b]? ∧ b < (hAt R hF (a + d)).length
  | 0, _, _ => ⟨rfl, hb⟩
  | d + 1, hd, hn => by
    obtain ⟨i1, i2⟩ := g.heap_range3 hb d (by omega) (fun i h1 h2 => hn i h1 (by omega))
    obtain ⟨j1, j2⟩ := g.heap_at (k := a + d) (by omega) i2 (hn (a + d) (by omega) (by omega))
    exact ⟨by rw [← Nat.add_assoc, j1, i1], by rw [← Nat.add_assoc]; exact j2⟩
theorem rdOk_some {n0 : Nat} {rd ws : Option (List Nat)} {wr : Bool} (h : rdOk n0 rd ws wr = true) : ∃ ι, rd = some ι ∧ ∀ b ∈ ι, b < n0 := by
  unfold rdOk at h
  split at h
  · rename_i ι
    simp only [Bool.and_eq_true, List.all_eq_true, decide_eq_true_eq] at h
    exact ⟨ι, rfl, h.1⟩
  · simp at h
theorem rdOk_apart {n0 : Nat} {rd ws : Option (List Nat)} {ι : List Nat} (hr : rd = some ι) (h : rdOk n0 rd ws true = true) : ∀ b ∈ ι, ∃ l, ws = some l ∧ b ∉ l := by
  intro b hb
  subst hr
  unfold rdOk at h
  simp only [Bool.not_true, Bool.false_or, Bool.and_eq_true] at h
  obtain ⟨-, h2⟩ := h
  split at h2
  · rename_i l
    rw [List.all_eq_true] at h2
    exact ⟨l, rfl, by simpa using h2 b hb⟩
  · simp at h2
theorem rdA_cls {o : Oper} {orc : List Orc} {ι : List Nat} (h : rdA o orc = some ι) : clsOp o.op = 2 := by
  unfold rdA at h
  split at h <;> try simp at h
  rename_i c hop
  split at h <;> try simp at h
  rename_i f hcal
  simp [hop, clsOp, hcal]
theorem blk1_soft (x : AV) : blk1 (soft x) = blk1 x := by cases x <;> rfl
theorem blk1_val (v : Value) : blk1 (ofVal v) = none := by cases v <;> rfl
theorem apart_out {tm : Tm} {l : List Nat} (h : apart tm l = true) {y : Operand} {x : AV} {b : Nat} (hx : evalA tm y = some x) (hb : blk1 x = some b) : b ∉ l := by
  cases y with
  | tmp t =>
    simp only [evalA] at hx
    split at hx <;> simp at hx
    rename_i x' hx'
    subst hx
    rw [blk1_soft] at hb
    have := List.all_eq_true.1 h _ (List.mem_of_getElem? hx')
    simp only [hb] at this
    simpa using this
  | const v => simp [evalA] at hx; subst hx; rw [blk1_val] at hb; simp at hb
  | func f => simp [evalA] at hx; subst hx; simp [blk1] at hb
  | global g => simp [evalA] at hx
theorem Reg.next_ev (g : Reg P ops R tm0 tmF h0 hF) : ∀ d k, k + d = ops.size → ∃ q, k ≤ q ∧ q ≤ ops.size ∧ (∀ i, k ≤ i → i < q → ¬ Ev R i) ∧ (q < ops.size → Ev R q)
  | 0, k, h => ⟨k, by omega, by omega, fun i h1 h2 => by omega, fun h1 => by omega⟩
  | d + 1, k, h => by
    by_cases he : Ev R k
    · exact ⟨k, by omega, by omega, fun i h1 h2 => by omega, fun _ => he⟩
    · obtain ⟨q, h1, h2, h3, h4⟩ := g.next_ev d (k + 1) (by omega)
      refine ⟨q, by omega, h2, fun i h5 h6 => ?_, h4⟩
      by_cases hik : i = k
      · exact hik ▸ he
      · exact h3 i (by omega) h6

theorem Reg.len_mono (g : Reg P ops R tm0 tmF h0 hF) : ∀ k, k ≤ ops.size → h0.length ≤ (hAt R hF k).length
  | 0, _ => by rw [g.h0]; exact Nat.le_refl _
  | k + 1, hk => by
    have ih := g.len_mono k (by omega)
    obtain ⟨r, hr, hf⟩ := g.fact k _ (Array.getElem?_eq_getElem (by omega))
    have hh : hAt R hF k = r.h := by simp [hAt, hr]
    rw [hh] at ih
    cases hrun : r.run with
    | false => rw [(hf.skip hrun).1]; exact ih
    | true =>
      obtain ⟨orc, v0, tm1, orc1, cs2, h1, -⟩ := hf.run hrun
      exact Nat.le_trans ih (stepA_length h1)
theorem cls_read {op : Op} (h0 : clsOp op ≠ 0) (h2 : clsOp op ≠ 2) : clsOp op = 1 := by
  have : clsOp op ≤ 2 := by
    unfold clsOp
    split <;> try decide
    split <;> decide
  omega
theorem blk1_dom {σ : Sg} {x : AV} {b : Nat} (h : blk1 x = some b) (hw : wf σ x) : σ.dom b := by
  cases x <;> simp [blk1] at h <;> subst h
  · exact hw
  · exact hw
  · exact hw.1
  · exact hw.1
  · exact hw.1
  · exact hw
/-- an operation that makes memory, in whatever order -/
def Fa (ops : Array Oper) (R : List DRec) (k : Nat) : Prop := ∃ o r, ops[k]? = some o ∧ R[k]? = some r ∧ r.run = true ∧ faOp o.op = true
/-- another one that turns the heap -/
def Mn (ops : Array Oper) (R : List DRec) (k : Nat) : Prop := ∃ o r, ops[k]? = some o ∧ R[k]? = some r ∧ r.ev = true ∧ faOp o.op = false
theorem stepA_fa {P : Program} {tm : Tm} {h : List AObj} {o : Oper} {orc : List Orc} (hf : faOp o.op = true) :
    stepA P tm h o orc = match opA P (evalA tm) h o.op with
      | some r => some (r.val, tm, applyUpd r.upd (h ++ r.news), orc, r.cs)
      | none => none := by
  unfold stepA
  split <;> rename_i hop <;> first | rfl | (rw [hop] at hf; simp [faOp] at hf)
theorem fa_step {P : Program} {tm tm' : Tm} {h h' : List AObj} {o : Oper} {orc orc' : List Orc} {v : AV} {cs : List Prop} (hf : faOp o.op = true) (hs : stepA P tm h o orc = some (v, tm', h', orc', cs)) :
    ∃ ob, h' = h ++ [ob] ∧ ∀ g : List AObj, g.length = h.length → stepA P tm g o orc = some (v, tm', g ++ [ob], orc', cs) := by
  rw [stepA_fa hf] at hs
  split at hs <;> simp at hs
  rename_i r hr
  obtain ⟨rfl, rfl, rfl, rfl, rfl⟩ := hs
  obtain ⟨hu, ob, hn⟩ := faOp_news hf hr
  refine ⟨ob, by rw [hu, hn]; rfl, fun g hg => ?_⟩
  rw [stepA_fa hf, ← faOp_len hf hg.symm, hr]
  show some (r.val, tm, applyUpd r.upd (g ++ r.news), orc, r.cs) = _
  rw [hu, hn]; rfl
theorem fa_wr {P : Program} {tm tm' : Tm} {h h' : List AObj} {o : Oper} {orc orc' : List Orc} {v : AV} {cs : List Prop} (hf : faOp o.op = true) (hs : stepA P tm h o orc = some (v, tm', h', orc', cs)) : wrA P tm h o orc = false := by
  rw [stepA_fa hf] at hs
  split at hs <;> simp at hs
  rename_i r hr
  obtain ⟨hu, -⟩ := faOp_news hf hr
  have : opWr P tm h o.op = false := by
    unfold opWr; rw [hr]
    show (!r.upd.isEmpty) = false
    rw [hu]; rfl
  unfold wrA
  split <;> rename_i hop <;> first | exact this | (exfalso; simp [hop, faOp] at hf; done)
theorem fa_cι {o : Oper} {orc : List Orc} (hf : faOp o.op = true) : cιA o orc = [] := by
  unfold cιA; split <;> rename_i hop <;> first | rfl | (rw [hop] at hf; simp [faOp] at hf)
theorem cls_cι {o : Oper} {orc : List Orc} (h : clsOp o.op ≠ 2) : cιA o orc = [] := by
  unfold cιA
  split
  · rename_i c hop
    split
    · rename_i f hcal
      exact absurd (by simp [hop, clsOp, hcal]) h
    · rfl
  · rfl
theorem callA_lt {P : Program} {h : List AObj} {f : FuncId} {args : List AV} {ι : List Nat} {res : AV} {upd : List (Nat × AObj)} {news : List AObj} {x : AV × List AObj × List Prop} (hc : callA P h f args ι res upd news = some x) : ∀ b ∈ ι, b < h.length := by
  unfold callA at hc
  split at hc <;> try simp at hc
  rename_i q1 q2 q3
  exact invH_lt q2
theorem cι_lt {P : Program} {tm tm' : Tm} {h h' : List AObj} {o : Oper} {orc orc' : List Orc} {v : AV} {cs : List Prop} (hs : stepA P tm h o orc = some (v, tm', h', orc', cs)) : ∀ b ∈ cιA o orc, b < h.length := by
  intro b hb
  unfold cιA at hb
  split at hb <;> try simp at hb
  rename_i c hop
  split at hb <;> try simp at hb
  rename_i f hcal
  split at hb <;> try simp at hb
  rename_i ι res upd news r
  unfold stepA at hs
  simp only [hop, hcal] at hs
  split at hs <;> try simp at hs
  rename_i fid caps args ι' res' upd' news' r' e1 e2 e3
  split at hs <;> simp at hs
  rename_i v1 h1 cs1 hcall
  simp at e3
  obtain ⟨⟨rfl, rfl, rfl, rfl⟩, rfl⟩ := e3
  exact callA_lt hcall b hb
theorem Reg.wr_mn (g : Reg P ops R tm0 tmF h0 hF) {k : Nat} (h : Wr R k) : Mn ops R k := by
  obtain ⟨r, hr, hw⟩ := h
  have hk : k < ops.size := by rw [← g.len]; exact (List.getElem?_eq_some_iff.1 hr).1
  obtain ⟨re, he, hev⟩ := g.ev_of_wr ⟨r, hr, hw⟩
  rw [hr] at he; obtain rfl := Option.some.inj he
  obtain ⟨r', hr', hf⟩ := g.fact k _ (Array.getElem?_eq_getElem hk)
  rw [hr] at hr'; obtain rfl := Option.some.inj hr'
  refine ⟨_, r, Array.getElem?_eq_getElem hk, hr, hev, ?_⟩
  cases hfa : faOp ops[k].op with
  | false => rfl
  | true =>
    cases hrun : r.run with
    | false => rw [(hf.skip hrun).2.2.2] at hw; simp at hw
    | true =>
      obtain ⟨orc, v0, tm1, orc1, cs2, h1, -, -, -, hw', -⟩ := hf.run hrun
      rw [fa_wr hfa h1] at hw'; rw [hw'] at hw; simp at hw
theorem Reg.ev_two (g : Reg P ops R tm0 tmF h0 hF) {k : Nat} (h : Ev R k) : Mn ops R k ∨ Fa ops R k := by
  obtain ⟨r, hr, hev⟩ := h
  have hk : k < ops.size := by rw [← g.len]; exact (List.getElem?_eq_some_iff.1 hr).1
  obtain ⟨r', hr', hf⟩ := g.fact k _ (Array.getElem?_eq_getElem hk)
  rw [hr] at hr'; obtain rfl := Option.some.inj hr'
  cases hfa : faOp ops[k].op with
  | false => exact .inl ⟨_, r, Array.getElem?_eq_getElem hk, hr, hev, hfa⟩
  | true =>
    refine .inr ⟨_, r, Array.getElem?_eq_getElem hk, hr, ?_, hfa⟩
    cases hrun : r.run with
    | false => rw [(hf.skip hrun).2.2.1] at hev; simp at hev
    | true => rfl
theorem Mn.ev {k : Nat} (h : Mn ops R k) : Ev R k := by obtain ⟨o, r, -, h2, h3, -⟩ := h; exact ⟨r, h2, h3⟩
theorem Reg.mono1 (g : Reg P ops R tm0 tmF h0 hF) {k : Nat} (hk : k < ops.size) : (hAt R hF k).length ≤ (hAt R hF (k + 1)).length := by
  obtain ⟨r, hr, hf⟩ := g.fact k _ (Array.getElem?_eq_getElem hk)
  have hh : hAt R hF k = r.h := by simp [hAt, hr]
  rw [hh]
  cases hrun : r.run with
  | false => rw [(hf.skip hrun).1]; exact Nat.le_refl _
  | true =>
    obtain ⟨orc, v0, tm1, orc1, cs2, h1, -⟩ := hf.run hrun
    exact stepA_length h1
theorem Reg.mono (g : Reg P ops R tm0 tmF h0 hF) {a : Nat} : ∀ d, a + d ≤ ops.size → (hAt R hF a).length ≤ (hAt R hF (a + d)).length
  | 0, _ => Nat.le_refl _
  | d + 1, hd => Nat.le_trans (g.mono d (by omega)) (g.mono1 (k := a + d) (by omega))
theorem Reg.mono' (g : Reg P ops R tm0 tmF h0 hF) {a b : Nat} (h : a ≤ b) (hb : b ≤ ops.size) : (hAt R hF a).length ≤ (hAt R hF b).length := by
  have := g.mono (a := a) (b - a) (by omega)
  rwa [show a + (b - a) = b by omega] at this
/-- whose block is it? -/
theorem Reg.rng (g : Reg P ops R tm0 tmF h0 hF) {b : Nat} : ∀ m, m ≤ ops.size → b < (hAt R hF m).length → b < h0.length ∨ ∃ k, k < m ∧ (hAt R hF k).length ≤ b ∧ b < (hAt R hF (k + 1)).length
  | 0, _, h => by rw [g.h0] at h; exact .inl h
  | m + 1, hm, h => by
    by_cases h1 : b < (hAt R hF m).length
    · rcases g.rng m (by omega) h1 with h2 | ⟨k, h2, h3⟩
      · exact .inl h2
      · exact .inr ⟨k, by omega, h3⟩
    · exact .inr ⟨m, by omega, by omega, h⟩
theorem Reg.uni (g : Reg P ops R tm0 tmF h0 hF) {b j k : Nat} (hj : j < ops.size) (hk : k < ops.size) (h1 : (hAt R hF j).length ≤ b) (h2 : b < (hAt R hF (j + 1)).length) (h3 : (hAt R hF k).length ≤ b) (h4 : b < (hAt R hF (k + 1)).length) : j = k := by
  rcases Nat.lt_trichotomy j k with h | h | h
  · have := g.mono' (a := j + 1) (b := k) h (by omega); omega
  · exact h
  · have := g.mono' (a := k + 1) (b := j) h (by omega); omega
/-- what comes to be, from q on -/
def bornD (R : List DRec) (hF : List AObj) : Nat → Nat → List AObj
  | 0, _ => []
  | d + 1, q => (hAt R hF (q + 1)).drop (hAt R hF q).length ++ bornD R hF d (q + 1)
/-- the heap at q, and what comes to be -/
def gAt (n : Nat) (R : List DRec) (hF : List AObj) (q : Nat) : List AObj := hAt R hF q ++ bornD R hF (n - q) q
theorem Reg.gLo {R : List DRec} {hF : List AObj} {n q b : Nat} (h : b < (hAt R hF q).length) : (gAt n R hF q)[b]? = (hAt R hF q)[b]? := List.getElem?_append_left h
theorem Reg.g1 (g : Reg P ops R tm0 tmF h0 hF) {q : Nat} (hq : q < ops.size) : gAt ops.size R hF q = hAt R hF q ++ ((hAt R hF (q + 1)).drop (hAt R hF q).length ++ bornD R hF (ops.size - (q + 1)) (q + 1)) := by
  unfold gAt
  rw [show ops.size - q = (ops.size - (q + 1)) + 1 by omega]; rfl
theorem Reg.gMid (g : Reg P ops R tm0 tmF h0 hF) {q b : Nat} (hq : q < ops.size) (h1 : (hAt R hF q).length ≤ b) (h2 : b < (hAt R hF (q + 1)).length) : (gAt ops.size R hF q)[b]? = (hAt R hF (q + 1))[b]? := by
  rw [g.g1 hq, List.getElem?_append_right h1, List.getElem?_append_left (by rw [List.length_drop]; omega), List.getElem?_drop]
  congr 1; omega
theorem Reg.gHi (g : Reg P ops R tm0 tmF h0 hF) {q b : Nat} (hq : q < ops.size) (h1 : (hAt R hF (q + 1)).length ≤ b) : (gAt ops.size R hF q)[b]? = (gAt ops.size R hF (q + 1))[b]? := by
  have hm := g.mono1 hq
  rw [g.g1 hq, List.getElem?_append_right (by omega), List.getElem?_append_right (by rw [List.length_drop]; omega), List.length_drop]
  unfold gAt
  rw [List.getElem?_append_right h1]
  congr 1; omega
theorem Reg.gUp (g : Reg P ops R tm0 tmF h0 hF) {q b : Nat} : ∀ d, q + d ≤ ops.size → (hAt R hF (q + d)).length ≤ b → (gAt ops.size R hF q)[b]? = (gAt ops.size R hF (q + d))[b]?
  | 0, _, _ => rfl
  | d + 1, hd, h => by
    have hm := g.mono1 (k := q + d) (by omega)
    rw [g.gUp d (by omega) (by rw [← Nat.add_assoc] at h; omega)]
    exact g.gHi (q := q + d) (by omega) h
theorem Reg.gBorn (g : Reg P ops R tm0 tmF h0 hF) {q k b : Nat} (hqk : q ≤ k) (hk : k < ops.size) (h1 : (hAt R hF k).length ≤ b) (h2 : b < (hAt R hF (k + 1)).length) : (gAt ops.size R hF q)[b]? = (hAt R hF (k + 1))[b]? := by
  have e := g.gUp (q := q) (b := b) (k - q) (by omega) (by rw [show q + (k - q) = k by omega]; exact h1)
  rw [show q + (k - q) = k by omega] at e
  rw [e, g.gMid hk h1 h2]
theorem Reg.gSame (g : Reg P ops R tm0 tmF h0 hF) {q : Nat} : ∀ d, q + d ≤ ops.size → (∀ i, q ≤ i → i < q + d → ¬ Wr R i) → gAt ops.size R hF (q + d) = gAt ops.size R hF q
  | 0, _, _ => rfl
  | d + 1, hd, hn => by
    rw [← g.gSame d (by omega) (fun i h1 h2 => hn i h1 (by omega))]
    obtain ⟨news, e⟩ := g.heap_app (k := q + d) (by omega) (hn (q + d) (by omega) (by omega))
    rw [g.g1 (q := q + d) (by omega), e]
    unfold gAt
    rw [show q + (d + 1) = q + d + 1 by omega, e]
    simp
theorem Reg.bornL (g : Reg P ops R tm0 tmF h0 hF) : ∀ d q, q + d = ops.size → (bornD R hF d q).length + (hAt R hF q).length = (hAt R hF ops.size).length
  | 0, q, h => by simp at h; subst h; simp [bornD]
  | d + 1, q, h => by
    have ih := g.bornL d (q + 1) (by omega)
    have hm := g.mono1 (k := q) (by omega)
    simp only [bornD, List.length_append, List.length_drop]; omega
theorem Reg.gLen (g : Reg P ops R tm0 tmF h0 hF) {q : Nat} (hq : q ≤ ops.size) : (gAt ops.size R hF q).length = (hAt R hF ops.size).length := by
  have := g.bornL (ops.size - q) q (by omega)
  unfold gAt; rw [List.length_append]; omega
theorem Reg.next_mn (g : Reg P ops R tm0 tmF h0 hF) : ∀ d k, k + d = ops.size → ∃ q, k ≤ q ∧ q ≤ ops.size ∧ (∀ i, k ≤ i → i < q → ¬ Mn ops R i) ∧ (q < ops.size → Mn ops R q)
  | 0, k, h => ⟨k, by omega, by omega, fun i h1 h2 => by omega, fun h1 => by omega⟩
  | d + 1, k, h => by
    by_cases he : Mn ops R k
    · exact ⟨k, by omega, by omega, fun i h1 h2 => by omega, fun _ => he⟩
    · obtain ⟨q, h1, h2, h3, h4⟩ := g.next_mn d (k + 1) (by omega)
      refine ⟨q, by omega, h2, fun i h5 h6 => ?_, h4⟩
      by_cases hik : i = k
      · exact hik ▸ he
      · exact h3 i (by omega) h6
/-- blocks that are there -/
def There (ops : Array Oper) (R : List DRec) (h0 hF : List AObj) (l : Array Bool) (b : Nat) : Prop :=
  b < h0.length ∨ ∃ k, k < ops.size ∧ Lst l k ∧ (hAt R hF k).length ≤ b ∧ b < (hAt R hF (k + 1)).length
/-- what holds while a drawn region is under way -/
structure Inv (dl : List Deferred) (P : Program) (ops : Array Oper) (R : List DRec) (tm0 tmF : Tm) (h0 hF : List AObj) (σ0 : Sg) (w0 : World) (l : Array Bool) (a : Act) (w : World) (σ : Sg) (q : Nat) : Prop where
  size : l.size = ops.size
  closed : ∀ (k : Nat) (o : Oper), ops[k]? = some o → Lst l k → ∀ e ∈ o.after.toList, Region.binds .any e = true → Lst l e.on
  qle : q ≤ ops.size
  done : ∀ k, k < q → Mn ops R k → Lst l k
  todo : ∀ k, q ≤ k → Mn ops R k → ¬ Lst l k
  qev : q < ops.size → Mn ops R q
  dom : ∀ b, σ.dom b ↔ There ops R h0 hF l b
  pw : PW P σ0 h0 w0 σ (gAt ops.size R hF q) w
  und : ∀ k, k < q → Fa ops R k → ¬ Lst l k → (hAt R hF q)[(hAt R hF k).length]? = (hAt R hF (k + 1))[(hAt R hF k).length]?
  keeps : Keeps h0.length σ0 σ
  ad : a.defers = dl
  asz : a.tmps.size = tm0.length
  sl1 : ∀ (t j : Nat) (o : Oper) (r : DRec), t < tm0.length → ops[j]? = some o → R[j]? = some r → o.dst = some t → Lst l j → a.tmps[t]? = some (den σ r.v) ∧ wf σ r.v
  sl0 : ∀ (t : Nat), t < tm0.length → (∀ (j : Nat) (o : Oper), ops[j]? = some o → o.dst = some t → ¬ Lst l j) → ∀ x, tm0[t]? = some (some x) → a.tmps[t]? = some (den σ x) ∧ wf σ x

theorem lst_set {l : Array Bool} {k i : Nat} (hk : k < l.size) : Lst (l.setIfInBounds k true) i ↔ Lst l i ∨ i = k := by
  unfold Lst
  by_cases h : k = i
  · subst h
    rw [Array.getElem?_setIfInBounds_self_of_lt hk]; simp
  · rw [Array.getElem?_setIfInBounds_ne h]
    constructor
    · exact fun h1 => .inl h1
    · rintro (h1 | h1)
      · exact h1
      · exact absurd h1.symm h

theorem Inv.ops_ok (g : Reg P ops R tm0 tmF h0 hF) {σ0 : Sg} {w0 : World} {l : Array Bool} {a : Act} {w : World} {σ : Sg} {q k : Nat} {o : Oper} (iv : Inv dl P ops R tm0 tmF h0 hF σ0 w0 l a w σ q)
    (ho : ops[k]? = some o) (hnk : ¬ Lst l k) (hpre : ∀ e ∈ o.after.toList, Region.binds .any e = true → Lst l e.on) {Q : Exit → Act → World → Prop} {K : Act → World → Prop}
    (hK : ∀ a' w' σ' q', Inv dl P ops R tm0 tmF h0 hF σ0 w0 (l.setIfInBounds k true) a' w' σ' q' → K a' w') : wpOp P ops Q k K a w := by
  have hk : k < ops.size := (Array.getElem?_eq_some_iff.1 ho).1
  have hkl : k < l.size := by rw [iv.size]; exact hk
  obtain ⟨r, hr, hf⟩ := g.fact k o ho
  have htm : tmAt R tmF k = r.tm := by simp [tmAt, hr]
  have hh : hAt R hF k = r.h := by simp [hAt, hr]
  -- what is before is done; what is done is not behind
  have before : ∀ j, bef (masks ops.toList []) k j = true → Lst l j ∧ j < k := fun j hb => pre_closed iv.closed g.low k j o ho hpre hb
  have behind : ∀ j, j < ops.size → bef (masks ops.toList []) j k = true → k < j ∧ ¬ Lst l j := fun j hj hb => by
    have hoj : ops[j]? = some ops[j] := Array.getElem?_eq_getElem hj
    have hlt := (pre_closed (S := fun _ => True) (fun _ _ _ _ _ _ _ => trivial) g.low j k ops[j] hoj (fun _ _ _ => trivial) hb).2
    refine ⟨hlt, fun hl => hnk ?_⟩
    exact (pre_closed iv.closed g.low j k ops[j] hoj (iv.closed j _ hoj hl) hb).1
  -- the slots that it looks at
  have htr : TR dl σ (keepT (looksL ops.toList o) 0 r.tm) a := by
    refine ⟨iv.ad, by rw [keepT_length, ← htm, (g.slots k (by omega)).1]; exact iv.asz, fun t x hx => ?_⟩
    have hmem := keepT_mem hx
    rw [Nat.zero_add, List.any_eq_true] at hmem
    obtain ⟨t', ht', hte⟩ := hmem
    have ht' : t ∈ looksL ops.toList o := by have : t' = t := by simpa using hte
                                             exact this ▸ ht'
    have hx' := keepT_get hx
    rw [← htm] at hx'
    have htl : t < tm0.length := by rw [← (g.slots k (by omega)).1]; exact (List.getElem?_eq_some_iff.1 hx').1
    obtain ⟨s1, s2⟩ := (g.slots k (by omega)).2 t htl
    by_cases hw : ∃ j oj, ops[j]? = some oj ∧ oj.dst = some t ∧ Lst l j
    · obtain ⟨j, oj, hoj, hdj, hlj⟩ := hw
      have hjk : k ≠ j := fun e => hnk (e ▸ hlj)
      have hjs : j < ops.size := (Array.getElem?_eq_some_iff.1 hoj).1
      have hlt : j < k := by
        rcases g.look k j o oj t ho hoj hjk hdj ht' with h1 | h1
        · exact (before j h1).2
        · exact absurd hlj (behind j hjs h1).2
      obtain ⟨rj, hrj, -⟩ := g.fact j oj hoj
      have h1 := s1 j oj rj hlt hoj hrj hdj
      rw [h1] at hx'
      simp only [Option.some.injEq] at hx'
      subst hx'
      exact iv.sl1 t j oj rj htl hoj hrj hdj hlj
    · have hno : ∀ (j : Nat) (oj : Oper), ops[j]? = some oj → oj.dst = some t → ¬ Lst l j := fun j oj h1 h2 h3 => hw ⟨j, oj, h1, h2, h3⟩
      have h1 := s2 (fun j oj hj hoj hdj => by
        rcases g.look k j o oj t ho hoj (by omega) hdj ht' with h2 | h2
        · exact hno j oj hoj hdj (before j h2).1
        · have := (behind j (Array.getElem?_eq_some_iff.1 hoj).1 h2).1; omega)
      rw [h1] at hx'
      exact iv.sl0 t htl hno x hx'
  have hn0 : h0.length ≤ (hAt R hF k).length := g.len_mono k (by omega)
  have hm1 := g.mono1 hk
  have evk : Ev R k ↔ r.ev = true := ⟨fun ⟨r', h1, h2⟩ => by rw [hr] at h1; obtain rfl := Option.some.inj h1; exact h2, fun h => ⟨r, hr, h⟩⟩
  have mnk : Mn ops R k → r.ev = true ∧ faOp o.op = false := fun ⟨o', r', h1, h2, h3, h4⟩ => by
    rw [ho] at h1; obtain rfl := Option.some.inj h1
    rw [hr] at h2; obtain rfl := Option.some.inj h2
    exact ⟨h3, h4⟩
  -- behind it
  have after : ∀ (σ' : Sg) (w' : World) (q' : Nat) (G' : List AObj), Ext σ σ' → wf σ' r.v → q' ≤ ops.size → (∀ i, i < q' → Mn ops R i → Lst l i ∨ i = k) → (∀ i, q' ≤ i → Mn ops R i → ¬ Lst l i ∧ i ≠ k) → (q' < ops.size → Mn ops R q') →
      (∀ b, σ'.dom b ↔ σ.dom b ∨ ((hAt R hF k).length ≤ b ∧ b < (hAt R hF (k + 1)).length)) → PW P σ (gAt ops.size R hF q) w σ' G' w' → (∀ b, σ'.dom b → (gAt ops.size R hF q')[b]? = G'[b]?) →
      (∀ i, i < q' → Fa ops R i → ¬ Lst l i → i ≠ k → (hAt R hF q')[(hAt R hF i).length]? = (hAt R hF (i + 1))[(hAt R hF i).length]?) → (∀ b, b < h0.length → σ'.loc b = σ.loc b) → K (a.put o.dst (den σ' r.v)) w' := by
    intro σ' w' q' G' hext hwv q1 q2 q3 q4 hdom hpw hag hund hkeep
    refine hK _ w' σ' q' ⟨by simpa using iv.size, ?_, q1, fun i h1 h2 => (lst_set hkl).2 (q2 i h1 h2), fun i h1 h2 h3 => ?_, q4, fun b => ?_, iv.pw.trans (hpw.agree hag), fun i h1 h2 h3 => ?_, iv.keeps.trans hkeep, ?_, ?_, ?_, ?_⟩
    · intro j oj hoj hlj e he hb
      rcases (lst_set hkl).1 hlj with h1 | rfl
      · exact (lst_set hkl).2 (.inl (iv.closed j oj hoj h1 e he hb))
      · rw [ho] at hoj; obtain rfl := Option.some.inj hoj
        exact (lst_set hkl).2 (.inl (hpre e he hb))
    · rcases (lst_set hkl).1 h3 with h4 | h4
      · exact (q3 i h1 h2).1 h4
      · exact (q3 i h1 h2).2 h4
    · rw [hdom b, iv.dom b]
      constructor
      · rintro ((h1 | ⟨j, j1, j2, j3⟩) | h1)
        · exact .inl h1
        · exact .inr ⟨j, j1, (lst_set hkl).2 (.inl j2), j3⟩
        · exact .inr ⟨k, hk, (lst_set hkl).2 (.inr rfl), h1⟩
      · rintro (h1 | ⟨j, j1, j2, j3⟩)
        · exact .inl (.inl h1)
        · rcases (lst_set hkl).1 j2 with h4 | rfl
          · exact .inl (.inr ⟨j, j1, h4, j3⟩)
          · exact .inr j3
    · exact hund i h1 h2 (fun h => h3 ((lst_set hkl).2 (.inl h))) (fun h => h3 ((lst_set hkl).2 (.inr h)))
    · cases o.dst <;> exact iv.ad
    · cases o.dst <;> simp [Act.put, iv.asz]
    · intro t j oj rj htl hoj hrj hdj hlj
      by_cases hjk : j = k
      · subst hjk
        rw [ho] at hoj; obtain rfl := Option.some.inj hoj
        rw [hr] at hrj; obtain rfl := Option.some.inj hrj
        rw [hdj]
        simp only [Act.put]
        rw [Array.getElem?_setIfInBounds_self_of_lt (by rw [iv.asz]; exact htl)]
        exact ⟨rfl, hwv⟩
      · have hl' : Lst l j := by rcases (lst_set hkl).1 hlj with h1 | h1; exact h1; exact absurd h1 hjk
        obtain ⟨e1, e2⟩ := iv.sl1 t j oj rj htl hoj hrj hdj hl'
        have hne : o.dst ≠ some t := g.uniq j k oj o t hoj ho hjk hdj
        refine ⟨?_, wf_ext hext _ e2⟩
        rw [den_ext hext _ e2]
        cases hd : o.dst with
        | none => exact e1
        | some d => simp only [Act.put]; rw [Array.getElem?_setIfInBounds_ne (fun e => hne (by rw [hd, e]))]; exact e1
    · intro t htl hno x hx
      obtain ⟨e1, e2⟩ := iv.sl0 t htl (fun j oj h1 h2 h3 => hno j oj h1 h2 ((lst_set hkl).2 (.inl h3))) x hx
      have hne : o.dst ≠ some t := fun h1 => hno k o ho h1 ((lst_set hkl).2 (.inr rfl))
      refine ⟨?_, wf_ext hext _ e2⟩
      rw [den_ext hext _ e2]
      cases hd : o.dst with
      | none => exact e1
      | some d => simp only [Act.put]; rw [Array.getElem?_setIfInBounds_ne (fun e => hne (by rw [hd, e]))]; exact e1
  have noDom : ∀ b, (hAt R hF k).length ≤ b → b < (hAt R hF (k + 1)).length → ¬ σ.dom b := fun b h1 h2 hd => by
    rcases (iv.dom b).1 hd with h3 | ⟨j, j1, j2, j3, j4⟩
    · omega
    · exact hnk (g.uni j1 hk j3 j4 h1 h2 ▸ j2)
  unfold wpOp
  rw [ho]
  simp only []
  have hwant := hf.want dl σ a htr
  cases hrun : r.run with
  | false =>
    rw [hrun] at hwant
    rw [if_neg (by simp [hwant])]
    obtain ⟨s1, s2, s3, s4⟩ := hf.skip hrun
    have hsame : hAt R hF (k + 1) = hAt R hF k := by rw [s1, hh]
    have h1 := after σ w q (gAt ops.size R hF q) (Ext.refl σ) (by rw [s2]; trivial) iv.qle (fun i h1 h2 => .inl (iv.done i h1 h2)) (fun i h1 h2 => ⟨iv.todo i h1 h2, fun e => by
      rw [e] at h2; have := (mnk h2).1; rw [s3] at this; simp at this⟩) iv.qev (fun b => ⟨.inl, fun h => h.elim id (fun h => by rw [hsame] at h; omega)⟩) (PW.refl iv.pw.rel) (fun _ _ => rfl) (fun i h1 h2 h3 _ => iv.und i h1 h2 h3) (fun _ _ => rfl)
    rw [s2] at h1
    exact h1
  | true =>
    rw [hrun] at hwant
    rw [if_pos hwant]
    obtain ⟨orc, v0, tm1, orc1, cs2, hstep, hcs, hden, hev, hwr, hws, hrd, hci⟩ := hf.run hrun
    have hput : ∀ σ', den σ' v0 = den σ' r.v := fun σ' => ((hden σ').1).symm
    refine .inl ?_
    by_cases hfa : faOp o.op = true
    · -- memory, made in whatever order
      have hFa : Fa ops R k := ⟨o, r, ho, hr, hrun, hfa⟩
      obtain ⟨ob, hnew, hany⟩ := fa_step hfa hstep
      rw [← hh] at hnew hany
      have hl1 : (hAt R hF (k + 1)).length = (hAt R hF k).length + 1 := by rw [hnew]; simp
      have hGl : (hAt R hF (k + 1)).length ≤ (gAt ops.size R hF q).length := by rw [g.gLen iv.qle]; exact g.mono' (by omega) (Nat.le_refl _)
      have hHl : ((gAt ops.size R hF q).take (hAt R hF k).length).length = (hAt R hF k).length := by rw [List.length_take]; omega
      have hs' := hany _ hHl
      have hbk : (gAt ops.size R hF q)[(hAt R hF k).length]? = some ob := by
        rcases Nat.lt_or_ge k q with h | h
        · have h2 := g.mono' (a := k + 1) (b := q) h iv.qle
          rw [Reg.gLo (by omega), iv.und k h hFa hnk, hnew, List.getElem?_append_right (Nat.le_refl _)]; simp
        · rw [g.gBorn h hk (Nat.le_refl _) (by omega), hnew, List.getElem?_append_right (Nat.le_refl _)]; simp
      have hap : ∀ b, b < (hAt R hF k).length + 1 → ((gAt ops.size R hF q).take (hAt R hF k).length ++ [ob])[b]? = (gAt ops.size R hF q)[b]? := fun b hb => by
        by_cases h1 : b < (hAt R hF k).length
        · rw [List.getElem?_append_left (by omega), List.getElem?_take, if_pos h1]
        · obtain rfl : b = (hAt R hF k).length := by omega
          rw [List.getElem?_append_right (by omega), hHl, Nat.sub_self, hbk]; rfl
      refine stepG_sound (G := gAt ops.size R hF q) hs' hcs (fun b hb => ?_) (fun b h1 h2 => ?_) (fun b h1 h2 => ?_) (by rw [fa_cι hfa]; intro b hb; simp at hb) iv.pw.rel htr (fun σ' w' G' _ t2 t3 t4 t5 t6 t7 t8 => ?_)
      · rw [hHl] at hb; rw [List.getElem?_take, if_pos hb]
      · rw [hHl] at h1; rw [List.length_append, hHl] at h2
        exact noDom b h1 (by simp at h2; omega)
      · rw [List.length_append, hHl] at h2
        exact (hap b (by simpa using h2)).symm
      · rw [hput]
        rw [List.length_append, hHl] at t3 t4 t5
        rw [hHl] at t6
        refine after σ' w' q G' t7 ((hden σ').2 t8) iv.qle (fun i h1 h2 => .inl (iv.done i h1 h2)) (fun i h1 h2 => ⟨iv.todo i h1 h2, fun e => by rw [e] at h2; have := (mnk h2).2; rw [hfa] at this; simp at this⟩) iv.qev
          (fun b => by rw [t5 b, hl1]; exact Iff.rfl) t2 (fun b _ => ?_) (fun i h1 h2 h3 _ => iv.und i h1 h2 h3) (fun b hb => t6 b (by omega))
        by_cases h1 : b < (hAt R hF k).length + 1
        · rw [t3 b (by simpa using h1), hap b h1]
        · exact (t4 b (by simpa using h1)).symm
    have hfa : faOp o.op = false := by simpa using hfa
    by_cases hE : Ev R k
    · -- an operation that turns the heap: in its turn
      have hMk : Mn ops R k := ⟨o, r, ho, hr, evk.1 hE, hfa⟩
      have hqk : q = k := by
        have h1 : q ≤ k := by
          rcases Nat.lt_or_ge k q with h | h
          · exact absurd (iv.done k h hMk) hnk
          · exact h
        rcases Nat.lt_or_ge q k with h | h
        · exfalso
          have hq := iv.qev (by omega)
          obtain ⟨oq, rq, hoq, hrq, heq, hfq⟩ := hq
          rcases g.evs k q o oq r rq ho hoq hr hrq (by omega) (evk.1 hE) heq hfa hfq with h2 | h2
          · exact iv.todo q (Nat.le_refl _) ⟨oq, rq, hoq, hrq, heq, hfq⟩ (before q h2).1
          · have := (behind q (by omega) h2).1; omega
        · omega
      subst hqk
      obtain ⟨q', n1, n2, n3, n4⟩ := g.next_mn (ops.size - (q + 1)) (q + 1) (by omega)
      have nowr : ∀ i, q + 1 ≤ i → i < q' → ¬ Wr R i := fun i h1 h2 h3 => n3 i h1 h2 (g.wr_mn h3)
      have hgq : gAt ops.size R hF q' = gAt ops.size R hF (q + 1) := by
        have := g.gSame (q := q + 1) (q' - (q + 1)) (by omega) (fun i h1 h2 => nowr i h1 (by omega))
        rwa [show q + 1 + (q' - (q + 1)) = q' by omega] at this
      -- what it sees is there
      have hιd : ∀ b ∈ cιA o orc, σ.dom b := fun b hb => by
        have hlt := cι_lt hstep b hb
        rw [← hh] at hlt
        rcases g.rng q (by omega) hlt with h1 | ⟨j, j1, j2, j3⟩
        · exact (iv.dom b).2 (.inl h1)
        · have hjs : j < ops.size := by omega
          have hEj : Ev R j := Classical.byContradiction fun hne => by rw [g.heap_same hjs hne] at j3; omega
          rcases g.ev_two hEj with hM | hFj
          · exact (iv.dom b).2 (.inr ⟨j, hjs, iv.done j j1 hM, j2, j3⟩)
          · obtain ⟨oj, rj, hoj, hrj, hrunj, hfj⟩ := hFj
            by_cases hlj : Lst l j
            · exact (iv.dom b).2 (.inr ⟨j, hjs, hlj, j2, j3⟩)
            exfalso
            rcases g.fas j q oj o rj r hoj ho hrj hr (by omega) hrunj hfj hrun hfa with h2 | h2 | ⟨-, h2⟩
            · have := (behind j hjs h2).1; omega
            · exact hlj (before j h2).1
            · obtain ⟨rj', hrj', hfcj⟩ := g.fact j oj hoj
              rw [hrj] at hrj'; obtain rfl := Option.some.inj hrj'
              obtain ⟨_, _, _, _, _, hsj, -⟩ := hfcj.run hrunj
              obtain ⟨obj, hnj, -⟩ := fa_step hfj hsj
              have hhj : hAt R hF j = rj.h := by simp [hAt, hrj]
              have : b = rj.h.length := by rw [hhj] at j2; rw [hnj, List.length_append, List.length_singleton] at j3; omega
              rw [hci] at h2; exact h2 (this ▸ hb)
      have hstep' := hstep
      rw [← hh] at hstep'
      refine stepG_sound (G := gAt ops.size R hF q) hstep' hcs (fun b hb => Reg.gLo hb) noDom (fun b h1 h2 => g.gMid hk h1 h2) hιd iv.pw.rel htr (fun σ' w' G' _ t2 t3 t4 t5 t6 t7 t8 => ?_)
      rw [hput]
      refine after σ' w' q' G' t7 ((hden σ').2 t8) n2 (fun i h1 h2 => ?_) (fun i h1 h2 => ⟨iv.todo i (by omega) h2, by omega⟩) n4 t5 t2 (fun b _ => ?_) (fun i h1 h2 h3 h4 => ?_) (fun b hb => t6 b (by omega))
      · rcases Nat.lt_trichotomy i q with h3 | h3 | h3
        · exact .inl (iv.done i h3 h2)
        · exact .inr h3
        · exact absurd h2 (n3 i (by omega) h1)
      · rw [hgq]
        by_cases h1 : b < (hAt R hF (q + 1)).length
        · rw [Reg.gLo h1, t3 b h1]
        · rw [t4 b (by omega), g.gHi hk (by omega)]
      · -- places of what is not made yet
        have hi : i < ops.size := by omega
        obtain ⟨oi, ri, hoi, hri, hruni, hfi⟩ := h2
        have hhi : hAt R hF i = ri.h := by simp [hAt, hri]
        obtain ⟨ri', hri', hfci⟩ := g.fact i oi hoi
        rw [hri] at hri'; obtain rfl := Option.some.inj hri'
        obtain ⟨_, _, _, _, _, hsi, -⟩ := hfci.run hruni
        obtain ⟨obi, hni, -⟩ := fa_step hfi hsi
        have hli : (hAt R hF (i + 1)).length = (hAt R hF i).length + 1 := by rw [hni, hhi]; simp
        have later : ∀ a, i + 1 ≤ a → q + 1 ≤ a → a ≤ q' → (hAt R hF q')[(hAt R hF i).length]? = (hAt R hF a)[(hAt R hF i).length]? := fun a ha1 ha2 ha3 => by
          have hla := g.mono' (a := i + 1) (b := a) ha1 (by omega)
          obtain ⟨news, e⟩ := g.heap_range2 (a := a) (q' - a) (by omega) (fun j h5 h6 => nowr j (by omega) (by omega))
          rw [show a + (q' - a) = q' by omega] at e
          rw [e, List.getElem?_append_left (by omega)]
        rcases Nat.lt_or_ge i q with h5 | h5
        · have hiq := g.mono' (a := i + 1) (b := q) h5 (by omega)
          have h6 := iv.und i h5 ⟨oi, ri, hoi, hri, hruni, hfi⟩ h3
          rw [later (q + 1) (by omega) (Nat.le_refl _) (by omega), ← h6]
          refine (g.heap_at hk (by omega) ?_).1
          rcases g.fas i q oi o ri r hoi ho hri hr (by omega) hruni hfi hrun hfa with h7 | h7 | ⟨h7, -⟩
          · have := (behind i hi h7).1; omega
          · exact absurd (before i h7).1 h3
          · rcases h7 with h7 | ⟨l', h7, h8⟩
            · exact .inl (fun ⟨r', k1, k2⟩ => by rw [hr] at k1; obtain rfl := Option.some.inj k1; rw [h7] at k2; simp at k2)
            · exact .inr ⟨r, l', hr, h7, by rw [hhi]; exact h8⟩
        · exact later (i + 1) (Nat.le_refl _) (by omega) (by omega)
    · -- an operation that turns nothing
      have hevf : r.ev = false := by cases h : r.ev with | false => rfl | true => exact absurd (evk.2 h) hE
      rw [hevf] at hev
      have he1 : evA P (keepT (looksL ops.toList o) 0 r.tm) r.h o orc = false := by
        cases h : evA P (keepT (looksL ops.toList o) 0 r.tm) r.h o orc with
        | false => rfl
        | true => rw [h] at hev; simp at hev
      have hquiet := step_quiet hstep he1
      have hsame : hAt R hF (k + 1) = hAt R hF k := g.heap_same hk hE
      rw [hquiet] at hstep
      -- it is done over a heap that agrees
      have go : ∀ H : List AObj, stepA P (keepT (looksL ops.toList o) 0 r.tm) H o orc = some (v0, tm1, H, orc1, cs2) → (∀ b, b < H.length → (gAt ops.size R hF q)[b]? = H[b]?) → (∀ b ∈ cιA o orc, σ.dom b) → h0.length ≤ H.length →
          Oper.wp P o a w K Q := by
        intro H hs' hag hιd hH0
        refine stepG_sound (G := gAt ops.size R hF q) hs' hcs hag (fun b h1 h2 => by omega) (fun b h1 h2 => by omega) hιd iv.pw.rel htr (fun σ' w' G' _ t2 t3 t4 t5 t6 t7 t8 => ?_)
        rw [hput]
        refine after σ' w' q G' t7 ((hden σ').2 t8) iv.qle (fun i h1 h2 => .inl (iv.done i h1 h2)) (fun i h1 h2 => ⟨iv.todo i h1 h2, fun e => hE (e ▸ h2.ev)⟩) iv.qev (fun b => by rw [t5 b, hsame]; constructor <;> (rintro (h | h) <;> first | exact .inl h | omega)) t2 (fun b _ => ?_) (fun i h1 h2 h3 _ => iv.und i h1 h2 h3) (fun b hb => t6 b (by omega))
        by_cases h1 : b < H.length
        · rw [t3 b h1, hag b h1]
        · exact (t4 b (by omega)).symm
      have hGl : h0.length ≤ (gAt ops.size R hF q).length := by rw [g.gLen iv.qle]; exact g.len_mono _ (Nat.le_refl _)
      -- what is written meanwhile
      have clear0 : ∀ {B : Nat → Prop}, clsOp o.op ≠ 0 → (∀ i ri, R[i]? = some ri → (clsOp o.op = 1 ∧ ∃ l, ri.ws = some l ∧ apart (keepT (looksL ops.toList o) 0 r.tm) l = true) ∨ rdOk (hAt R hF 0).length r.rd ri.ws true = true → B i) →
          ∀ i, i < ops.size → (k ≤ i ∧ i < q) ∨ (q ≤ i ∧ i < k) → ¬ Wr R i ∨ B i := by
        intro B c0 hB i his hi
        rcases Classical.em (Wr R i) with hWi | hno
        · have hMi := g.wr_mn hWi
          obtain ⟨ri, hri, hwi⟩ := hWi
          by_cases hik : i = k
          · subst hik; exact absurd hMi.ev hE
          rcases hi with ⟨h1, h2⟩ | ⟨h1, h2⟩
          · have hl := iv.done i h2 hMi
            rcases g.wrs k i o r ri ho hr hri (by omega) hrun hwi c0 hfa with h3 | h3 | h3 | h3
            · have := (before i h3).2; omega
            · exact absurd hl (behind i his h3).2
            · exact .inr (hB i ri hri (.inl h3))
            · exact .inr (hB i ri hri (.inr h3))
          · have hl := iv.todo i h1 hMi
            rcases g.wrs k i o r ri ho hr hri (by omega) hrun hwi c0 hfa with h3 | h3 | h3 | h3
            · exact absurd (before i h3).1 hl
            · have := (behind i his h3).1; omega
            · exact .inr (hB i ri hri (.inl h3))
            · exact .inr (hB i ri hri (.inr h3))
        · exact .inl hno
      -- a block that is there, and stays meanwhile, is the same
      have same : ∀ b, b < (hAt R hF k).length → σ.dom b → (∀ i, i < ops.size → (k ≤ i ∧ i < q) ∨ (q ≤ i ∧ i < k) → ¬ Wr R i ∨ ∃ ri l, R[i]? = some ri ∧ ri.ws = some l ∧ b ∉ l) → (gAt ops.size R hF q)[b]? = (hAt R hF k)[b]? := by
        intro b hbk hbd hclear
        rcases Nat.le_total k q with h | h
        · have hn := g.heap_range3 (a := k) (b := b) hbk (q - k) (by have := iv.qle; omega) (fun i h1 h2 => hclear i (by have := iv.qle; omega) (.inl ⟨h1, by omega⟩))
          rw [show k + (q - k) = q from by omega] at hn
          rw [Reg.gLo hn.2, hn.1]
        · by_cases hbq : b < (hAt R hF q).length
          · have hn := g.heap_range3 (a := q) (b := b) hbq (k - q) (by omega) (fun i h1 h2 => hclear i (by omega) (.inr ⟨h1, by omega⟩))
            rw [show q + (k - q) = k from by omega] at hn
            rw [Reg.gLo hbq, hn.1]
          · rcases g.rng k (by omega) hbk with h1 | ⟨j, j1, j2, j3⟩
            · have := g.len_mono q iv.qle; omega
            · have hqj : q ≤ j := by
                rcases Nat.lt_or_ge j q with h4 | h4
                · have := g.mono' (a := j + 1) (b := q) h4 iv.qle; omega
                · exact h4
              have hn := g.heap_range3 (a := j + 1) (b := b) j3 (k - (j + 1)) (by omega) (fun i h1 h2 => hclear i (by omega) (.inr ⟨by omega, by omega⟩))
              rw [show j + 1 + (k - (j + 1)) = k from by omega] at hn
              rw [g.gBorn hqj (by omega) j2 j3, hn.1]
      by_cases c0 : clsOp o.op = 0
      · exact go _ (stepA_pure c0 hstep he1) (fun _ _ => rfl) (by rw [cls_cι (by omega)]; intro b hb; simp at hb) hGl
      by_cases c2 : clsOp o.op = 2
      · by_cases hrq : ∃ ι, r.rd = some ι ∧ ∀ b ∈ ι, b < (hAt R hF 0).length
        · obtain ⟨ι, hι, hlow⟩ := hrq
          have hcι : ∀ b ∈ cιA o orc, b ∈ ι := fun b hb => by
            rw [hrd] at hι
            unfold rdA at hι; unfold cιA at hb
            split at hι <;> try simp at hι
            rename_i c hop
            simp only [hop] at hb
            split at hι <;> try simp at hι
            rename_i f hcal
            simp only [hcal] at hb
            split at hι <;> try simp at hι
            simp only at hb
            exact hι.2 ▸ hb
          have hlow' : ∀ b ∈ ι, b < h0.length := fun b hb => by have := hlow b hb; rw [g.h0] at this; exact this
          refine go _ (stepA_rd hstep (by rw [← hrd, hι]) (fun b hbι ob hob => ?_)) (fun _ _ => rfl) (fun b hb => (iv.dom b).2 (.inl (hlow' b (hcι b hb)))) hGl
          have hb0 := hlow' b hbι
          rw [← hh] at hob
          rw [same b (by omega) ((iv.dom b).2 (.inl hb0)) (clear0 c0 (fun i ri hri h3 => by
            rcases h3 with ⟨h3, -⟩ | h3
            · omega
            · obtain ⟨l', h4, h5⟩ := rdOk_apart hι h3 b hbι
              exact ⟨ri, l', hri, h4, h5⟩))]
          exact hob
        · have nomn : ∀ i, i < ops.size → (k ≤ i ∧ i < q) ∨ (q ≤ i ∧ i < k) → ¬ Mn ops R i := by
            rintro i his hi ⟨oi, ri, hoi, hri, hei, hfi⟩
            by_cases hik : i = k
            · subst hik; exact hE ⟨ri, hri, hei⟩
            have hMi : Mn ops R i := ⟨oi, ri, hoi, hri, hei, hfi⟩
            rcases hi with ⟨h1, h2⟩ | ⟨h1, h2⟩
            · have hl := iv.done i h2 hMi
              rcases g.evc k i o oi r ri ho hoi hr hri (by omega) hrun hei c2 hfa hfi with h3 | h3 | h3
              · have := (before i h3).2; omega
              · exact (behind i his h3).2 hl
              · exact hrq (rdOk_some h3)
            · have hl := iv.todo i h1 hMi
              rcases g.evc k i o oi r ri ho hoi hr hri (by omega) hrun hei c2 hfa hfi with h3 | h3 | h3
              · exact hl (before i h3).1
              · have := (behind i his h3).1; omega
              · exact hrq (rdOk_some h3)
          have hag : ∀ b, b < (hAt R hF k).length → (gAt ops.size R hF q)[b]? = (hAt R hF k)[b]? := fun b hb => by
            rcases Nat.le_total k q with h | h
            · obtain ⟨news, e⟩ := g.heap_range2 (a := k) (q - k) (by have := iv.qle; omega) (fun i h1 h2 h3 => nomn i (by have := iv.qle; omega) (.inl ⟨h1, by omega⟩) (g.wr_mn h3))
              rw [show k + (q - k) = q by omega] at e
              rw [Reg.gLo (by rw [e, List.length_append]; omega), e, List.getElem?_append_left hb]
            · have e := g.gSame (q := q) (k - q) (by omega) (fun i h1 h2 h3 => nomn i (by omega) (.inr ⟨h1, by omega⟩) (g.wr_mn h3))
              rw [show q + (k - q) = k by omega] at e
              rw [← e, Reg.gLo hb]
          refine go (hAt R hF k) (by rw [hh]; exact hstep) hag (fun b hb => ?_) hn0
          have hlt := cι_lt hstep b hb
          rw [← hh] at hlt
          rcases g.rng k (by omega) hlt with h1 | ⟨j, j1, j2, j3⟩
          · exact (iv.dom b).2 (.inl h1)
          · have hjs : j < ops.size := by omega
            have hEj : Ev R j := Classical.byContradiction fun hne => by rw [g.heap_same hjs hne] at j3; omega
            rcases g.ev_two hEj with hM | hFj
            · have hjq : j < q := by
                rcases Nat.lt_or_ge j q with h | h
                · exact h
                · exact absurd hM (nomn j hjs (.inr ⟨h, j1⟩))
              exact (iv.dom b).2 (.inr ⟨j, hjs, iv.done j hjq hM, j2, j3⟩)
            · obtain ⟨oj, rj, hoj, hrj, hrunj, hfj⟩ := hFj
              by_cases hlj : Lst l j
              · exact (iv.dom b).2 (.inr ⟨j, hjs, hlj, j2, j3⟩)
              exfalso
              rcases g.fas j k oj o rj r hoj ho hrj hr (by omega) hrunj hfj hrun hfa with h2 | h2 | ⟨-, h2⟩
              · have := (behind j hjs h2).1; omega
              · exact hlj (before j h2).1
              · obtain ⟨rj', hrj', hfcj⟩ := g.fact j oj hoj
                rw [hrj] at hrj'; obtain rfl := Option.some.inj hrj'
                obtain ⟨_, _, _, _, _, hsj, -⟩ := hfcj.run hrunj
                obtain ⟨obj, hnj, -⟩ := fa_step hfj hsj
                have hhj : hAt R hF j = rj.h := by simp [hAt, hrj]
                have : b = rj.h.length := by rw [hhj] at j2; rw [hnj, List.length_append, List.length_singleton] at j3; omega
                rw [hci] at h2; exact h2 (this ▸ hb)
      · have c1 := cls_read c0 c2
        refine go _ (stepA_read c1 hstep he1 (fun y x b hx hb ob hob => ?_)) (fun _ _ => rfl) (by rw [cls_cι c2]; intro b hb; simp at hb) hGl
        have hbd : σ.dom b := blk1_dom hb (htr.eval y _ hx).2
        have hbk : b < (hAt R hF k).length := by rw [hh]; exact (List.getElem?_eq_some_iff.1 hob).1
        rw [same b hbk hbd (clear0 c0 (fun i ri hri h3 => by
          rcases h3 with ⟨-, l', h3, h4⟩ | h3
          · exact ⟨ri, l', hri, h3, apart_out h4 hx hb⟩
          · exact absurd (rdOk_some h3) (by rintro ⟨ι, h5, -⟩; rw [hrd] at h5; have := rdA_cls h5; omega))), hh]
        exact hob

theorem draw_any (g : Reg P ops R tm0 tmF h0 hF) {σ0 : Sg} {w0 : World} {Q : Exit → Act → World → Prop}
    (hQ : ∀ σ' w' a', Went P σ0 h0 w0 σ' hF w' → Keeps h0.length σ0 σ' → TR dl σ' tmF a' → Q .normal a' w') :
    ∀ (fuel : Nat) (l : Array Bool) (a : Act) (w : World) (σ : Sg) (q : Nat), Inv dl P ops R tm0 tmF h0 hF σ0 w0 l a w σ q → l.toList.count false = fuel → wpAny P .any ops Q fuel l a w := by
  have hend : ∀ (l : Array Bool) (a : Act) (w : World) (σ : Sg) (q : Nat), Inv dl P ops R tm0 tmF h0 hF σ0 w0 l a w σ q → (∀ k, k < ops.size → Lst l k) → Q .normal a w := by
    intro l a w σ q iv hall
    have hq : q = ops.size := by
      rcases Nat.lt_or_ge q ops.size with h | h
      · exact absurd (hall q h) (iv.todo q (Nat.le_refl _) (iv.qev h))
      · have := iv.qle; omega
    have hR : R[ops.size]? = none := List.getElem?_eq_none (by rw [g.len]; exact Nat.le_refl _)
    have e0 : hAt R hF ops.size = hF := by simp [hAt, hR]
    have e1 : gAt ops.size R hF q = hF := by rw [hq]; unfold gAt; rw [e0, Nat.sub_self]; simp [bornD]
    have e2 : tmAt R tmF ops.size = tmF := by simp [tmAt, hR]
    obtain ⟨s1, s2⟩ := g.slots ops.size (Nat.le_refl _)
    rw [e2] at s1 s2
    have hpw := iv.pw
    rw [e1] at hpw
    have hfull : Full σ hF := fun b => by
      rw [iv.dom b]
      constructor
      · rintro (h | ⟨k, k1, -, -, k4⟩)
        · have := g.len_mono ops.size (Nat.le_refl _); rw [e0] at this; omega
        · have := g.mono' (a := k + 1) (b := ops.size) k1 (Nat.le_refl _); rw [e0] at this; omega
      · intro h
        rcases g.rng ops.size (Nat.le_refl _) (by rw [e0]; exact h) with h1 | ⟨k, k1, k2, k3⟩
        · exact .inl h1
        · exact .inr ⟨k, k1, hall k k1, k2, k3⟩
    refine hQ σ w a ⟨hpw.rel, hfull, hpw.frm, hpw.img, hpw.wim⟩ iv.keeps ⟨iv.ad, by rw [s1]; exact iv.asz, fun t x hx => ?_⟩
    have htl : t < tm0.length := by rw [← s1]; exact (List.getElem?_eq_some_iff.1 hx).1
    obtain ⟨t1, t2⟩ := s2 t htl
    by_cases hw : ∃ (j : Nat) (oj : Oper), ops[j]? = some oj ∧ oj.dst = some t
    · obtain ⟨j, oj, hoj, hdj⟩ := hw
      have hjs := (Array.getElem?_eq_some_iff.1 hoj).1
      obtain ⟨rj, hrj, -⟩ := g.fact j oj hoj
      rw [t1 j oj rj hjs hoj hrj hdj] at hx
      simp only [Option.some.injEq] at hx
      subst hx
      exact iv.sl1 t j oj rj htl hoj hrj hdj (hall j hjs)
    · rw [t2 (fun j oj _ hoj hdj => hw ⟨j, oj, hoj, hdj⟩)] at hx
      exact iv.sl0 t htl (fun j oj h1 h2 _ => hw ⟨j, oj, h1, h2⟩) x hx
  intro fuel
  induction fuel with
  | zero =>
    intro l a w σ q iv hcount
    have hall : ∀ k, k < ops.size → Lst l k := by
      intro k hk
      have hkl : k < l.size := by rw [iv.size]; exact hk
      have h1 : ¬ false ∈ l.toList := List.count_eq_zero.1 hcount
      unfold Lst
      rw [Array.getElem?_eq_getElem hkl]
      cases hb : l[k] with
      | true => rfl
      | false => exact absurd (by rw [← hb]; simp) h1
    refine ⟨?_, hend l a w σ q iv hall⟩
    refine List.eq_nil_iff_forall_not_mem.2 fun k hk => ?_
    obtain ⟨o, h1, h2, -⟩ := ready_mem iv.size hk
    exact h2 (hall k (Array.getElem?_eq_some_iff.1 h1).1)
  | succ fuel ih =>
    intro l a w σ q iv hcount
    refine ⟨fun hnil => hend l a w σ q iv (ready_nil iv.size g.low hnil), fun k hk => ?_⟩
    obtain ⟨o, h1, h2, h3⟩ := ready_mem iv.size hk
    have hks := (Array.getElem?_eq_some_iff.1 h1).1
    have hkl : k < l.size := by rw [iv.size]; exact hks
    refine iv.ops_ok g h1 h2 h3 (fun a' w' σ' q' iv' => ih _ a' w' σ' q' iv' ?_)
    have hlf : l[k] = false := by
      cases hb : l[k] with
      | false => rfl
      | true => exact absurd (by unfold Lst; rw [Array.getElem?_eq_getElem hkl, hb]) h2
    rw [Array.toList_setIfInBounds, List.count_set (by simpa using hkl)]
    simp [hlf, hcount]
end

/-- Every choice that a drawn region may be given: a departure of the compiler's is let by. -/
def Mixed (P : Program) : Prop := P.follows .mixedOrders = true

theorem draw_sound {P : Program} {ops : Array Oper} {Q : Exit → Act → World → Prop} {tm tmF : Tm} {h hF : List AObj} {orc orcF : List Orc} {R : List DRec} {cs : List Prop} {σ : Sg} {w : World} {a : Act} {id : Nat}
    (hm : Mixed P) (hd : drawGo P ops.toList ops.toList tm h orc = some (R, tmF, hF, orcF, cs)) (hc : All cs) (hok : drawOk ops.toList R (masks ops.toList []) = true)
    (hf : Full σ h) (hr : RelH P σ h w) (ht : TR dl σ tm a) (hQ : ∀ σ' w' a', Went P σ h w σ' hF w' → Keeps h.length σ σ' → TR dl σ' tmF a' → Q .normal a' w') (ro : Option Nat) (hL : ¬ LetsOut Q) (hnd : noDef ops.toList = true) :
    (Code.region id ops true).wpIn (wideR ro) 0 P Q a w := by
  have g := Reg.of_ok hd hc hok
  obtain ⟨q, n1, n2, n3, n4⟩ := g.next_mn ops.size 0 (by omega)
  have nowr : ∀ i, i < q → ¬ Wr R i := fun i h1 h2 => n3 i (by omega) h1 (g.wr_mn h2)
  have hgq : gAt ops.size R hF q = gAt ops.size R hF 0 := by
    have := g.gSame (q := 0) q (by omega) (fun i h1 h2 => nowr i (by omega))
    rwa [Nat.zero_add] at this
  have hag : ∀ b, σ.dom b → (gAt ops.size R hF q)[b]? = h[b]? := fun b hb => by
    have hl := (hf b).1 hb
    rw [hgq, Reg.gLo (by rw [g.h0]; exact hl), g.h0]
  have hnl : ∀ k, ¬ Lst (Array.replicate ops.size false) k := by
    intro k hk
    unfold Lst at hk
    rw [Array.getElem?_replicate] at hk
    split at hk <;> simp at hk
  have hr' : RelH P σ h { w with drawn := w.drawn + 1 } := hr.heap_eq rfl
  refine wpIn_region_any hm (wpAny_in ro hL (noDef_out hnd) (draw_any g (σ0 := σ) (w0 := { w with drawn := w.drawn + 1 }) (fun σ' w' a' h1 h2 h3 => hQ σ' w' a' ?_ h2 h3) ops.size _ a _ σ q ?_ (by simp)))
  · exact ⟨h1.rel, h1.full, ⟨h1.frm.os, h1.frm.tape, h1.frm.output, h1.frm.size, h1.frm.block⟩, h1.img, h1.wim⟩
  · exact ⟨by simp, fun k o _ hl => absurd hl (hnl k), n2, fun k h1 h2 => absurd h2 (n3 k (by omega) h1), fun k _ _ => hnl k, n4, fun b => by
        rw [hf b]; exact ⟨.inl, fun h => h.elim (fun x => x) (fun ⟨k, _, h2, _⟩ => absurd h2 (hnl k))⟩, (PW.refl hr').agree hag, fun k h1 h2 _ => by
        obtain ⟨o, r, ho, hrk, hrun, hfa⟩ := h2
        obtain ⟨r', hr2, hfc⟩ := g.fact k o ho
        rw [hrk] at hr2; obtain rfl := Option.some.inj hr2
        obtain ⟨_, _, _, _, _, hs, -⟩ := hfc.run hrun
        obtain ⟨ob, hn, -⟩ := fa_step hfa hs
        have hh : hAt R hF k = r.h := by simp [hAt, hrk]
        obtain ⟨news, e⟩ := g.heap_range2 (a := k + 1) (q - (k + 1)) (by omega) (fun j h5 h6 => nowr j (by omega))
        rw [show k + 1 + (q - (k + 1)) = q by omega] at e
        rw [e, List.getElem?_append_left (by rw [hn, hh]; simp)], Keeps.refl _ _, ht.defers, ht.size,
      fun t j o r _ _ _ _ hl => absurd hl (hnl j), fun t _ _ x hx => ht.get t x hx⟩
end Go.Abs
