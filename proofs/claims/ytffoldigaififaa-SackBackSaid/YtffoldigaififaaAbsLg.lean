import Derived.Test.YtffoldigaififaaAbsS
set_option linter.unusedVariables false
set_option linter.unusedSimpArgs false
/- Things told in another way. -/
namespace Go.Abs
variable {dl : List Deferred}
/-- an empty row -/
def emptyO : AObj → Bool
  | .ints _ _ _ [] => true
  | .bools _ _ [] => true
  | .strs _ _ [] => true
  | .rows _ _ [] => true
  | .cells _ _ [] => true
  | _ => false
def reT (m : Nat → Nat) : Tm → Tm
  | [] => []
  | none :: l => none :: reT m l
  | some x :: l => some (rn m x) :: reT m l
def moveF (b n c : Nat) : Nat := if c = b then n else c
/-- a value with a nil slice in it told in another way -/
def reAt : List Nat → AV → AV → Option AV
  | [], .v (.slice none 0 0), y => some y
  | i :: p, .agg l, y => match l[i]? with
    | some x => match reAt p x y with
      | some z => some (.agg (l.set i z))
      | none => none
    | none => none
  | i :: p, .tup l, y => match l[i]? with
    | some x => match reAt p x y with
      | some z => some (.tup (l.set i z))
      | none => none
    | none => none
  | _, _, _ => none
theorem denL_set_same {σ : Sg} {l : List AV} {i : Nat} {x z : AV} (hx : l[i]? = some x) (he : den σ z = den σ x) : denL σ (l.set i z) = denL σ l := by
  rw [denL_set]
  apply List.ext_getElem?
  intro j
  rw [List.getElem?_set]
  split
  · rename_i e; subst e
    split
    · rw [denL_getElem?, hx, he]; rfl
    · rename_i hn; rw [List.getElem?_eq_none (by omega)]
  · rfl
theorem wfL_set {σ : Sg} {l : List AV} {i : Nat} {z : AV} (hw : wfL σ l) (hz : wf σ z) : wfL σ (l.set i z) := by
  simp only [wfL_iff] at hw ⊢
  intro x hx
  rcases List.mem_or_eq_of_mem_set hx with hx | rfl
  · exact hw x hx
  · exact hz
theorem reAt_sound {σ : Sg} {y : AV} (hy : den σ y = .slice none 0 0) (hw : wf σ y) (p : List Nat) : ∀ {x z : AV}, reAt p x y = some z → wf σ x → den σ z = den σ x ∧ wf σ z := by
  induction p with
  | nil =>
    intro x z h hx
    unfold reAt at h
    split at h
    · simp at h; subst h; exact ⟨hy, hw⟩
    · rename_i e; simp at e
    · rename_i e; simp at e
    · simp at h
  | cons i p ih =>
    intro x z h hx
    cases x with
    | agg l =>
      simp only [reAt] at h
      cases hx0 : l[i]? with
      | none => rw [hx0] at h; simp at h
      | some x0 =>
        rw [hx0] at h; simp only at h
        cases hz0 : reAt p x0 y with
        | none => rw [hz0] at h; simp at h
        | some z0 =>
          rw [hz0] at h; simp at h; subst h
          obtain ⟨a, b⟩ := ih hz0 ((wfL_iff σ l).1 hx x0 (List.mem_of_getElem? hx0))
          exact ⟨by simp only [den]; rw [denL_set_same hx0 a], wfL_set hx b⟩
    | tup l =>
      simp only [reAt] at h
      cases hx0 : l[i]? with
      | none => rw [hx0] at h; simp at h
      | some x0 =>
        rw [hx0] at h; simp only at h
        cases hz0 : reAt p x0 y with
        | none => rw [hz0] at h; simp at h
        | some z0 =>
          rw [hz0] at h; simp at h; subst h
          obtain ⟨a, b⟩ := ih hz0 ((wfL_iff σ l).1 hx x0 (List.mem_of_getElem? hx0))
          exact ⟨by simp only [den]; rw [denL_set_same hx0 a], wfL_set hx b⟩
    | _ => simp [reAt] at h
def ghA (P : Program) : Gh → Tm → List AObj → Option (Tm × List AObj)
  | .nil t s o, tm, h => match tm[t]?, emptyO o with
    | some (some (.v (.slice none 0 0))), true => if 0 < s then some (tm.set t (some (.sw h.length s)), h ++ [o]) else none
    | _, _ => none
  | .nilc b i s o, tm, h => match h[b]?, emptyO o with
    | some (.cells ty w l), true => match l[i]? with
      | some (.v (.slice none 0 0)) => if 0 < s then some (tm, h.set b (.cells ty w (l.set i (.sw h.length s))) ++ [o]) else none
      | _ => none
    | _, _ => none
  | .move b, tm, h => match h[b]? with
    | some o => if o.live = true then some (reT (moveF b h.length) tm, (h.map (rnO (moveF b h.length))).set b .dead ++ [rnO (moveF b h.length) o]) else none
    | none => none
  | .freeze b, tm, h => match h[b]? with
    | some o => if o.live = true ∧ o.row = true then some (tm, h.set b (o.setW false)) else none
    | none => none
  | .view b s n, tm, h => match h[b]? with
    | some (.cells _ w l) => match mkRow (ekOf (l.take s)) n l with
      | some o => some (tm, h.set b (o.setW w))
      | none => none
    | _ => none
  | .nila t p s o, tm, h => match tm[t]?, emptyO o with
    | some (some x), true => match reAt p x (.sw h.length s) with
      | some z => if 0 < s then some (tm.set t (some z), h ++ [o]) else none
      | none => none
    | _, _ => none
def popG (P : Program) : List Orc → Tm → List AObj → Option (Tm × List AObj × List Orc)
  | .gh g :: r, tm, h => match ghA P g tm h with
    | some (tm', h') => popG P r tm' h'
    | none => none
  | orc, tm, h => some (tm, h, orc)

/-- what is told in another way at the end -/
def finG : List Orc → List Orc
  | .fin g :: r => .gh g :: finG r
  | r => r
theorem emptyO_spec {o : AObj} (h : emptyO o = true) : o.live = true ∧ o.row = true ∧ o.len = 0 ∧ ∀ σ, wfO σ o := by
  unfold emptyO at h
  split at h <;> first | exact ⟨rfl, rfl, rfl, fun _ => trivial⟩ | exact ⟨rfl, rfl, by simp [AObj.len], fun _ => trivial⟩ | simp at h
section
variable {P : Program} {σ : Sg} {h : List AObj} {w : World}
/-- an object told in another way -/
theorem relH_set (hr : RelH P σ h w) {b : Nat} {o o' : AObj} (ho : h[b]? = some o) (hl : o.live = true) (hl' : o'.live = true) (hrow : o.row = true) (hrow' : o'.row = true) (hden : denO σ o' = denO σ o) (htg : o'.tag = o.tag ∨ o'.tag.1 = 0) (hwr : o'.wr = true → o.wr = true) (hwf : wfO σ o → wfO σ o') :
    RelH P σ (h.set b o') w ∧ (∀ r, img σ (h.set b o') r → img σ h r) ∧ (∀ r, wimg σ (h.set b o') r → wimg σ h r) := by
  have hlen : o'.len = o.len := by have := congrArg List.length hden; simpa using this
  have back : ∀ {k : Nat} {x : AObj}, (h.set b o')[k]? = some x → ∃ y : AObj, h[k]? = some y ∧ (x.live = true → y.live = true) ∧ (x.wr = true → y.wr = true) := by
    intro k x hx
    rcases set_get _ _ _ hx with ⟨rfl, rfl, -⟩ | ⟨-, h1⟩
    · exact ⟨o, ho, fun _ => hl, hwr⟩
    · exact ⟨x, h1, id, id⟩
  suffices hh : RelC P σ (h.set b o') w ∧ (∀ r, img σ (h.set b o') r → img σ h r) ∧ (∀ r, wimg σ (h.set b o') r → wimg σ h r) from
    ⟨hr.step hh.1 (Frm.refl _ _) (fun r hi => .inl (hh.2.2 r hi)), hh.2⟩
  refine ⟨⟨fun k hk => by simpa using hr.lt k hk, ?_, ?_, ?_⟩, ?_, ?_⟩
  · intro k x hk hx hxl
    rcases set_get _ _ _ hx with ⟨rfl, rfl, -⟩ | ⟨-, h1⟩
    · have hb := hr.blk k o hk ho hl
      refine ⟨by rw [hlen]; exact hb.len, hb.le, hb.nil, fun hc => ?_, rowNo hrow'⟩
      obtain ⟨ob, r1, r2⟩ := hb.rep hc
      obtain ⟨a, t, fr, e, r3, r4, r5⟩ := (Rep.row hrow).1 r2
      exact ⟨ob, r1, (Rep.row hrow').2 ⟨a, t, fr, e, fun hw => r3 (hwr hw), ⟨r4.1, htg.elim (fun h => by rw [h]; exact r4.2) .inl⟩, by rw [hden]; exact r5⟩⟩
    · exact hr.blk k x hk h1 hxl
  · intro k k' x x' hk hk' hx hx' hlx hlx' c1 c2 hwx he
    obtain ⟨y, h1, h2, h3⟩ := back hx
    obtain ⟨y', k1, k2, k3⟩ := back hx'
    exact hr.inj k k' y y' hk hk' h1 k1 (h2 hlx) (k2 hlx') c1 c2 (hwx.imp h3 k3) he
  · intro k x hk hx
    rcases set_get _ _ _ hx with ⟨rfl, rfl, -⟩ | ⟨-, h1⟩
    · exact hwf (hr.wfo k o hk ho)
    · exact hr.wfo k x hk h1
  · rintro r ⟨k, x, h1, h2, h3, h4, h5⟩
    obtain ⟨y, q1, q2, q3⟩ := back h2
    exact ⟨k, y, h1, q1, q2 h3, h4, h5⟩
  · rintro r ⟨k, x, h1, h2, h3, h4, h6, h5⟩
    obtain ⟨y, q1, q2, q3⟩ := back h2
    exact ⟨k, y, h1, q1, q2 h3, h4, q3 h6, h5⟩
theorem went_set (hr : RelH P σ h w) (hf : Full σ h) {b : Nat} {o o' : AObj} (ho : h[b]? = some o) (hl : o.live = true) (hl' : o'.live = true) (hrow : o.row = true) (hrow' : o'.row = true) (hden : denO σ o' = denO σ o) (htg : o'.tag = o.tag ∨ o'.tag.1 = 0) (hwr : o'.wr = true → o.wr = true) (hwf : wfO σ o → wfO σ o') :
    Went P σ h w σ (h.set b o') w := by
  obtain ⟨h1, h2, h3⟩ := relH_set hr ho hl hl' hrow hrow' hden htg hwr hwf
  exact ⟨h1, fun c => by rw [List.length_set]; exact hf c, Frm.refl _ _, fun r hi => .inl (h2 r hi), fun r hi => .inl (h3 r hi)⟩
/-- an empty row that lies nowhere -/
theorem went_nil (hr : RelH P σ h w) (hf : Full σ h) {o : AObj} (he : emptyO o = true) :
    Went P σ h w (σ.more h.length [⟨0, 0, 0, 0, true⟩]) (h ++ [o]) w ∧ Keeps h.length σ (σ.more h.length [⟨0, 0, 0, 0, true⟩]) ∧ Ext σ (σ.more h.length [⟨0, 0, 0, 0, true⟩]) ∧
      (∀ s, 0 < s → wf (σ.more h.length [⟨0, 0, 0, 0, true⟩]) (.sw h.length s) ∧ den (σ.more h.length [⟨0, 0, 0, 0, true⟩]) (.sw h.length s) = .slice none 0 0) := by
  obtain ⟨e1, e2, e3, e4⟩ := emptyO_spec he
  have hfr : ¬ σ.dom h.length := fun hd => by have := (hf _).1 hd; omega
  have hext := Sg.more_ext1 σ h.length ⟨0, 0, 0, 0, true⟩ hfr
  have hrel : RelC P (σ.more h.length [⟨0, 0, 0, 0, true⟩]) (h ++ [o]) w := by
    refine ⟨fun b hb => ?_, fun b x hb hx hl => ?_, fun b b' x x' hb hb' hx hx' hl hl' c1 c2 hw he => ?_, fun b x hb hx => ?_⟩
    · rcases (Sg.more_dom_one _ _ _ _).1 hb with k | rfl
      · have := hr.lt b k; simp; omega
      · simp
    · rcases (Sg.more_dom_one _ _ _ _).1 hb with k | rfl
      · rw [List.getElem?_append_left (hr.lt b k)] at hx
        rw [(hext b k).2]
        exact (hr.blk b x k hx hl).ext hext (hr.wfo b x k hx)
      · rw [List.getElem?_append_right (Nat.le_refl _)] at hx
        simp at hx; subst hx
        rw [Sg.more_one]
        exact ⟨e3, Nat.le_refl _, fun _ => rfl, fun h => by simp at h, rowNo e2⟩
    · rcases (Sg.more_dom_one _ _ _ _).1 hb with k | rfl
      · rcases (Sg.more_dom_one _ _ _ _).1 hb' with k' | rfl
        · rw [List.getElem?_append_left (hr.lt _ k)] at hx
          rw [List.getElem?_append_left (hr.lt _ k')] at hx'
          simp only [Sg.at_, (hext b k).2, (hext b' k').2] at c1 c2 he
          exact hr.inj b b' x x' k k' hx hx' hl hl' c1 c2 hw he
        · simp [Sg.more_one] at c2
      · simp [Sg.more_one] at c1
    · rcases (Sg.more_dom_one _ _ _ _).1 hb with k | rfl
      · rw [List.getElem?_append_left (hr.lt b k)] at hx
        exact wfO_ext hext _ (hr.wfo b x k hx)
      · rw [List.getElem?_append_right (Nat.le_refl _)] at hx
        simp at hx; subst hx
        exact e4 _
  refine ⟨went_of hr hrel ?_ (Frm.refl _ _) ?_ ?_, fun b hb => Sg.more_lt _ _ hb, hext, fun s hs => ⟨⟨(Sg.more_dom_one _ _ _ _).2 (.inr rfl), hs⟩, by simp [den, Sg.more_one, Loc.base]⟩⟩
  · intro c
    rw [Sg.more_dom_one, List.length_append, hf c]; simp; omega
  · rintro r ⟨b, x, h1, h2, h3, h4, h5⟩
    rcases (Sg.more_dom_one _ _ _ _).1 h1 with k | rfl
    · rw [List.getElem?_append_left ((hf b).1 k)] at h2
      simp only [Sg.at_, (hext b k).2] at h4 h5
      exact .inl ⟨b, x, k, h2, h3, h4, h5⟩
    · simp [Sg.more_one] at h4
  · rintro r ⟨b, x, h1, h2, h3, h4, h6, h5⟩
    rcases (Sg.more_dom_one _ _ _ _).1 h1 with k | rfl
    · rw [List.getElem?_append_left ((hf b).1 k)] at h2
      simp only [Sg.at_, (hext b k).2] at h4 h5
      exact .inl ⟨b, x, k, h2, h3, h4, h6, h5⟩
    · simp [Sg.more_one] at h4

theorem reT_get {m : Nat → Nat} : ∀ {tm : Tm} {t : Nat} {y : AV}, (reT m tm)[t]? = some (some y) → ∃ x, tm[t]? = some (some x) ∧ y = rn m x
  | [], t, y, h => by simp [reT] at h
  | none :: l, 0, y, h => by simp [reT] at h
  | none :: l, t + 1, y, h => by simp only [reT, List.getElem?_cons_succ] at h; simpa using reT_get h
  | some x :: l, 0, y, h => by simp [reT] at h; exact ⟨x, by simp, h.symm⟩
  | some x :: l, t + 1, y, h => by simp only [reT, List.getElem?_cons_succ] at h; simpa using reT_get h
theorem reT_length {m : Nat → Nat} : ∀ {tm : Tm}, (reT m tm).length = tm.length
  | [] => rfl
  | none :: l => by simp [reT, reT_length]
  | some x :: l => by simp [reT, reT_length]
theorem went_move (hr : RelH P σ h w) (hf : Full σ h) {b : Nat} {o : AObj} (ho : h[b]? = some o) (hl : o.live = true) :
    Went P σ h w (σ.more h.length [σ.loc b]) ((h.map (rnO (moveF b h.length))).set b .dead ++ [rnO (moveF b h.length) o]) w ∧ Keeps h.length σ (σ.more h.length [σ.loc b]) ∧
      (∀ c, σ.dom c → (σ.more h.length [σ.loc b]).dom (moveF b h.length c) ∧ (σ.more h.length [σ.loc b]).loc (moveF b h.length c) = σ.loc c) := by
  have hfr : ¬ σ.dom h.length := fun hd => by have := (hf _).1 hd; omega
  have hb : b < h.length := (List.getElem?_eq_some_iff.1 ho).1
  have hdb : σ.dom b := (hf b).2 hb
  have hext := Sg.more_ext1 σ h.length (σ.loc b) hfr
  have hm : ∀ c, σ.dom c → (σ.more h.length [σ.loc b]).dom (moveF b h.length c) ∧ (σ.more h.length [σ.loc b]).loc (moveF b h.length c) = σ.loc c := by
    intro c hc
    unfold moveF
    by_cases e : c = b
    · subst e; rw [if_pos rfl]; exact ⟨(Sg.more_dom_one _ _ _ _).2 (.inr rfl), Sg.more_one _ _ _⟩
    · rw [if_neg e]; exact hext c hc
  -- each object: the old one, told under its new name
  have back : ∀ {k : Nat} {x : AObj}, ((h.map (rnO (moveF b h.length))).set b .dead ++ [rnO (moveF b h.length) o])[k]? = some x → (k = b ∧ x = .dead) ∨
      ∃ c y, h[c]? = some y ∧ σ.dom c ∧ x = rnO (moveF b h.length) y ∧ (σ.more h.length [σ.loc b]).loc k = σ.loc c ∧ ((k = h.length ∧ c = b) ∨ (k = c ∧ c ≠ b)) := by
    intro k x hx
    by_cases hk : k < h.length
    · rw [List.getElem?_append_left (by simpa using hk)] at hx
      rcases set_get _ _ _ hx with ⟨rfl, rfl, -⟩ | ⟨hne, h1⟩
      · exact .inl ⟨rfl, rfl⟩
      · rw [List.getElem?_map] at h1
        simp only [Option.map_eq_some_iff] at h1
        obtain ⟨y, hy, rfl⟩ := h1
        exact .inr ⟨k, y, hy, (hf k).2 hk, rfl, Sg.more_lt _ _ hk, .inr ⟨rfl, hne⟩⟩
    · have hk2 := (List.getElem?_eq_some_iff.1 hx).1
      simp at hk2
      have : k = h.length := by omega
      subst this
      rw [List.getElem?_append_right (by simp)] at hx
      simp at hx; subst hx
      exact .inr ⟨b, o, ho, hdb, rfl, Sg.more_one _ _ _, .inl ⟨rfl, rfl⟩⟩
  have same : ∀ {c : Nat} {y : AObj}, h[c]? = some y → σ.dom c → Same σ (σ.more h.length [σ.loc b]) y (rnO (moveF b h.length) y) := fun hy hc => rnO_den hm _ (hr.wfo _ _ hc hy)
  refine ⟨went_of hr ⟨fun k hk => ?_, fun k x hk hx hxl => ?_, fun k k' x x' hk hk' hx hx' hlx hlx' c1 c2 hwx he => ?_, fun k x hk hx => ?_⟩ ?_ (Frm.refl _ _) ?_ ?_, fun c hc => Sg.more_lt _ _ hc, hm⟩
  · rcases (Sg.more_dom_one _ _ _ _).1 hk with k1 | rfl
    · have := hr.lt k k1; simp; omega
    · simp
  · rcases back hx with ⟨rfl, rfl⟩ | ⟨c, y, hy, hc, rfl, hloc, -⟩
    · simp [AObj.live] at hxl
    · rw [hloc, ← (same hy hc).blk]
      exact hr.blk c y hc hy (by rw [← (same hy hc).live]; exact hxl)
  · rcases back hx with ⟨rfl, rfl⟩ | ⟨c, y, hy, hc, rfl, hloc, hkc⟩
    · simp [AObj.live] at hlx
    rcases back hx' with ⟨rfl, rfl⟩ | ⟨c', y', hy', hc', rfl, hloc', hkc'⟩
    · simp [AObj.live] at hlx'
    simp only [Sg.at_, hloc, hloc'] at c1 c2 he
    have := hr.inj c c' y y' hc hc' hy hy' (by rw [← (same hy hc).live]; exact hlx) (by rw [← (same hy' hc').live]; exact hlx') c1 c2 (by rw [← (same hy hc).wr, ← (same hy' hc').wr]; exact hwx) he
    subst this
    rcases hkc with ⟨rfl, e1⟩ | ⟨rfl, e1⟩ <;> rcases hkc' with ⟨rfl, e2⟩ | ⟨e3, e2⟩
    · rfl
    · exact absurd e1 e2
    · exact absurd e2 e1
    · exact e3.symm
  · rcases back hx with ⟨rfl, rfl⟩ | ⟨c, y, hy, hc, rfl, -⟩
    · trivial
    · exact (same hy hc).wf (hr.wfo c y hc hy)
  · intro c
    rw [Sg.more_dom_one, hf c]; simp; omega
  · rintro r ⟨k, x, h1, h2, h3, h4, h5⟩
    rcases back h2 with ⟨rfl, rfl⟩ | ⟨c, y, hy, hc, rfl, hloc, -⟩
    · simp [AObj.live] at h3
    · simp only [Sg.at_, hloc] at h4 h5
      exact .inl ⟨c, y, hc, hy, by rw [← (same hy hc).live]; exact h3, h4, h5⟩
  · rintro r ⟨k, x, h1, h2, h3, h4, h6, h5⟩
    rcases back h2 with ⟨rfl, rfl⟩ | ⟨c, y, hy, hc, rfl, hloc, -⟩
    · simp [AObj.live] at h3
    · simp only [Sg.at_, hloc] at h4 h5
      exact .inl ⟨c, y, hc, hy, by rw [← (same hy hc).live]; exact h3, h4, by rw [← (same hy hc).wr]; exact h6, h5⟩

theorem TR.ext {σ' : Sg} {tm : Tm} {a : Act} (ht : TR dl σ tm a) (he : Ext σ σ') : TR dl σ' tm a :=
  ⟨ht.defers, ht.size, fun t x hx => by obtain ⟨h1, h2⟩ := ht.get t x hx; exact ⟨by rw [den_ext he x h2]; exact h1, wf_ext he x h2⟩⟩
theorem ghA_sound {g : Gh} {tm tm' : Tm} {h' : List AObj} {a : Act} (hg : ghA P g tm h = some (tm', h')) (hr : RelH P σ h w) (hf : Full σ h) (ht : TR dl σ tm a) :
    h.length ≤ h'.length ∧ ∃ σ', Went P σ h w σ' h' w ∧ Keeps h.length σ σ' ∧ TR dl σ' tm' a := by
  cases g with
  | nil t s o =>
    simp only [ghA] at hg
    split at hg <;> try simp at hg
    rename_i htm he
    obtain ⟨hs, rfl, rfl⟩ := hg
    obtain ⟨h1, h2, h3, h4⟩ := went_nil hr hf he
    refine ⟨by simp, _, h1, h2, ?_⟩
    have ht' := ht.ext h3
    obtain ⟨k1, k2⟩ := h4 s hs
    exact ht'.set_same htm (by rw [k2]; rfl) k1
  | nilc b i s o =>
    simp only [ghA] at hg
    split at hg <;> try simp at hg
    rename_i ty wr l hb he
    split at hg <;> simp at hg
    rename_i hi
    obtain ⟨hs, rfl, rfl⟩ := hg
    obtain ⟨h1, h2, h3, h4⟩ := went_nil hr hf he
    obtain ⟨k1, k2⟩ := h4 s hs
    have hbl : b < h.length := (List.getElem?_eq_some_iff.1 hb).1
    have hb' : (h ++ [o])[b]? = some (.cells ty wr l) := by rw [List.getElem?_append_left hbl]; exact hb
    have hw2 := went_set (o' := .cells ty wr (l.set i (.sw h.length s))) h1.rel h1.full hb' rfl rfl rfl rfl (by
      simp only [denO, denL_set, k2]
      apply List.ext_getElem?
      intro j
      rw [List.getElem?_set]
      split
      · rename_i e; subst e
        split
        · rw [denL_getElem?, hi]; rfl
        · rename_i hn; rw [List.getElem?_eq_none (by omega)]
      · rfl) (.inl rfl) id (fun hw => by
      simp only [wfO, wfL_iff] at hw ⊢
      intro x hx
      rcases List.mem_or_eq_of_mem_set hx with hx | rfl
      · exact hw x hx
      · exact k1)
    have e : h.set b (.cells ty wr (l.set i (.sw h.length s))) ++ [o] = (h ++ [o]).set b (.cells ty wr (l.set i (.sw h.length s))) := by rw [List.set_append_left _ _ hbl]
    refine ⟨by simp, _, by rw [e]; exact h1.trans hw2, h2, ht.ext h3⟩
  | move b =>
    simp only [ghA] at hg
    split at hg <;> simp at hg
    rename_i o ho
    obtain ⟨hl, rfl, rfl⟩ := hg
    obtain ⟨h1, h2, h3⟩ := went_move hr hf ho hl
    refine ⟨by simp, _, by simpa using h1, h2, ht.defers, by rw [reT_length]; exact ht.size, fun t y hy => ?_⟩
    obtain ⟨x, hx, rfl⟩ := reT_get hy
    obtain ⟨g1, g2⟩ := ht.get t x hx
    obtain ⟨d1, d2⟩ := rn_den h3 x g2
    exact ⟨by rw [d1]; exact g1, d2⟩
  | freeze b =>
    simp only [ghA] at hg
    split at hg <;> simp at hg
    rename_i o ho
    obtain ⟨⟨hl, hrow⟩, rfl, rfl⟩ := hg
    exact ⟨by simp, σ, went_set hr hf ho hl (by simp [hl]) hrow (by simp [hrow]) (by simp) (.inl (setW_tag _ _)) (fun hw => by rw [setW_wr hl hrow] at hw; simp at hw) (fun hw => setW_wf hw), Keeps.refl _ _, ht⟩
  | view b s n =>
    simp only [ghA] at hg
    split at hg <;> try simp at hg
    rename_i ty wr l ho
    split at hg <;> simp at hg
    rename_i o hmk
    obtain ⟨rfl, rfl⟩ := hg
    have hk := mkRow_den (σ := σ) hmk
    exact ⟨by simp, σ, went_set hr hf ho rfl (by simp [hk.live]) rfl (by simp [hk.row]) (by rw [setW_den, hk.den]; rfl) (.inr (by rw [setW_tag]; exact hk.tag)) (fun hw => by rw [setW_wr hk.live hk.row] at hw; exact hw) (fun hw => setW_wf (hk.wf hw)), Keeps.refl _ _, ht⟩
  | nila t p s o =>
    simp only [ghA] at hg
    split at hg <;> try simp at hg
    rename_i x htm he
    split at hg <;> simp at hg
    rename_i z hz
    obtain ⟨hs, rfl, rfl⟩ := hg
    obtain ⟨h1, h2, h3, h4⟩ := went_nil hr hf he
    refine ⟨by simp, _, h1, h2, ?_⟩
    have ht' := ht.ext h3
    obtain ⟨k1, k2⟩ := h4 s hs
    obtain ⟨d1, d2⟩ := reAt_sound k2 k1 p hz (ht'.get _ _ htm).2
    exact ht'.set_same htm d1 d2
theorem popG_sound : ∀ {orc orc' : List Orc} {σ : Sg} {h h' : List AObj} {tm tm' : Tm} {a : Act}, popG P orc tm h = some (tm', h', orc') → RelH P σ h w → Full σ h → TR dl σ tm a →
    ∃ σ', Went P σ h w σ' h' w ∧ Keeps h.length σ σ' ∧ TR dl σ' tm' a := by
  intro orc
  induction orc with
  | nil => intro orc' σ h h' tm tm' a hp hr hf ht; simp [popG] at hp; obtain ⟨rfl, rfl, rfl⟩ := hp; exact ⟨σ, Went.refl hr hf, Keeps.refl _ _, ht⟩
  | cons x l ih =>
    intro orc' σ h h' tm tm' a hp hr hf ht
    cases x with
    | gh g =>
      simp only [popG] at hp
      split at hp <;> try simp at hp
      rename_i tm1 h1 hg
      obtain ⟨k0, σ1, k1, k2, k3⟩ := ghA_sound hg hr hf ht
      obtain ⟨σ2, q1, q2, q3⟩ := ih hp k1.rel k1.full k3
      exact ⟨σ2, k1.trans q1, k2.trans (q2.mono k0), q3⟩
    | _ => simp [popG] at hp; obtain ⟨rfl, rfl, rfl⟩ := hp; exact ⟨σ, Went.refl hr hf, Keeps.refl _ _, ht⟩
theorem ghA_length {g : Gh} {tm tm' : Tm} {h h' : List AObj} (hg : ghA P g tm h = some (tm', h')) : h.length ≤ h'.length := by
  cases g <;> simp only [ghA] at hg
  · split at hg <;> simp at hg; obtain ⟨-, -, rfl⟩ := hg; simp
  · split at hg <;> try simp at hg
    split at hg <;> simp at hg; obtain ⟨-, -, rfl⟩ := hg; simp
  · split at hg <;> simp at hg; obtain ⟨-, -, rfl⟩ := hg; simp
  · split at hg <;> simp at hg; obtain ⟨-, -, rfl⟩ := hg; simp
  · split at hg <;> try simp at hg
    split at hg <;> simp at hg; obtain ⟨-, rfl⟩ := hg; simp
  · split at hg <;> try simp at hg
    split at hg <;> simp at hg; obtain ⟨-, -, rfl⟩ := hg; simp
theorem popG_length : ∀ {orc orc' : List Orc} {h h' : List AObj} {tm tm' : Tm}, popG P orc tm h = some (tm', h', orc') → h.length ≤ h'.length := by
  intro orc
  induction orc with
  | nil => intro orc' h h' tm tm' hp; simp [popG] at hp; obtain ⟨-, rfl, -⟩ := hp; exact Nat.le_refl _
  | cons x l ih =>
    intro orc' h h' tm tm' hp
    cases x with
    | gh g =>
      simp only [popG] at hp
      split at hp <;> try simp at hp
      rename_i hg
      exact Nat.le_trans (ghA_length hg) (ih hp)
    | _ => simp [popG] at hp; obtain ⟨-, rfl, -⟩ := hp; exact Nat.le_refl _
/-- a run behind what is told in another way -/
theorem ARun.pop {n : Nat} {c : Code} {orc orc' : List Orc} {tm tm1 tm2 : Tm} {h h1 h2 : List AObj} {e : AExit} (hp : popG P orc tm h = some (tm1, h1, orc')) (hrun : ARun P n c tm1 h1 e tm2 h2) : ARun P n c tm h e tm2 h2 := by
  intro hn
  obtain ⟨k1, k2⟩ := hrun (Nat.le_trans hn (popG_length hp))
  refine ⟨k1, fun r dl σ w a hq hf hr ht => ?_⟩
  obtain ⟨σ', q1, q2, q3⟩ := popG_sound (w := w) hp hr hf ht
  refine wpIn_mono (k2 r dl σ' w a hq q1.full q1.rel q3) ?_
  rintro x a' w' ⟨rfl, σ'', r1, r2, r3⟩
  exact ⟨rfl, σ'', q1.trans r1, (q2.mono hn).trans r2, r3⟩
end
end Go.Abs
