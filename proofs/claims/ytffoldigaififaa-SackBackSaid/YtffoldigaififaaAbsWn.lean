import Derived.Test.YtffoldigaififaaAbsWf
set_option linter.all false
/- A contract told for a slice serves the nil slice. -/
namespace Go.Abs
theorem ACalls.nil1 {P : Program} {f : FuncId} {x : Value} {w : Bool} {k k' : IntKind} {l : List Int} (h : ACalls P f [.sw 0 1, .v x] [.ints 0 w k []] (.sw 1 1) [] [.ints 0 true k' l]) :
    ACalls P f [.v (.slice none 0 0), .v x] [] (.sw 0 1) [] [.ints 0 true k' l] := by
  refine ⟨h.1, fun σ W hf hr hw => ?_⟩
  have hno : ∀ b, ¬ σ.dom b := fun b hb => by have := (hf b).1 hb; simp at this
  obtain ⟨τ, hτ⟩ : ∃ τ : Sg, τ = ⟨fun _ => ⟨0, 0, 0, 0, true⟩, fun b => b = 0⟩ := ⟨_, rfl⟩
  have hcap : ∀ b, (τ.loc b).cap = 0 := fun b => by rw [hτ]
  have hd : ∀ b, τ.dom b ↔ b = 0 := fun b => by rw [hτ]
  have hfτ : Full τ [.ints 0 w k []] := fun b => by rw [hd]; simp
  have hrτ : RelH P τ [.ints 0 w k []] W := by
    refine ⟨⟨fun b hb => (hfτ b).1 hb, fun b o hb ho hl => ?_, fun b b' o o' _ _ _ _ _ _ hc => ?_, fun b o hb ho => ?_⟩, fun x hx => ⟨(hr.amb x hx).1, fun ⟨b, o, _, _, _, hc, _⟩ => by rw [hcap] at hc; omega⟩⟩
    · have := (hd b).1 hb; subst this
      obtain rfl : AObj.ints 0 w k [] = o := by simpa using ho
      exact ⟨by rw [hτ]; rfl, by rw [hτ]; exact Nat.le_refl _, fun _ => hcap 0, fun hc => by rw [hcap] at hc; omega, fun hq => by cases hq⟩
    · rw [hcap] at hc; omega
    · have := (hd b).1 hb; subst this
      obtain rfl : AObj.ints 0 w k [] = o := by simpa using ho
      trivial
  have hc := h.2 τ W hfτ hrτ ⟨⟨(hd 0).2 rfl, by decide⟩, trivial, trivial⟩
  have ha : (denL τ [.sw 0 1, .v x]).toArray = (denL σ [.v (.slice none 0 0), .v x]).toArray := by rw [hτ]; simp [denL, den, Loc.base]
  rw [← ha]
  refine hc.mono ?_
  rintro e w' ⟨rs, h1, h2, h3, h4⟩
  obtain ⟨r, rfl⟩ : ∃ r, rs = [r] := by
    match rs, h1 with
    | [r], _ => exact ⟨r, rfl⟩
  have g1 : (τ.more 1 [r]).loc 1 = r := Sg.more_one τ 1 r
  have g0 : (σ.more 0 [r]).loc 0 = r := Sg.more_one σ 0 r
  have gd : ∀ b, (σ.more 0 [r]).dom b ↔ b = 0 := fun b => by rw [Sg.more_dom_one]; exact ⟨fun h => h.elim (fun h => (hno b h).elim) id, .inr⟩
  have td : (τ.more 1 [r]).dom 1 := (Sg.more_dom_one τ 1 1 r).2 (.inr rfl)
  have himg : ∀ {x}, ¬ img τ [.ints 0 w k []] x := fun ⟨b, o, _, _, _, hc, _⟩ => by rw [hcap] at hc; omega
  have hwimg : ∀ {x}, ¬ wimg τ [.ints 0 w k []] x := fun ⟨b, o, _, _, _, hc, _⟩ => by rw [hcap] at hc; omega
  refine ⟨[r], rfl, ?_, ⟨(gd 0).2 rfl, by decide⟩, ?_, ?_, ?_, ?_, ?_⟩
  · rw [h2]; simp only [den]; rw [show ([AObj.ints 0 w k []] : List AObj).length = 1 from rfl, g1, show ([] : List AObj).length = 0 from rfl, g0]
  · have hb := h4.rel.blk 1 (.ints 0 true k' l) td rfl rfl
    rw [show ([AObj.ints 0 w k []] : List AObj).length = 1 from rfl, g1] at hb
    refine hr.step ⟨fun b hb => by have := (gd b).1 hb; subst this; simp [applyUpd], fun b o hb' ho hl => ?_, fun b b' o o' d1 d2 _ _ _ _ _ _ _ _ => ((gd b).1 d1).trans ((gd b').1 d2).symm, fun b o hb' ho => ?_⟩ (h4.frm.mono fun x hx => (hwimg hx).elim) ?_
    · have := (gd b).1 hb'; subst this
      obtain rfl : AObj.ints 0 true k' l = o := by simpa [applyUpd] using ho
      rw [show ([] : List AObj).length = 0 from rfl, g0]
      exact ⟨hb.len, hb.le, hb.nil, fun hc => by obtain ⟨ob, q1, q2⟩ := hb.rep hc; exact ⟨ob, q1, q2⟩, hb.it⟩
    · have := (gd b).1 hb'; subst this
      obtain rfl : AObj.ints 0 true k' l = o := by simpa [applyUpd] using ho
      trivial
    · rintro x ⟨b, o, h5, h6, h7, h8, h8w, h9⟩
      have := (gd b).1 h5; subst this
      obtain rfl : AObj.ints 0 true k' l = o := by simpa [applyUpd] using h6
      refine (h4.wim x ⟨1, _, td, rfl, h7, ?_, h8w, ?_⟩).elim (fun h => (hwimg h).elim) .inr
      · rw [show ([AObj.ints 0 w k []] : List AObj).length = 1 from rfl, g1]; rw [show ([] : List AObj).length = 0 from rfl, g0] at h8; exact h8
      · rw [← h9]; show ((τ.more _ [r]).loc 1).at_ = ((σ.more _ [r]).loc 0).at_; rw [show ([AObj.ints 0 w k []] : List AObj).length = 1 from rfl, g1, show ([] : List AObj).length = 0 from rfl, g0]
  · intro b; rw [show ([] : List AObj).length = 0 from rfl, gd]; simp [applyUpd]
  · exact h4.frm.mono fun x hx => (hwimg hx).elim
  · rintro x ⟨b, o, h5, h6, h7, h8, h9⟩
    have := (gd b).1 h5; subst this
    obtain rfl : AObj.ints 0 true k' l = o := by simpa [applyUpd] using h6
    refine (h4.img x ⟨1, _, td, rfl, h7, ?_, ?_⟩).elim (fun h => (himg h).elim) .inr
    · rw [show ([AObj.ints 0 w k []] : List AObj).length = 1 from rfl, g1]; rw [show ([] : List AObj).length = 0 from rfl, g0] at h8; exact h8
    · rw [← h9]; show ((τ.more _ [r]).loc 1).at_ = ((σ.more _ [r]).loc 0).at_; rw [show ([AObj.ints 0 w k []] : List AObj).length = 1 from rfl, g1, show ([] : List AObj).length = 0 from rfl, g0]
  · rintro x ⟨b, o, h5, h6, h7, h8, h8w, h9⟩
    have := (gd b).1 h5; subst this
    obtain rfl : AObj.ints 0 true k' l = o := by simpa [applyUpd] using h6
    refine (h4.wim x ⟨1, _, td, rfl, h7, ?_, h8w, ?_⟩).elim (fun h => (hwimg h).elim) .inr
    · rw [show ([AObj.ints 0 w k []] : List AObj).length = 1 from rfl, g1]; rw [show ([] : List AObj).length = 0 from rfl, g0] at h8; exact h8
    · rw [← h9]; show ((τ.more _ [r]).loc 1).at_ = ((σ.more _ [r]).loc 0).at_; rw [show ([AObj.ints 0 w k []] : List AObj).length = 1 from rfl, g1, show ([] : List AObj).length = 0 from rfl, g0]
theorem Blk.ints {σ τ : Sg} {w : Bool} {k : IntKind} {l : List Int} {W : World} {L : Loc} (h : Blk σ (.ints 0 w k l) W L) : Blk τ (.ints 0 w k l) W L :=
  ⟨h.len, h.le, h.nil, fun hc => by obtain ⟨ob, q1, q2⟩ := h.rep hc; exact ⟨ob, q1, q2⟩, h.it⟩
theorem ACalls.nil2 {P : Program} {f : FuncId} {w w2 : Bool} {k k2 k' : IntKind} {l l2 : List Int} (h : ACalls P f [.sw 0 1, .sw 1 1] [.ints 0 w k [], .ints 0 w2 k2 l2] (.sw 2 1) [] [.ints 0 true k' l]) :
    ACalls P f [.v (.slice none 0 0), .sw 0 1] [.ints 0 w2 k2 l2] (.sw 1 1) [] [.ints 0 true k' l] := by
  refine ⟨h.1, fun σ W hf hr hw => ?_⟩
  have sd : ∀ b, σ.dom b ↔ b = 0 := fun b => by rw [hf b]; simp
  obtain ⟨τ, hτ⟩ : ∃ τ : Sg, τ = ⟨fun b => if b = 1 then σ.loc 0 else ⟨0, 0, 0, 0, true⟩, fun b => b < 2⟩ := ⟨_, rfl⟩
  have c0 : (τ.loc 0).cap = 0 := by rw [hτ]; rfl
  have n0 : (τ.loc 0).nil = true := by rw [hτ]; rfl
  have l1 : τ.loc 1 = σ.loc 0 := by rw [hτ]; rfl
  have td : ∀ b, τ.dom b ↔ b < 2 := fun b => by rw [hτ]
  have q0 := hr.blk 0 (.ints 0 w2 k2 l2) ((sd 0).2 rfl) rfl rfl
  have hrτ : RelH P τ [.ints 0 w k [], .ints 0 w2 k2 l2] W := by
    refine ⟨⟨fun b hb => (td b).1 hb, fun b o hb ho hl => ?_, fun b b' o o' hb hb' _ _ _ _ hc hc' _ _ => ?_, fun b o hb ho => ?_⟩, fun x hx => ⟨(hr.amb x hx).1, fun ⟨b, o, e1, e2, e3, e4, e4w, e5⟩ => (hr.amb x hx).2 (by
      match b, (td b).1 e1 with
      | 0, _ => rw [c0] at e4; omega
      | 1, _ => exact ⟨0, o, (sd 0).2 rfl, e2, e3, by rw [← l1]; exact e4, e4w, by rw [← e5]; show (σ.loc 0).at_ = (τ.loc 1).at_; rw [l1]⟩)⟩⟩
    · match b, (td b).1 hb with
      | 0, _ =>
        obtain rfl : AObj.ints 0 w k [] = o := by simpa using ho
        exact ⟨by rw [hτ]; rfl, by rw [hτ]; exact Nat.le_refl _, fun _ => c0, fun hc => by rw [c0] at hc; omega, fun hq => by cases hq⟩
      | 1, _ =>
        obtain rfl : AObj.ints 0 w2 k2 l2 = o := by simpa using ho
        rw [l1]; exact q0.ints
    · have e1 : b ≠ 0 := fun e => by subst e; rw [c0] at hc; omega
      have e2 : b' ≠ 0 := fun e => by subst e; rw [c0] at hc'; omega
      have := (td b).1 hb; have := (td b').1 hb'; omega
    · match b, (td b).1 hb with
      | 0, _ =>
        obtain rfl : AObj.ints 0 w k [] = o := by simpa using ho
        trivial
      | 1, _ =>
        obtain rfl : AObj.ints 0 w2 k2 l2 = o := by simpa using ho
        trivial
  have hc := h.2 τ W (fun b => by rw [td]; simp) hrτ ⟨⟨(td 0).2 (by decide), by decide⟩, ⟨(td 1).2 (by decide), by decide⟩, trivial⟩
  have ha : (denL τ [.sw 0 1, .sw 1 1]).toArray = (denL σ [.v (.slice none 0 0), .sw 0 1]).toArray := by
    simp only [denL, den, l1]
    rw [hτ]; simp [Loc.base]
  rw [← ha]
  refine hc.mono ?_
  rintro e w' ⟨rs, h1, h2, h3, h4⟩
  obtain ⟨r, rfl⟩ : ∃ r, rs = [r] := by
    match rs, h1 with
    | [r], _ => exact ⟨r, rfl⟩
  have g2 : (τ.more 2 [r]).loc 2 = r := Sg.more_one τ 2 r
  have g1 : (τ.more 2 [r]).loc 1 = σ.loc 0 := by rw [Sg.more_lt τ [r] (by decide), l1]
  have s1 : (σ.more 1 [r]).loc 1 = r := Sg.more_one σ 1 r
  have s0 : (σ.more 1 [r]).loc 0 = σ.loc 0 := Sg.more_lt σ [r] (by decide)
  have gd : ∀ b, (σ.more 1 [r]).dom b ↔ b < 2 := fun b => by rw [Sg.more_dom_one, sd]; omega
  have tdm : ∀ b, b < 3 → (τ.more 2 [r]).dom b := fun b hb => by rw [Sg.more_dom_one, td]; omega
  have lc : ∀ b, b < 2 → (τ.more 2 [r]).loc (b + 1) = (σ.more 1 [r]).loc b := fun b hb => by
    match b, hb with
    | 0, _ => rw [g1, s0]
    | 1, _ => rw [g2, s1]
  have obj : ∀ b, b < 2 → ([.ints 0 w k [], .ints 0 w2 k2 l2, .ints 0 true k' l] : List AObj)[b + 1]? = ([.ints 0 w2 k2 l2, .ints 0 true k' l] : List AObj)[b]? := fun b hb => rfl
  have himg : ∀ {x}, img τ [.ints 0 w k [], .ints 0 w2 k2 l2] x → img σ [.ints 0 w2 k2 l2] x := fun ⟨b, o, e1, e2, e3, e4, e5⟩ => by
    match b, (td b).1 e1 with
    | 0, _ => rw [c0] at e4; omega
    | 1, _ => exact ⟨0, o, (sd 0).2 rfl, e2, e3, by rw [← l1]; exact e4, by rw [← e5]; show (σ.loc 0).at_ = (τ.loc 1).at_; rw [l1]⟩
  have hwimg : ∀ {x}, wimg τ [.ints 0 w k [], .ints 0 w2 k2 l2] x → wimg σ [.ints 0 w2 k2 l2] x := fun ⟨b, o, e1, e2, e3, e4, e4w, e5⟩ => by
    match b, (td b).1 e1 with
    | 0, _ => rw [c0] at e4; omega
    | 1, _ => exact ⟨0, o, (sd 0).2 rfl, e2, e3, by rw [← l1]; exact e4, e4w, by rw [← e5]; show (σ.loc 0).at_ = (τ.loc 1).at_; rw [l1]⟩
  refine ⟨[r], rfl, ?_, ⟨(gd 1).2 (by decide), by decide⟩, hr.step ⟨?_, ?_, ?_, ?_⟩ (h4.frm.mono fun x hx => .inl (hwimg hx)) ?_, ?_, ?_, ?_, ?_⟩
  · rw [h2]; simp only [den]
    rw [show ([AObj.ints 0 w k [], .ints 0 w2 k2 l2] : List AObj).length = 2 from rfl, g2, show ([AObj.ints 0 w2 k2 l2] : List AObj).length = 1 from rfl, s1]
  · exact fun b hb => (gd b).1 hb
  · intro b o hb ho hl
    have hb2 := (gd b).1 hb
    have := h4.rel.blk (b + 1) o (tdm _ (by omega)) ((obj b hb2).trans ho) hl
    have e := lc b hb2
    rw [show ([AObj.ints 0 w k [], .ints 0 w2 k2 l2] : List AObj).length = 2 from rfl, e] at this
    rw [show ([AObj.ints 0 w2 k2 l2] : List AObj).length = 1 from rfl]
    match b, hb2 with
    | 0, _ =>
      obtain rfl : AObj.ints 0 w2 k2 l2 = o := by simpa [applyUpd] using ho
      exact this.ints
    | 1, _ =>
      obtain rfl : AObj.ints 0 true k' l = o := by simpa [applyUpd] using ho
      exact this.ints
  · intro b b' o o' d1 d2 e1 e2 e3 e4 e5 e6 e7 e8
    have q1 := (gd b).1 d1; have q2 := (gd b').1 d2
    have := h4.rel.inj (b + 1) (b' + 1) o o' (tdm _ (by omega)) (tdm _ (by omega)) ((obj b q1).trans e1) ((obj b' q2).trans e2) e3 e4
      (by have := lc b q1; rw [show ([AObj.ints 0 w k [], .ints 0 w2 k2 l2] : List AObj).length = 2 from rfl, this]; exact e5)
      (by have := lc b' q2; rw [show ([AObj.ints 0 w k [], .ints 0 w2 k2 l2] : List AObj).length = 2 from rfl, this]; exact e6) e7
      (by show ((τ.more 2 [r]).loc (b + 1)).at_ = ((τ.more 2 [r]).loc (b' + 1)).at_; rw [lc b q1, lc b' q2]; exact e8)
    omega
  · intro b o hb ho
    match b, (gd b).1 hb with
    | 0, _ =>
      obtain rfl : AObj.ints 0 w2 k2 l2 = o := by simpa [applyUpd] using ho
      trivial
    | 1, _ =>
      obtain rfl : AObj.ints 0 true k' l = o := by simpa [applyUpd] using ho
      trivial
  · rintro x ⟨b, o, h5, h6, h7, h8, h8w, h9⟩
    have q := (gd b).1 h5
    refine (h4.wim x ⟨b + 1, o, tdm _ (by omega), (obj b q).trans h6, h7, ?_, h8w, ?_⟩).elim (fun h => .inl (hwimg h)) .inr
    · show 0 < ((τ.more 2 [r]).loc (b + 1)).cap; rw [lc b q]; exact h8
    · rw [← h9]; show ((τ.more 2 [r]).loc (b + 1)).at_ = _; rw [lc b q]; rfl
  · exact fun b => gd b
  · exact h4.frm.mono fun x hx => .inl (hwimg hx)
  · rintro x ⟨b, o, h5, h6, h7, h8, h9⟩
    have q := (gd b).1 h5
    refine (h4.img x ⟨b + 1, o, tdm _ (by omega), (obj b q).trans h6, h7, ?_, ?_⟩).elim (fun h => .inl (himg h)) .inr
    · show 0 < ((τ.more 2 [r]).loc (b + 1)).cap; rw [lc b q]; exact h8
    · rw [← h9]; show ((τ.more 2 [r]).loc (b + 1)).at_ = _; rw [lc b q]; rfl
  · rintro x ⟨b, o, h5, h6, h7, h8, h8w, h9⟩
    have q := (gd b).1 h5
    refine (h4.wim x ⟨b + 1, o, tdm _ (by omega), (obj b q).trans h6, h7, ?_, h8w, ?_⟩).elim (fun h => .inl (hwimg h)) .inr
    · show 0 < ((τ.more 2 [r]).loc (b + 1)).cap; rw [lc b q]; exact h8
    · rw [← h9]; show ((τ.more 2 [r]).loc (b + 1)).at_ = _; rw [lc b q]; rfl
theorem splitK {α β : Type} {K : α → β} {t : Bool} {A B : α} {y : β} {Q : Prop} (h : K (cond t A B) = y) (h1 : t = true → K A = y → Q) (h2 : t = false → K B = y → Q) : Q := by
  cases t with
  | true => exact h1 rfl h
  | false => exact h2 rfl h
theorem chkK {α β : Type} {K : Option α → Option β} {p : Prop} [Decidable p] {x : Option α} {y : β} {Q : Prop} (hK : K none = none) (h : K (cond (decide p) x none) = some y) (k : p → K x = some y → Q) : Q := by
  by_cases hp : p
  · simp only [hp, decide_true, cond_true] at h; exact k hp h
  · simp only [hp, decide_false, cond_false, hK] at h; cases h
end Go.Abs
