import Derived.Test.YtffoldigaififaaAbsWf
set_option linter.unusedVariables false
set_option linter.unusedSimpArgs false
/- A call over a window of a row that is only read. -/
namespace Go.Abs
/-- told by what lies behind the first block alone -/
def Tail1 (x : AV) : Prop := ∀ σ σ' : Sg, (∀ b, 1 ≤ b → (σ.dom b → σ'.dom b) ∧ σ'.loc b = σ.loc b) → (wf σ x → wf σ' x) ∧ den σ' x = den σ x
def Flat (o : AObj) : Prop := ∀ σ σ' : Sg, denO σ' o = denO σ o ∧ wfO σ' o
theorem blk_flat {σ σ' : Sg} {o : AObj} (hf : Flat o) {w : World} {L : Loc} (h : Blk σ o w L) : Blk σ' o w L := by
  refine ⟨h.len, h.le, h.nil, fun hc => ?_, h.it⟩
  obtain ⟨ob, h1, h2⟩ := h.rep hc
  refine ⟨ob, h1, ?_⟩
  have e := (hf σ σ').1
  cases o <;> first | exact h2 | (simp only [Rep] at h2 ⊢; rw [e]; exact h2)
theorem ACalls.win1 {P : Program} {f : FuncId} {s z off n : Nat} {c : Option Nat} {o q : AObj} {ds : List Prop} {res : AV} {news : List AObj}
    (hro : o.wr = false) (hq : o.win s off n false = some (q, ds)) (hds : All ds) (hfq : Flat q) (hres : Tail1 res) (hnews : ∀ x ∈ news, Flat x) (h : ACalls P f [.sw 0 s] [q] res [] news) :
    ACalls P f [.sl 0 s z off n c] [o] res [] news := by
  refine ⟨h.1, fun σ w hf hr hw => ?_⟩
  obtain ⟨⟨hd, hok⟩, -⟩ := hw
  obtain ⟨L, hL⟩ : ∃ L, σ.loc 0 = L := ⟨_, rfl⟩
  rw [hL] at hok
  obtain ⟨r, hrm⟩ : ∃ r, L.room s off c = r := ⟨_, rfl⟩
  rw [hrm] at hok
  obtain ⟨hs0, hnr, hfit⟩ := hok
  have hwin := win_den (σ := σ) hq hds
  have hblk : Blk σ o w L := by have := hr.blk 0 o hd rfl hwin.live; rw [hL] at this; exact this
  have hql : q.len = n * s := hwin.len
  have hqr : q.len ≤ r * s := by rw [hql]; exact Nat.mul_le_mul_right _ hnr
  obtain ⟨Lw, hLw⟩ : ∃ Lw : Loc, Lw = ⟨L.at_, L.off + (_root_.cond (r == 0) z off) * s, q.len, r * s, L.nil⟩ := ⟨_, rfl⟩
  let σ' : Sg := ⟨fun b => if b = 0 then Lw else σ.loc b, σ.dom⟩
  have s0 : σ'.loc 0 = Lw := rfl
  have s1 : ∀ b, 1 ≤ b → σ'.loc b = σ.loc b := fun b hb => if_neg (by omega)
  have hpos : 0 < r * s → 0 < L.cap := fun hc => by
    have hr0 : 0 < r := Nat.pos_of_mul_pos_right hc
    have : 1 * s ≤ (off + r) * s := Nat.mul_le_mul_right _ (by omega)
    omega
  have hbq : Blk σ' q w Lw := by
    subst hLw
    refine ⟨rfl, hqr, fun hn => ?_, fun hc => ?_, rowNo hwin.row'⟩
    · have h5 := hblk.nil hn
      have h7 : off + r = 0 := by
        have h6 : (off + r) * s = 0 := by omega
        rcases Nat.mul_eq_zero.1 h6 with h | h <;> omega
      have : r = 0 := by omega
      subst this; simp
    · have hr0 : 0 < r := Nat.pos_of_mul_pos_right hc
      have e1 : (r == 0) = false := by simp; omega
      obtain ⟨obj, r1, r2⟩ := hblk.rep (hpos hc)
      obtain ⟨a, tt, fr, rfl, r3, r4, r5⟩ := (Rep.row hwin.row).1 r2
      refine ⟨_, r1, (Rep.row hwin.row').2 ⟨a, tt, fr, rfl, fun hw => by rw [hwin.wr] at hw; simp at hw, ⟨?_, .inl (win_tag hq)⟩, fun j v hv => ?_⟩⟩
      · simp only [e1, cond_false]
        have h6 : off * s + r * s ≤ (off + r) * s := by rw [← Nat.add_mul]; exact Nat.le_refl _
        have r4 := r4.1
        omega
      · simp only [e1, cond_false]
        have hj : j < q.len := by have := (List.getElem?_eq_some_iff.1 hv).1; simpa using this
        have hv' : (denO σ q)[j]? = some v := by rw [← (hfq σ σ').1]; exact hv
        rw [hwin.den, List.getElem?_take, if_pos (by rw [← hwin.len]; exact hj), List.getElem?_drop] at hv'
        have := r5 _ v hv'
        rw [Nat.add_assoc]; exact this
  have dom1 : ∀ b, σ.dom b ↔ b < 1 := hf
  have nowr : ∀ r, ¬ wimg σ' [q] r := by
    rintro r ⟨b, o', hb, ho, hl, hc, hx, -⟩
    have hb : b = 0 := by have := (dom1 b).1 hb; omega
    subst hb
    obtain rfl : q = o' := Option.some.inj ho
    rw [hwin.wr] at hx; simp at hx
  have hrq : RelH P σ' [q] w := by
    refine ⟨⟨fun b hb => (dom1 b).1 hb, fun b o' hb ho hl => ?_, fun b b' o1 o2 h1 h2 _ _ _ _ _ _ _ _ => ?_, fun b o' hb ho => ?_⟩, fun x hx => ⟨(hr.amb x hx).1, nowr _⟩⟩
    · have hb : b = 0 := by have := (dom1 b).1 hb; omega
      subst hb
      obtain rfl : q = o' := Option.some.inj ho
      exact hbq
    · have := (dom1 b).1 h1; have := (dom1 b').1 h2; omega
    · have hb : b = 0 := by have := (dom1 b).1 hb; omega
      subst hb
      obtain rfl : q = o' := Option.some.inj ho
      exact (hfq σ σ').2
  have hargs : (denL σ [.sl 0 s z off n c]).toArray = (denL σ' [.sw 0 s]).toArray := by
    have e2 : q.len / s = n := by rw [hql, Nat.mul_div_cancel _ hs0]
    have e3 : r * s / s = r := Nat.mul_div_cancel _ hs0
    simp only [denL, den, hL, hrm, s0, hLw, slV, e2, e3]
    simp [Loc.base]
  rw [hargs]
  refine (h.2 σ' w (fun b => dom1 b) hrq ⟨⟨hd, hs0⟩, trivial⟩).mono ?_
  rintro e w' ⟨rs, h1, h2, h3, h4⟩
  simp only [applyUpd, List.length_cons, List.length_nil, Nat.zero_add] at h2 h3 h4 ⊢
  have same : ∀ r, r < w.heap.size → w'.heap[r]? = w.heap[r]? := fun r hlt => h4.frm.block r hlt (nowr r)
  have m0 : (σ.more 1 rs).loc 0 = L := by rw [← hL]; rfl
  have m0' : (σ'.more 1 rs).loc 0 = Lw := rfl
  have m1 : ∀ b, 1 ≤ b → (σ'.more 1 rs).loc b = (σ.more 1 rs).loc b := fun b hb => by
    simp only [Sg.more]
    rw [if_neg (by omega), if_neg (by omega), s1 b hb]
  have md : ∀ b, (σ'.more 1 rs).dom b ↔ (σ.more 1 rs).dom b := fun b => Iff.rfl
  have tl := hres (σ'.more 1 rs) (σ.more 1 rs) (fun b hb => ⟨(md b).1, (m1 b hb).symm⟩)
  have nth : ∀ (b : Nat) (x : AObj), 1 ≤ b → ([o] ++ news)[b]? = some x → ([q] ++ news)[b]? = some x ∧ x ∈ news := fun b x hb hx => by
    rw [List.getElem?_append_right (by simpa using hb)] at hx ⊢
    exact ⟨hx, List.mem_of_getElem? hx⟩
  have zth : ∀ x : AObj, ([o] ++ news)[0]? = some x → x = o := fun x hx => (Option.some.inj hx).symm
  have hat : (σ.more 1 rs).at_ 0 = L.at_ := by show ((σ.more 1 rs).loc 0).at_ = _; rw [m0]
  have himgq : ∀ r, Go.Abs.img σ' [q] r → Go.Abs.img σ [o] r := by
    rintro r ⟨b, o', hb, ho, hl, hc, rfl⟩
    have hb : b = 0 := by have := (dom1 b).1 hb; omega
    subst hb
    have hc : 0 < Lw.cap := hc
    rw [hLw] at hc
    refine ⟨0, o, hd, rfl, hwin.live, by rw [hL]; exact hpos hc, ?_⟩
    show (σ.loc 0).at_ = Lw.at_
    rw [hL, hLw]
  have hlt0 : 0 < L.cap → L.at_ < w.heap.size := fun hc => by
    have := hr.img_lt (r := L.at_) ⟨0, o, hd, rfl, hwin.live, by rw [hL]; exact hc, by show (σ.loc 0).at_ = _; rw [hL]⟩
    exact this
  have conv : ∀ (b : Nat) (x : AObj), 1 ≤ b → (σ.more 1 rs).dom b → ([o] ++ news)[b]? = some x → 0 < ((σ.more 1 rs).loc b).cap → x.wr = true → x.live = true → w.heap.size ≤ (σ.more 1 rs).at_ b := by
    intro b x hb hdm hx hc hxw hl
    have := h4.wim ((σ'.more 1 rs).at_ b) ⟨b, x, (md b).2 hdm, (nth b x hb hx).1, hl, by rw [m1 b hb]; exact hc, hxw, rfl⟩
    rcases this with k | k
    · exact absurd k (nowr _)
    · unfold Sg.at_ at k ⊢; rw [m1 b hb] at k; exact k
  have back : ∀ r, Go.Abs.wimg (σ.more 1 rs) ([o] ++ news) r → Go.Abs.wimg (σ'.more 1 rs) ([q] ++ news) r := by
    rintro r ⟨b, x, hb, hx, hl, hc, hxw, rfl⟩
    by_cases hb0 : b = 0
    · subst hb0
      obtain rfl := zth x hx
      rw [hro] at hxw; simp at hxw
    · have hb1 : 1 ≤ b := by omega
      exact ⟨b, x, (md b).2 hb, (nth b x hb1 hx).1, hl, by rw [m1 b hb1]; exact hc, hxw, by unfold Sg.at_; rw [m1 b hb1]⟩
  refine ⟨rs, h1, by rw [h2, tl.2], tl.1 h3, ⟨⟨fun b hb => ?_, fun b x hb hx hl => ?_, fun b b' x y hb hb' hx hy hlx hly hcx hcy hw he => ?_, fun b x hb hx => ?_⟩, fun x hx => ⟨(h4.rel.amb x hx).1, fun hi => (h4.rel.amb x hx).2 (back _ hi)⟩⟩, fun b => ?_, h4.frm.mono (fun r hM => absurd hM (nowr r)), fun r hi => ?_, fun r hi => ?_⟩
  · have := h4.rel.lt b ((md b).2 hb)
    simpa using this
  · by_cases hb0 : b = 0
    · subst hb0
      obtain rfl := zth x hx
      rw [m0]
      have k := hblk.ext (σ' := σ.more 1 rs) (Sg.more_ext σ 1 rs (fun b hb hb' hdm => by have := (dom1 b).1 hdm; omega)) (hr.wfo 0 _ hd rfl)
      exact k.heap_eq (fun hc => same _ (hlt0 hc))
    · have hb1 : 1 ≤ b := by omega
      obtain ⟨k1, k2⟩ := nth b x hb1 hx
      have := h4.rel.blk b x ((md b).2 hb) k1 hl
      rw [m1 b hb1] at this
      exact blk_flat (hnews x k2) this
  · by_cases hb0 : b = 0
    · by_cases hb0' : b' = 0
      · omega
      · exfalso
        subst hb0
        obtain rfl := zth x hx
        have hyw : y.wr = true := by rcases hw with hw | hw; rw [hro] at hw; simp at hw; exact hw
        have := conv b' y (by omega) hb' hy hcy hyw hly
        rw [← he, hat] at this
        rw [m0] at hcx
        have := hlt0 hcx; omega
    · by_cases hb0' : b' = 0
      · exfalso
        subst hb0'
        obtain rfl := zth y hy
        have hxw : x.wr = true := by rcases hw with hw | hw; exact hw; rw [hro] at hw; simp at hw
        have := conv b x (by omega) hb hx hcx hxw hlx
        rw [he, hat] at this
        rw [m0] at hcy
        have := hlt0 hcy; omega
      · have e1 := m1 b (by omega); have e2 := m1 b' (by omega)
        exact h4.rel.inj b b' x y ((md b).2 hb) ((md b').2 hb') (nth b x (by omega) hx).1 (nth b' y (by omega) hy).1 hlx hly (by rw [e1]; exact hcx) (by rw [e2]; exact hcy) hw (by unfold Sg.at_ at he ⊢; rw [e1, e2]; exact he)
  · by_cases hb0 : b = 0
    · subst hb0
      obtain rfl := zth x hx
      exact wfO_ext (Sg.more_ext σ 1 rs (fun b hb hb' hdm => by have := (dom1 b).1 hdm; omega)) _ (hr.wfo 0 _ hd rfl)
    · exact (hnews x (nth b x (by omega) hx).2 σ _).2
  · have := h4.full b
    rw [md b] at this
    simpa using this
  · obtain ⟨b, x, hb, hx, hl, hc, rfl⟩ := hi
    by_cases hb0 : b = 0
    · subst hb0
      obtain rfl := zth x hx
      rw [m0] at hc
      exact .inl ⟨0, _, hd, rfl, hl, by rw [hL]; exact hc, by rw [hat]; show (σ.loc 0).at_ = _; rw [hL]⟩
    · have hb1 : 1 ≤ b := by omega
      have := h4.img ((σ'.more 1 rs).at_ b) ⟨b, x, (md b).2 hb, (nth b x hb1 hx).1, hl, by rw [m1 b hb1]; exact hc, rfl⟩
      have e : (σ'.more 1 rs).at_ b = (σ.more 1 rs).at_ b := by unfold Sg.at_; rw [m1 b hb1]
      rw [e] at this
      rcases this with k | k
      · exact .inl (himgq _ k)
      · exact .inr k
  · obtain ⟨b, x, hb, hx, hl, hc, hxw, rfl⟩ := hi
    by_cases hb0 : b = 0
    · subst hb0
      obtain rfl := zth x hx
      rw [hro] at hxw; simp at hxw
    · exact .inr (conv b x (by omega) hb hx hc hxw hl)
/-- other values for the same arguments -/
theorem ACalls.args {P : Program} {f : FuncId} {args args' : List AV} {hc : List AObj} {res : AV} {upd : List (Nat × AObj)} {news : List AObj} (h : ACalls P f args hc res upd news)
    (he : ∀ σ w, RelH P σ hc w → wfL σ args' → wfL σ args ∧ denL σ args = denL σ args') : ACalls P f args' hc res upd news :=
  ⟨h.1, fun σ w hf hr hw => by rw [← (he σ w hr hw).2]; exact h.2 σ w hf hr (he σ w hr hw).1⟩
end Go.Abs
