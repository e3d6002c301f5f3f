import Derived.Test.YtffoldigaififaaAbsO
set_option linter.unusedVariables false
set_option linter.unusedSimpArgs false
/- Results that are not written any more. -/
namespace Go.Abs
theorem rep_setW {σ : Sg} {o : AObj} {L : Loc} {ob : Obj} (h : Rep σ o L ob) : Rep σ (o.setW false) L ob := by
  cases o with
  | siter s p => exact h
  | imap w l => exact h
  | _ =>
    obtain ⟨a, t, fr, h1, h2, h3, h4⟩ := h
    exact ⟨a, t, fr, h1, fun h => by simp [AObj.setW, AObj.wr] at h, h3, h4⟩
theorem blk_setW {σ : Sg} {o : AObj} {w : World} {L : Loc} (h : Blk σ o w L) : Blk σ (o.setW false) w L :=
  ⟨by rw [setW_len]; exact h.len, h.le, h.nil, fun hc => by obtain ⟨ob, h1, h2⟩ := h.rep hc; exact ⟨ob, h1, rep_setW h2⟩, fun hr => h.it (by rw [setW_row] at hr; exact hr)⟩
theorem setW_wr1 {o : AObj} (h : (o.setW false).wr = true) : o.wr = true := by
  cases o <;> simp_all [AObj.setW, AObj.wr]
/-- each object is as it was, or not written any more -/
def Weak (h h' : List AObj) : Prop := h'.length = h.length ∧ ∀ (b : Nat) (o' : AObj), h'[b]? = some o' → ∃ o : AObj, h[b]? = some o ∧ (o' = o ∨ o' = o.setW false)
theorem Weak.img {σ : Sg} {h h' : List AObj} (hw : Weak h h') {r : Nat} (hi : img σ h' r) : img σ h r := by
  obtain ⟨b, o', hd, ho, hl, hc, rfl⟩ := hi
  obtain ⟨o, h1, rfl | rfl⟩ := hw.2 b o' ho
  · exact ⟨b, _, hd, h1, hl, hc, rfl⟩
  · exact ⟨b, _, hd, h1, by rw [setW_live] at hl; exact hl, hc, rfl⟩
theorem Weak.wimg {σ : Sg} {h h' : List AObj} (hw : Weak h h') {r : Nat} (hi : wimg σ h' r) : wimg σ h r := by
  obtain ⟨b, o', hd, ho, hl, hc, hx, rfl⟩ := hi
  obtain ⟨o, h1, rfl | rfl⟩ := hw.2 b o' ho
  · exact ⟨b, _, hd, h1, hl, hc, hx, rfl⟩
  · exact ⟨b, _, hd, h1, by rw [setW_live] at hl; exact hl, hc, setW_wr1 hx, rfl⟩
theorem Weak.rel {P : Program} {σ : Sg} {h h' : List AObj} {w : World} (hw : Weak h h') (hr : RelH P σ h w) : RelH P σ h' w := by
  have key : ∀ (b : Nat) (o' : AObj), h'[b]? = some o' → ∃ o : AObj, h[b]? = some o ∧ o'.live = o.live ∧ (o'.wr = true → o.wr = true) ∧ (∀ L, Blk σ o w L → Blk σ o' w L) ∧ (wfO σ o → wfO σ o') := by
    intro b o' ho
    obtain ⟨o, h1, rfl | rfl⟩ := hw.2 b o' ho
    · exact ⟨_, h1, rfl, id, fun _ h => h, id⟩
    · exact ⟨_, h1, setW_live _ _, setW_wr1, fun _ h => blk_setW h, fun h => setW_wf h⟩
  refine hr.step ⟨fun b hb => by rw [hw.1]; exact hr.lt b hb, fun b o' hd ho hl => ?_, fun b b' o1 o2 h1 h2 h3 h4 h5 h6 c1 c2 hx he => ?_, fun b o' hd ho => ?_⟩ (Frm.refl _ _) (fun r hi => .inl (hw.wimg hi))
  · obtain ⟨o, a1, a2, a3, a4, a5⟩ := key b o' ho
    exact a4 _ (hr.blk b o hd a1 (by rw [← a2]; exact hl))
  · obtain ⟨o, a1, a2, a3, a4, a5⟩ := key b o1 h3
    obtain ⟨p, b1, b2, b3, b4, b5⟩ := key b' o2 h4
    exact hr.inj b b' o p h1 h2 a1 b1 (by rw [← a2]; exact h5) (by rw [← b2]; exact h6) c1 c2 (hx.imp a3 b3) he
  · obtain ⟨o, a1, a2, a3, a4, a5⟩ := key b o' ho
    exact a5 (hr.wfo b o hd a1)
/-- what a call makes is not written any more -/
theorem ACalls.freeze {P : Program} {f : FuncId} {args : List AV} {hc : List AObj} {res : AV} {upd : List (Nat × AObj)} {news : List AObj} (h : ACalls P f args hc res upd news) :
    ACalls P f args hc res upd (news.map (AObj.setW false)) := by
  refine ⟨h.1, fun σ w hf hr hw => (h.2 σ w hf hr hw).mono ?_⟩
  rintro e w' ⟨rs, h1, h2, h3, h4⟩
  have hwk : Weak (applyUpd upd hc ++ news) (applyUpd upd hc ++ news.map (AObj.setW false)) := by
    refine ⟨by simp, fun b o' ho => ?_⟩
    rw [List.getElem?_append] at ho ⊢
    split at ho
    · rename_i hlt; rw [if_pos hlt]; exact ⟨o', ho, .inl rfl⟩
    · rename_i hlt; rw [if_neg hlt]
      rw [List.getElem?_map, Option.map_eq_some_iff] at ho
      obtain ⟨o, k1, k2⟩ := ho
      exact ⟨o, k1, .inr k2.symm⟩
  exact ⟨rs, by simpa using h1, h2, h3, hwk.rel h4.rel, fun b => by have := h4.full b; rw [← hwk.1] at this; exact this, h4.frm, fun r hi => h4.img r (hwk.img hi), fun r hi => h4.wim r (hwk.wimg hi)⟩
/-- what writes nothing and makes nothing may be handed rows that may be written -/
theorem ACalls.lift {P : Program} {f : FuncId} {args : List AV} {hc : List AObj} {res : AV} (hrow : hc.all AObj.row = true) (h : ACalls P f args (hc.map (AObj.setW false)) res [] []) : ACalls P f args hc res [] [] := by
  have hwk : Weak hc (hc.map (AObj.setW false)) := by
    refine ⟨by simp, fun b o' ho => ?_⟩
    rw [List.getElem?_map, Option.map_eq_some_iff] at ho
    obtain ⟨o, k1, k2⟩ := ho
    exact ⟨o, k1, .inr k2.symm⟩
  have nowr : ∀ σ r, ¬ Go.Abs.wimg σ (hc.map (AObj.setW false)) r := by
    rintro σ r ⟨b, o', -, ho, hl, -, hx, -⟩
    rw [List.getElem?_map, Option.map_eq_some_iff] at ho
    obtain ⟨o, k1, rfl⟩ := ho
    have := List.all_eq_true.1 hrow o (List.mem_of_getElem? k1)
    cases o <;> simp_all [AObj.setW, AObj.wr, AObj.row]
  refine ⟨h.1, fun σ w hf hr hw => (h.2 σ w (fun b => by rw [hwk.1]; exact hf b) (hwk.rel hr) hw).mono ?_⟩
  rintro e w' ⟨rs, h1, h2, h3, h4⟩
  obtain rfl : rs = [] := List.length_eq_zero_iff.1 h1
  rw [List.length_map] at h2 h3 h4
  refine ⟨[], rfl, h2, h3, ?_⟩
  rw [Sg.more_nil] at h4 ⊢
  simp only [applyUpd, List.append_nil] at h4 ⊢
  have same : ∀ r, r < w.heap.size → w'.heap[r]? = w.heap[r]? := fun r hlt => h4.frm.block r hlt (nowr σ r)
  exact went_of hr ⟨hr.lt, fun b o hd ho hl => (hr.blk b o hd ho hl).heap_eq (fun hc' => same _ (hr.img_lt ⟨b, o, hd, ho, hl, hc', rfl⟩)), hr.inj, hr.wfo⟩ hf (h4.frm.mono (fun r hM => absurd hM (nowr σ r))) (fun r hi => .inl hi) (fun r hi => .inl hi)
end Go.Abs
