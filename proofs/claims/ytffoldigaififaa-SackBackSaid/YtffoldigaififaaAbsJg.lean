import Derived.Test.YtffoldigaififaaAbsJ
import Derived.Test.YtffoldigaififaaAbsP
set_option linter.unusedVariables false
set_option linter.unusedSimpArgs false
/- Steps over a heap of which not all is there yet: blocks made out of order. -/
namespace Go.Abs
/-- behind a step: what is there now, what stays -/
structure PW (P : Program) (σ : Sg) (G : List AObj) (w : World) (σ' : Sg) (G' : List AObj) (w' : World) : Prop where
  rel : RelH P σ' G' w'
  frm : Frm (wimg σ G) w w'
  img : ∀ r, img σ' G' r → img σ G r ∨ w.heap.size ≤ r
  wim : ∀ r, wimg σ' G' r → wimg σ G r ∨ w.heap.size ≤ r
theorem pw_of {P : Program} {σ σ' : Sg} {G G' : List AObj} {w w' : World} (hr : RelH P σ G w) (c : RelC P σ' G' w') (frm : Frm (wimg σ G) w w')
    (img : ∀ r, img σ' G' r → Go.Abs.img σ G r ∨ w.heap.size ≤ r) (wim : ∀ r, wimg σ' G' r → wimg σ G r ∨ w.heap.size ≤ r) : PW P σ G w σ' G' w' := ⟨hr.step c frm wim, frm, img, wim⟩
theorem PW.refl {P : Program} {σ : Sg} {G : List AObj} {w : World} (hr : RelH P σ G w) : PW P σ G w σ G w := ⟨hr, Frm.refl _ _, fun _ h => .inl h, fun _ h => .inl h⟩
theorem PW.trans {P : Program} {σ σ1 σ2 : Sg} {h h1 h2 : List AObj} {w w1 w2 : World} (a : PW P σ h w σ1 h1 w1) (b : PW P σ1 h1 w1 σ2 h2 w2) : PW P σ h w σ2 h2 w2 :=
  ⟨b.rel, a.frm.trans b.frm a.wim, fun r hr => by
    rcases b.img r hr with k | k
    · exact a.img r k
    · exact .inr (Nat.le_trans a.frm.size k), fun r hr => by
    rcases b.wim r hr with k | k
    · exact a.wim r k
    · exact .inr (Nat.le_trans a.frm.size k)⟩
theorem img_agree {σ : Sg} {G H : List AObj} (h : ∀ b, σ.dom b → H[b]? = G[b]?) {r : Nat} (hi : img σ H r) : img σ G r := by
  obtain ⟨b, o, k1, k2, k3⟩ := hi
  exact ⟨b, o, k1, by rw [← h b k1]; exact k2, k3⟩
theorem wimg_agree {σ : Sg} {G H : List AObj} (h : ∀ b, σ.dom b → H[b]? = G[b]?) {r : Nat} (hi : wimg σ H r) : wimg σ G r := by
  obtain ⟨b, o, k1, k2, k3⟩ := hi
  exact ⟨b, o, k1, by rw [← h b k1]; exact k2, k3⟩
/-- a relation looks at the blocks that are there alone -/
theorem RelH.agree {P : Program} {σ : Sg} {G H : List AObj} {w : World} (hr : RelH P σ G w) (h : ∀ b, σ.dom b → H[b]? = G[b]?) : RelH P σ H w :=
  hr.step ⟨fun b hd => by
      have := hr.lt b hd
      have e : G[b]? = some G[b] := List.getElem?_eq_getElem this
      rw [← h b hd] at e
      exact (List.getElem?_eq_some_iff.1 e).1,
   fun b o hd ho hl => hr.blk b o hd (by rw [← h b hd]; exact ho) hl,
   fun b b' o o' hd hd' ho ho' hl hl' c c' hw he => hr.inj b b' o o' hd hd' (by rw [← h b hd]; exact ho) (by rw [← h b' hd']; exact ho') hl hl' c c' hw he,
   fun b o hd ho => hr.wfo b o hd (by rw [← h b hd]; exact ho)⟩ (Frm.refl _ _) (fun r hi => .inl (wimg_agree h hi))
theorem PW.agree {P : Program} {σ σ' : Sg} {G G' H' : List AObj} {w w' : World} (a : PW P σ G w σ' G' w') (h : ∀ b, σ'.dom b → H'[b]? = G'[b]?) : PW P σ G w σ' H' w' :=
  ⟨a.rel.agree h, a.frm, fun r hr => a.img r (img_agree h hr), fun r hr => a.wim r (wimg_agree h hr)⟩
/-- the same, from a heap that agrees -/
theorem PW.agree0 {P : Program} {σ σ' : Sg} {G H G' : List AObj} {w w' : World} (a : PW P σ G w σ' G' w') (h : ∀ b, σ.dom b → H[b]? = G[b]?) : PW P σ H w σ' G' w' := by
  have e : ∀ b, σ.dom b → G[b]? = H[b]? := fun b hd => (h b hd).symm
  exact ⟨a.rel, a.frm.mono (fun r hi => .inl (wimg_agree e hi)), fun r hr => (a.img r hr).imp_left (img_agree e), fun r hr => (a.wim r hr).imp_left (wimg_agree e)⟩
/-- heaps that agree up to n, written alike -/
theorem applyUpd_agree : ∀ {u : List (Nat × AObj)} {G h : List AObj} {b : Nat}, b < h.length → (∀ c, c < h.length → G[c]? = h[c]?) → (applyUpd u G)[b]? = (applyUpd u h)[b]?
  | [], G, h, b, hb, ha => ha b hb
  | (c, o) :: u, G, h, b, hb, ha => by
    simp only [applyUpd]
    refine applyUpd_agree (by simpa using hb) (fun d hd => ?_)
    rw [List.length_set] at hd
    rw [List.getElem?_set, List.getElem?_set]
    have hdG : d < G.length := by
      have e : h[d]? = some h[d] := List.getElem?_eq_getElem hd
      rw [← ha d hd] at e; exact (List.getElem?_eq_some_iff.1 e).1
    by_cases hcd : c = d
    · subst hcd; simp [hd, hdG]
    · simp [hcd, ha d hd]
section
variable {P : Program} {σ : Sg} {h G : List AObj} {w : World}
theorem more_viaG (σ : Sg) (n : Nat) (ι : List Nat) (rs : List Loc) (hd : ∀ b ∈ ι, σ.dom b) (hlt : ∀ b ∈ ι, b < n) :
    ∀ c, ((σ.via ι).more ι.length rs).dom c → (σ.more n rs).dom (renameF ι n c) ∧ (σ.more n rs).loc (renameF ι n c) = ((σ.via ι).more ι.length rs).loc c := by
  intro c hc
  unfold renameF
  by_cases h1 : c < ι.length
  · rw [if_pos h1]
    have e : ι.getD c 0 = ι[c] := by simp [h1]
    have hb : ι.getD c 0 < n := by rw [e]; exact hlt _ (List.getElem_mem h1)
    refine ⟨.inl (by rw [e]; exact hd _ (List.getElem_mem h1)), ?_⟩
    rw [Sg.more_lt _ _ hb, Sg.more_lt _ _ h1]; rfl
  · rw [if_neg h1]
    rcases hc with hc | ⟨h2, h3⟩
    · exact absurd hc h1
    have e1 : ¬ n + (c - ι.length) < n := by omega
    refine ⟨.inr ⟨by omega, by omega⟩, ?_⟩
    simp only [Sg.more, if_neg e1, if_neg h1]
    rw [show n + (c - ι.length) - n = c - ι.length by omega]
    rw [List.getElem?_eq_getElem (by omega)]; rfl
/-- a call, where not all blocks are there yet -/
theorem callG_sound {f : FuncId} {args : List AV} {ι : List Nat} {res : AV} {upd : List (Nat × AObj)} {news : List AObj} {v : AV} {h' : List AObj} {cs : List Prop}
    (hcall : callA P h f args ι res upd news = some (v, h', cs)) (hcs : All cs) (hι : ∀ b ∈ ι, σ.dom b) (hpre : ∀ b, b < h.length → G[b]? = h[b]?)
    (hfree : ∀ b, h.length ≤ b → b < h'.length → ¬ σ.dom b) (hbirth : ∀ b, h.length ≤ b → b < h'.length → G[b]? = h'[b]?) (hr : RelH P σ G w) (hw : wfL σ args) :
    Callable P f ∧ Calls P f (denL σ args).toArray w fun e w' => ∃ rs : List Loc, h.length + rs.length = h'.length ∧ e = .returned (den (σ.more h.length rs) v) ∧ wf (σ.more h.length rs) v ∧
      ∃ G', (∀ b, b < h'.length → G'[b]? = h'[b]?) ∧ (∀ b, h'.length ≤ b → G'[b]? = G[b]?) ∧ PW P σ G w (σ.more h.length rs) G' w' := by
  unfold callA at hcall
  split at hcall <;> try simp at hcall
  rename_i args' hc upd' hia hih0 hiu
  obtain ⟨hnd, rfl, rfl, rfl⟩ := hcall
  have hnd := nodupB_spec hnd
  have hlt := invH_lt hih0
  have hih : invH ι G ι = some hc := invH_mono hih0 (fun b hb o ho => by rw [hpre b (hlt b hb)]; exact ho)
  obtain ⟨⟨hcal, hac⟩, -⟩ := hcs
  refine ⟨hcal, ?_⟩
  have hrc := hr.via hι hnd hih
  obtain ⟨hlen, hget⟩ := invH_get (σ := σ) hih
  obtain ⟨ha1, ha2⟩ := invL_den (σ := σ) hia
  have hfc : Full (σ.via ι) hc := fun b => by rw [hlen]; exact Iff.rfl
  rw [← ha1]
  refine (hac (σ.via ι) w hfc hrc (ha2 hw)).mono ?_
  rintro e w' ⟨rs, hrs, rfl, hwv, hrel, hfull, hfrm, himg, hwim⟩
  rw [hlen] at hwv hrel hfull himg hwim ⊢
  have hl' : (applyUpd upd' h ++ news.map (rnO (renameF ι h.length))).length = h.length + rs.length := by simp [hrs]
  rw [hl'] at hfree hbirth ⊢
  have hm := more_viaG σ h.length ι rs hι hlt
  have hext : Ext σ (σ.more h.length rs) := Sg.more_ext _ _ _ fun b h1 h2 h3 => hfree b h1 h2 h3
  have hextc : Ext (σ.via ι) ((σ.via ι).more ι.length rs) := Sg.more_ext _ _ _ fun b h1 h2 h3 => by
    have : b < ι.length := h3
    omega
  obtain ⟨d1, d2⟩ := rn_den hm res hwv
  have hulc : (applyUpd upd hc).length = ι.length := by rw [applyUpd_length, hlen]
  have uout : ∀ b, b ∉ ι → (applyUpd upd' G)[b]? = G[b]? := fun b hb => applyUpd_out (fun p hp he => hb (by rw [← he]; exact updA_mem hiu p hp))
  have hupd := upd_rel (h := G) (hc := hc) hm hnd hiu (fun c b hb => by
    obtain ⟨o, oc, k1, k2, k3⟩ := hget c b hb
    have hwb := hr.wfo b o (hι b (List.mem_of_getElem? hb)) k1
    have hwc := k3.wf hwb
    refine ⟨o, oc, k1, k2, fun hwo => ⟨?_, k3.wr.symm, k3.live.symm, k3.row.symm, k3.tag.symm, fun L ob _ => ?_, fun _ => wfO_ext hext o hwb⟩⟩
    · rw [denO_ext hext o hwb, ← k3.den, denO_ext hextc oc hwc]
    · rw [Rep.ext hext hwb, Rep.ext hextc hwc]; exact k3.repI.symm)
  have hcan : ∀ (b : Nat) (o : AObj), (σ.more h.length rs).dom b → (applyUpd upd' G)[b]? = some o →
      (∃ c oc, (applyUpd upd hc ++ news)[c]? = some oc ∧ Same ((σ.via ι).more ι.length rs) (σ.more h.length rs) oc o ∧ renameF ι h.length c = b ∧ ((σ.via ι).more ι.length rs).dom c) ∨
        (b ∉ ι ∧ σ.dom b ∧ G[b]? = some o) := by
    intro b o hbd hbo
    by_cases hbi : b ∈ ι
    · obtain ⟨c, hc'⟩ := List.mem_iff_getElem?.1 hbi
      have hcl := (List.getElem?_eq_some_iff.1 hc').1
      obtain ⟨o', oc, k1, k2, k3⟩ := hupd c b hc'
      rw [hbo] at k1
      obtain rfl := Option.some.inj k1
      have hg : (applyUpd upd hc ++ news)[c]? = some oc := by rw [List.getElem?_append_left (by omega)]; exact k2
      have hd : ((σ.via ι).more ι.length rs).dom c := .inl hcl
      exact .inl ⟨c, oc, hg, k3 (hrel.wfo c oc hd hg), by
        have e1 : ι[c] = b := by have := hc'; rw [List.getElem?_eq_getElem hcl] at this; exact Option.some.inj this
        simp [renameF, hcl, e1], hd⟩
    · rw [uout b hbi] at hbo
      by_cases hsd : σ.dom b
      · exact .inr ⟨hbi, hsd, hbo⟩
      rcases hbd with hbd | ⟨h1, h2⟩
      · exact absurd hbd hsd
      rw [hbirth b h1 h2, List.getElem?_append_right (by rw [applyUpd_length]; exact h1), applyUpd_length, List.getElem?_map] at hbo
      simp only [Option.map_eq_some_iff] at hbo
      obtain ⟨oc, k1, rfl⟩ := hbo
      have hj := (List.getElem?_eq_some_iff.1 k1).1
      have hg : (applyUpd upd hc ++ news)[ι.length + (b - h.length)]? = some oc := by
        rw [List.getElem?_append_right (by omega), hulc]
        rw [show ι.length + (b - h.length) - ι.length = b - h.length from by omega]; exact k1
      have hd : ((σ.via ι).more ι.length rs).dom (ι.length + (b - h.length)) := .inr ⟨by omega, by omega⟩
      refine .inl ⟨ι.length + (b - h.length), oc, hg, rnO_den hm oc (hrel.wfo _ oc hd hg), ?_, hd⟩
      have e1 : ¬ ι.length + (b - h.length) < ι.length := by omega
      simp only [renameF, if_neg e1]; omega
  have hat : ∀ {b}, σ.dom b → (σ.more h.length rs).loc b = σ.loc b := fun hb => (hext _ hb).2
  have hwimgc : ∀ {r}, wimg (σ.via ι) hc r → wimg σ G r := fun hi => by
    obtain ⟨b', o', k1, k2, k3, k6, k5, k4⟩ := wimg_via hι hih hi
    exact ⟨b', o', hι b' k1, k2, k3, k6, k5, k4⟩
  have hwout : ∀ {b o}, b ∉ ι → σ.dom b → G[b]? = some o → o.live = true → 0 < (σ.loc b).cap → ¬ wimg (σ.via ι) hc (σ.at_ b) := fun hbi hbd hbo hl hcap hi => by
    obtain ⟨b', o', k1, k2, k3, k6, k5, k4⟩ := wimg_via hι hih hi
    have := hr.inj _ _ _ _ (hι b' k1) hbd k2 hbo k3 hl k6 hcap (.inl k5) k4
    exact hbi (this ▸ k1)
  have hout : ∀ {b o}, b ∉ ι → σ.dom b → G[b]? = some o → o.live = true → 0 < (σ.loc b).cap → o.wr = true → ¬ img (σ.via ι) hc (σ.at_ b) := fun hbi hbd hbo hl hcap hwr hi => by
    obtain ⟨b', o', k1, k2, k3, k6, k4⟩ := img_via hι hih hi
    have := hr.inj _ _ _ _ (hι b' k1) hbd k2 hbo k3 hl k6 hcap (.inr hwr) k4
    exact hbi (this ▸ k1)
  have himgc : ∀ {r}, img (σ.via ι) hc r → img σ G r := fun hi => by
    obtain ⟨b', o', k1, k2, k3, k6, k4⟩ := img_via hι hih hi
    exact ⟨b', o', hι b' k1, k2, k3, k6, k4⟩
  refine ⟨rs, rfl, by rw [d1], d2, applyUpd upd' G, fun b hb => ?_, fun b hb => ?_, pw_of hr ⟨fun b hb => ?_, ?_, ?_, ?_⟩ (hfrm.mono (fun r hi => .inl (hwimgc hi))) ?_ ?_⟩
  · by_cases hbh : b < h.length
    · rw [List.getElem?_append_left (by rw [applyUpd_length]; exact hbh)]
      exact applyUpd_agree hbh hpre
    · rw [uout b (fun hi => hbh (hlt b hi))]; exact hbirth b (by omega) hb
  · exact uout b (fun hi => by have := hlt b hi; omega)
  · rw [applyUpd_length]
    rcases hb with hb | ⟨h1, h2⟩
    · exact hr.lt b hb
    · have e := hbirth b h1 h2
      rw [List.getElem?_eq_getElem (l := applyUpd upd' h ++ news.map (rnO (renameF ι h.length))) (by rw [hl']; exact h2)] at e
      exact (List.getElem?_eq_some_iff.1 e).1
  · intro b o hbd hbo hl
    rcases hcan b o hbd hbo with ⟨c, oc, k1, k2, rfl, k4⟩ | ⟨k1, k2, k3⟩
    · rw [(hm c k4).2, ← k2.blk]
      exact hrel.blk c oc k4 k1 (by rw [← k2.live]; exact hl)
    · rw [hat k2]
      have hb := hr.blk b o k2 k3 hl
      refine (hb.heap_eq (fun hcap => ?_)).ext hext (hr.wfo b o k2 k3)
      exact hfrm.block _ (hr.img_lt ⟨b, o, k2, k3, hl, hcap, rfl⟩) (hwout k1 k2 k3 hl hcap)
  · intro b b' o o' hb hb' hbo hbo' hl hl' cap cap' hwr he
    have cross : ∀ {b o c oc}, b ∉ ι → σ.dom b → G[b]? = some o → o.live = true → 0 < (σ.loc b).cap → (applyUpd upd hc ++ news)[c]? = some oc → oc.live = true → ((σ.via ι).more ι.length rs).dom c → 0 < (((σ.via ι).more ι.length rs).loc c).cap →
        o.wr = true ∨ oc.wr = true → σ.at_ b ≠ ((σ.via ι).more ι.length rs).at_ c := fun {b o c oc} k1 k2 k3 hl kc q1 hlc q4 qc hw he => by
      have hlt' := hr.img_lt ⟨b, o, k2, k3, hl, kc, rfl⟩
      rcases hw with hw | hw
      · rcases himg _ ⟨c, oc, q4, q1, hlc, qc, rfl⟩ with h1 | h1
        · rw [← he] at h1; exact hout k1 k2 k3 hl kc hw h1
        · omega
      · rcases hwim _ ⟨c, oc, q4, q1, hlc, qc, hw, rfl⟩ with h1 | h1
        · rw [← he] at h1; exact hwout k1 k2 k3 hl kc h1
        · omega
    rcases hcan b o hb hbo with ⟨c, oc, k1, k2, rfl, k4⟩ | ⟨k1, k2, k3⟩ <;> rcases hcan b' o' hb' hbo' with ⟨c', oc', q1, q2, rfl, q4⟩ | ⟨q1, q2, q3⟩
    · simp only [Sg.at_, (hm c k4).2, (hm c' q4).2] at he cap cap'
      exact congrArg _ (hrel.inj c c' oc oc' k4 q4 k1 q1 (by rw [← k2.live]; exact hl) (by rw [← q2.live]; exact hl') cap cap' (by rw [← k2.wr, ← q2.wr]; exact hwr) he)
    · simp only [Sg.at_, (hm c k4).2, hat q2] at he cap cap'
      exact absurd he.symm (cross q1 q2 q3 hl' cap' k1 (by rw [← k2.live]; exact hl) k4 cap (by rw [← k2.wr]; exact hwr.symm))
    · simp only [Sg.at_, (hm c' q4).2, hat k2] at he cap cap'
      exact absurd he (cross k1 k2 k3 hl cap q1 (by rw [← q2.live]; exact hl') q4 cap' (by rw [← q2.wr]; exact hwr))
    · simp only [Sg.at_, hat k2, hat q2] at he cap cap'
      exact hr.inj b b' o o' k2 q2 k3 q3 hl hl' cap cap' hwr he
  · intro b o hbd hbo
    rcases hcan b o hbd hbo with ⟨c, oc, k1, k2, rfl, k4⟩ | ⟨k1, k2, k3⟩
    · exact k2.wf (hrel.wfo c oc k4 k1)
    · exact wfO_ext hext o (hr.wfo b o k2 k3)
  · rintro r ⟨b, o, hbd, hbo, hl, cap, rfl⟩
    rcases hcan b o hbd hbo with ⟨c, oc, k1, k2, rfl, k4⟩ | ⟨k1, k2, k3⟩
    · simp only [Sg.at_, (hm c k4).2] at cap ⊢
      rcases himg _ ⟨c, oc, k4, k1, by rw [← k2.live]; exact hl, cap, rfl⟩ with h1 | h1
      · exact .inl (himgc h1)
      · exact .inr h1
    · simp only [Sg.at_, hat k2] at cap ⊢
      exact .inl ⟨b, o, k2, k3, hl, cap, rfl⟩
  · rintro r ⟨b, o, hbd, hbo, hl, cap, hwr, rfl⟩
    rcases hcan b o hbd hbo with ⟨c, oc, k1, k2, rfl, k4⟩ | ⟨k1, k2, k3⟩
    · simp only [Sg.at_, (hm c k4).2] at cap ⊢
      rcases hwim _ ⟨c, oc, k4, k1, by rw [← k2.live]; exact hl, cap, by rw [← k2.wr]; exact hwr, rfl⟩ with h1 | h1
      · exact .inl (hwimgc h1)
      · exact .inr h1
    · simp only [Sg.at_, hat k2] at cap ⊢
      exact .inl ⟨b, o, k2, k3, hl, cap, hwr, rfl⟩
end
end Go.Abs
