import Derived.Test.YtffoldigaififaaAbsI
set_option linter.unusedVariables false
set_option linter.unusedSimpArgs false
namespace Go.Abs

def Callable (P : Program) (f : FuncId) : Prop := ∃ fn, P.funcs[f]? = some fn ∧ fn.body.isNone = false ∧ (fn.name == "runtime.NumGoroutine") = false
def Full (σ : Sg) (h : List AObj) : Prop := ∀ b, σ.dom b ↔ b < h.length

/-- behind a call, or a stretch of code, that began at σ, h, w: names for the new blocks, the heap h' -/
structure Went (P : Program) (σ : Sg) (h : List AObj) (w : World) (σ' : Sg) (h' : List AObj) (w' : World) : Prop where
  rel : RelH P σ' h' w'
  full : Full σ' h'
  frm : Frm (wimg σ h) w w'
  img : ∀ r, img σ' h' r → img σ h r ∨ w.heap.size ≤ r
  wim : ∀ r, wimg σ' h' r → wimg σ h r ∨ w.heap.size ≤ r
theorem went_of {P : Program} {σ σ' : Sg} {h h' : List AObj} {w w' : World} (hr : RelH P σ h w) (c : RelC P σ' h' w') (full : Full σ' h') (frm : Frm (wimg σ h) w w')
    (img : ∀ r, img σ' h' r → Go.Abs.img σ h r ∨ w.heap.size ≤ r) (wim : ∀ r, wimg σ' h' r → wimg σ h r ∨ w.heap.size ≤ r) : Went P σ h w σ' h' w' := ⟨hr.step c frm wim, full, frm, img, wim⟩

/-- What a call comes to, told over the blocks that its arguments reach. -/
def ACalls (P : Program) (f : FuncId) (args : List AV) (hc : List AObj) (res : AV) (upd : List (Nat × AObj)) (news : List AObj) : Prop :=
  Callable P f ∧ ∀ σ w, Full σ hc → RelH P σ hc w → wfL σ args → Calls P f (denL σ args).toArray w fun e w' =>
    ∃ rs : List Loc, rs.length = news.length ∧ e = .returned (den (σ.more hc.length rs) res) ∧ wf (σ.more hc.length rs) res ∧
      Went P σ hc w (σ.more hc.length rs) (applyUpd upd hc ++ news) w'

def renameF (ι : List Nat) (n : Nat) (c : Nat) : Nat := if c < ι.length then ι.getD c 0 else n + (c - ι.length)
def updA (ι : List Nat) (m : Nat → Nat) : List (Nat × AObj) → Option (List (Nat × AObj))
  | [] => some []
  | (c, o) :: u => match ι[c]?, updA ι m u with
    | some b, some u' => some ((b, rnO m o) :: u')
    | _, _ => none
def nodupB : List Nat → Bool
  | [] => true
  | b :: l => !(l.any fun x => x == b) && nodupB l
theorem nodupB_spec : ∀ {l : List Nat}, nodupB l = true → l.Nodup
  | [], _ => List.nodup_nil
  | b :: l, h => by
    simp only [nodupB, Bool.and_eq_true, Bool.not_eq_true', List.any_eq_false, beq_iff_eq] at h
    exact List.nodup_cons.2 ⟨fun hb => h.1 b hb rfl, nodupB_spec h.2⟩
def callA (P : Program) (h : List AObj) (f : FuncId) (args : List AV) (ι : List Nat) (res : AV) (upd : List (Nat × AObj)) (news : List AObj) : Option (AV × List AObj × List Prop) :=
  match invL ι args, invH ι h ι, updA ι (renameF ι h.length) upd with
  | some args', some hc, some upd' =>
    if nodupB ι = true then some (rn (renameF ι h.length) res, applyUpd upd' h ++ news.map (rnO (renameF ι h.length)), [ACalls P f args' hc res upd news]) else none
  | _, _, _ => none

section
variable {P : Program} {σ : Sg} {h : List AObj} {w : World}

theorem invH_lt {ι : List Nat} {h : List AObj} : ∀ {l : List Nat} {m : List AObj}, invH ι h l = some m → ∀ b ∈ l, b < h.length
  | [], m, hh, b, hb => by simp at hb
  | x :: l, m, hh, b, hb => by
    simp only [invH] at hh
    split at hh <;> try simp at hh
    rename_i o ho
    split at hh <;> simp at hh
    rename_i o' m' h1 h2
    rcases List.mem_cons.1 hb with rfl | hb
    · exact (List.getElem?_eq_some_iff.1 ho).1
    · exact invH_lt h2 b hb

theorem applyUpd_out : ∀ {u : List (Nat × AObj)} {h : List AObj} {b : Nat}, (∀ p ∈ u, p.1 ≠ b) → (applyUpd u h)[b]? = h[b]?
  | [], h, b, _ => rfl
  | (c, o) :: u, h, b, hb => by
    simp only [applyUpd]
    rw [applyUpd_out (fun p hp => hb p (by simp [hp])), List.getElem?_set_ne (hb (c, o) (by simp))]

theorem updA_mem {ι : List Nat} {m : Nat → Nat} : ∀ {u : List (Nat × AObj)} {u' : List (Nat × AObj)}, updA ι m u = some u' → ∀ p ∈ u', p.1 ∈ ι
  | [], u', h, p, hp => by simp [updA] at h; subst h; simp at hp
  | (c, o) :: u, u', h, p, hp => by
    simp only [updA] at h
    split at h <;> simp at h
    rename_i b u1 h1 h2
    subst h
    rcases List.mem_cons.1 hp with rfl | hp
    · exact List.mem_of_getElem? h1
    · exact updA_mem h2 p hp

theorem upd_rel {σ' σc : Sg} {ι : List Nat} {m : Nat → Nat} (hm : ∀ c, σc.dom c → σ'.dom (m c) ∧ σ'.loc (m c) = σc.loc c) (hnd : ι.Nodup) :
    ∀ {u u' : List (Nat × AObj)} {h hc : List AObj}, updA ι m u = some u' →
      (∀ (c b : Nat), ι[c]? = some b → ∃ o oc, h[b]? = some o ∧ hc[c]? = some oc ∧ (wfO σc oc → Same σc σ' oc o)) →
      ∀ (c b : Nat), ι[c]? = some b → ∃ o oc, (applyUpd u' h)[b]? = some o ∧ (applyUpd u hc)[c]? = some oc ∧ (wfO σc oc → Same σc σ' oc o)
  | [], u', h, hc, hu, hh => by simp [updA] at hu; subst hu; exact hh
  | (c0, o0) :: u, u', h, hc, hu, hh => by
    simp only [updA] at hu
    split at hu <;> simp at hu
    rename_i b0 u1 h1 h2
    subst hu
    simp only [applyUpd]
    refine upd_rel hm hnd h2 ?_
    · intro c b hb
      obtain ⟨o, oc, k1, k2, k3⟩ := hh c b hb
      by_cases hcc : c = c0
      · subst hcc
        rw [h1] at hb
        obtain rfl := Option.some.inj hb
        refine ⟨rnO m o0, o0, ?_, ?_, fun hw => rnO_den hm o0 hw⟩
        · rw [List.getElem?_set_self (List.getElem?_eq_some_iff.1 k1).1]
        · rw [List.getElem?_set_self (List.getElem?_eq_some_iff.1 k2).1]
      · have hbb : b0 ≠ b := fun he => by
          subst he
          have := (List.getElem?_inj (List.getElem?_eq_some_iff.1 hb).1 hnd).1 (hb.trans h1.symm)
          exact hcc this
        exact ⟨o, oc, by rw [List.getElem?_set_ne hbb]; exact k1, by rw [List.getElem?_set_ne (Ne.symm hcc)]; exact k2, k3⟩

theorem more_via (σ : Sg) (h : List AObj) (ι : List Nat) (rs : List Loc) (hf : Full σ h) (hlt : ∀ b ∈ ι, b < h.length) :
    ∀ c, ((σ.via ι).more ι.length rs).dom c → (σ.more h.length rs).dom (renameF ι h.length c) ∧ (σ.more h.length rs).loc (renameF ι h.length c) = ((σ.via ι).more ι.length rs).loc c := by
  intro c hc
  unfold renameF
  by_cases h1 : c < ι.length
  · rw [if_pos h1]
    have hb : ι.getD c 0 < h.length := by
      have : ι.getD c 0 = ι[c] := by simp [h1]
      rw [this]; exact hlt _ (List.getElem_mem h1)
    refine ⟨.inl ((hf _).2 hb), ?_⟩
    rw [Sg.more_lt _ _ hb, Sg.more_lt _ _ h1]; rfl
  · rw [if_neg h1]
    rcases hc with hc | ⟨h2, h3⟩
    · exact absurd hc h1
    have e1 : ¬ h.length + (c - ι.length) < h.length := by omega
    have e2 : h.length + (c - ι.length) - h.length = c - ι.length := by omega
    have hj : c - ι.length < rs.length := by omega
    refine ⟨.inr (by omega), ?_⟩
    simp [Sg.more, e1, e2, h1, hj]

theorem call_sound {f : FuncId} {args : List AV} {ι : List Nat} {res : AV} {upd : List (Nat × AObj)} {news : List AObj} {v : AV} {h' : List AObj} {cs : List Prop}
    (hcall : callA P h f args ι res upd news = some (v, h', cs)) (hcs : All cs) (hf : Full σ h) (hr : RelH P σ h w) (hw : wfL σ args) :
    Callable P f ∧ Calls P f (denL σ args).toArray w fun e w' => ∃ rs : List Loc, rs.length = news.length ∧ e = .returned (den (σ.more h.length rs) v) ∧ wf (σ.more h.length rs) v ∧
      Went P σ h w (σ.more h.length rs) h' w' := by
  unfold callA at hcall
  split at hcall <;> try simp at hcall
  rename_i args' hc upd' hia hih hiu
  obtain ⟨hnd, rfl, rfl, rfl⟩ := hcall
  have hnd := nodupB_spec hnd
  have hlt := invH_lt hih
  obtain ⟨⟨hcal, hac⟩, -⟩ := hcs
  refine ⟨hcal, ?_⟩
  have hrc := hr.via (fun b hb => (hf b).2 (hlt b hb)) hnd hih
  obtain ⟨hlen, hget⟩ := invH_get (σ := σ) hih
  obtain ⟨ha1, ha2⟩ := invL_den (σ := σ) hia
  have hfc : Full (σ.via ι) hc := fun b => by rw [hlen]; exact Iff.rfl
  rw [← ha1]
  refine (hac (σ.via ι) w hfc hrc (ha2 hw)).mono ?_
  rintro e w' ⟨rs, hrs, rfl, hwv, hrel, hfull, hfrm, himg, hwim⟩
  rw [hlen] at hwv hrel hfull himg hwim ⊢
  have hm := more_via σ h ι rs hf hlt
  have hext : Ext σ (σ.more h.length rs) := Sg.more_ext _ _ _ fun b h1 h2 h3 => by have := (hf b).1 h3; omega
  have hextc : Ext (σ.via ι) ((σ.via ι).more ι.length rs) := Sg.more_ext _ _ _ fun b h1 h2 h3 => by
    have : b < ι.length := h3
    omega
  obtain ⟨d1, d2⟩ := rn_den hm res hwv
  have hul : (applyUpd upd' h).length = h.length := applyUpd_length _ _
  have hulc : (applyUpd upd hc).length = ι.length := by rw [applyUpd_length, hlen]
  -- every object of the new heap: one of the callee's, or one that it never saw
  have hupd := upd_rel (h := h) (hc := hc) hm hnd hiu (fun c b hb => by
    obtain ⟨o, oc, k1, k2, k3⟩ := hget c b hb
    have hwb := hr.wfo b o ((hf b).2 (hlt b (List.mem_of_getElem? hb))) k1
    have hwc := k3.wf hwb
    refine ⟨o, oc, k1, k2, fun hwo => ⟨?_, k3.wr.symm, k3.live.symm, k3.row.symm, k3.tag.symm, fun L ob _ => ?_, fun _ => wfO_ext hext o hwb⟩⟩
    · rw [denO_ext hext o hwb, ← k3.den, denO_ext hextc oc hwc]
    · rw [Rep.ext hext hwb, Rep.ext hextc hwc]; exact k3.repI.symm)
  have hcan : ∀ (b : Nat) (o : AObj), (applyUpd upd' h ++ news.map (rnO (renameF ι h.length)))[b]? = some o →
      (∃ c oc, (applyUpd upd hc ++ news)[c]? = some oc ∧ Same ((σ.via ι).more ι.length rs) (σ.more h.length rs) oc o ∧ renameF ι h.length c = b ∧ ((σ.via ι).more ι.length rs).dom c) ∨
        (b ∉ ι ∧ b < h.length ∧ h[b]? = some o) := by
    intro b o hbo
    by_cases hb : b < h.length
    · rw [List.getElem?_append_left (by omega)] at hbo
      by_cases hbi : b ∈ ι
      · obtain ⟨c, hc'⟩ := List.mem_iff_getElem?.1 hbi
        have hcl := (List.getElem?_eq_some_iff.1 hc').1
        obtain ⟨o', oc, k1, k2, k3⟩ := hupd c b hc'
        rw [hbo] at k1
        obtain rfl := Option.some.inj k1
        have hg : (applyUpd upd hc ++ news)[c]? = some oc := by rw [List.getElem?_append_left (by omega)]; exact k2
        have hd : ((σ.via ι).more ι.length rs).dom c := .inl hcl
        exact .inl ⟨c, oc, hg, k3 (hrel.wfo c oc hd hg), by
          have e1 : ι[c] = b := by have := hc'; rw [List.getElem?_eq_getElem hcl] at this; exact Option.some.inj this
          simp [renameF, hcl, e1], hd⟩
      · rw [applyUpd_out (b := b) (fun p hp he => hbi (by rw [← he]; exact updA_mem hiu p hp))] at hbo
        exact .inr ⟨hbi, hb, hbo⟩
    · rw [List.getElem?_append_right (by omega), hul, List.getElem?_map] at hbo
      simp only [Option.map_eq_some_iff] at hbo
      obtain ⟨oc, k1, rfl⟩ := hbo
      have hj := (List.getElem?_eq_some_iff.1 k1).1
      have hg : (applyUpd upd hc ++ news)[ι.length + (b - h.length)]? = some oc := by
        rw [List.getElem?_append_right (by omega), hulc]
        rw [show ι.length + (b - h.length) - ι.length = b - h.length from by omega]; exact k1
      have hd : ((σ.via ι).more ι.length rs).dom (ι.length + (b - h.length)) := .inr ⟨by omega, by omega⟩
      refine .inl ⟨ι.length + (b - h.length), oc, hg, rnO_den hm oc (hrel.wfo _ oc hd hg), ?_, hd⟩
      have e1 : ¬ ι.length + (b - h.length) < ι.length := by omega
      simp only [renameF, if_neg e1]; omega
  have hatlt : ∀ {b}, b < h.length → (σ.more h.length rs).loc b = σ.loc b := fun hb => Sg.more_lt _ _ hb
  have hwimgc : ∀ {r}, wimg (σ.via ι) hc r → wimg σ h r := fun hi => by
    obtain ⟨b', o', k1, k2, k3, k6, k5, k4⟩ := wimg_via (fun b hb => (hf b).2 (hlt b hb)) hih hi
    exact ⟨b', o', (hf b').2 (hlt b' k1), k2, k3, k6, k5, k4⟩
  have hwout : ∀ {b o}, b ∉ ι → h[b]? = some o → o.live = true → 0 < (σ.loc b).cap → ¬ wimg (σ.via ι) hc (σ.at_ b) := fun hbi hbo hl hcap hi => by
    obtain ⟨b', o', k1, k2, k3, k6, k5, k4⟩ := wimg_via (fun b hb => (hf b).2 (hlt b hb)) hih hi
    have := hr.inj _ _ _ _ ((hf b').2 (hlt b' k1)) ((hf _).2 (List.getElem?_eq_some_iff.1 hbo).1) k2 hbo k3 hl k6 hcap (.inl k5) k4
    exact hbi (this ▸ k1)
  have hout : ∀ {b o}, b ∉ ι → h[b]? = some o → o.live = true → 0 < (σ.loc b).cap → o.wr = true → ¬ img (σ.via ι) hc (σ.at_ b) := fun hbi hbo hl hcap hwr hi => by
    obtain ⟨b', o', k1, k2, k3, k6, k4⟩ := img_via (fun b hb => (hf b).2 (hlt b hb)) hih hi
    have := hr.inj _ _ _ _ ((hf b').2 (hlt b' k1)) ((hf _).2 (List.getElem?_eq_some_iff.1 hbo).1) k2 hbo k3 hl k6 hcap (.inr hwr) k4
    exact hbi (this ▸ k1)
  have himgc : ∀ {r}, img (σ.via ι) hc r → img σ h r := fun hi => by
    obtain ⟨b', o', k1, k2, k3, k6, k4⟩ := img_via (fun b hb => (hf b).2 (hlt b hb)) hih hi
    exact ⟨b', o', (hf b').2 (hlt b' k1), k2, k3, k6, k4⟩
  have hlen' : (applyUpd upd' h ++ news.map (rnO (renameF ι h.length))).length = h.length + rs.length := by simp [hrs]
  have hfull' : Full (σ.more h.length rs) (applyUpd upd' h ++ news.map (rnO (renameF ι h.length))) := fun b => by
    rw [hlen']
    constructor
    · rintro (h1 | h1)
      · have := (hf b).1 h1; omega
      · omega
    · intro h1
      by_cases hb : b < h.length
      · exact .inl ((hf b).2 hb)
      · exact .inr (by omega)
  refine ⟨rs, hrs, by rw [d1], d2, went_of hr ⟨fun b hb => (hfull' b).1 hb, ?_, ?_, ?_⟩ hfull' (hfrm.mono (fun r hi => .inl (hwimgc hi))) ?_ ?_⟩
  · intro b o hbd hbo hl
    rcases hcan b o hbo with ⟨c, oc, k1, k2, rfl, k4⟩ | ⟨k1, k2, k3⟩
    · rw [(hm c k4).2, ← k2.blk]
      exact hrel.blk c oc k4 k1 (by rw [← k2.live]; exact hl)
    · rw [hatlt k2]
      have hb := hr.blk b o ((hf b).2 k2) k3 hl
      refine (hb.heap_eq (fun hcap => ?_)).ext hext (hr.wfo b o ((hf b).2 k2) k3)
      exact hfrm.block _ (hr.img_lt ⟨b, o, (hf b).2 k2, k3, hl, hcap, rfl⟩) (hwout k1 k3 hl hcap)
  · intro b b' o o' hb hb' hbo hbo' hl hl' cap cap' hwr he
    have cross : ∀ {b o c oc}, b ∉ ι → b < h.length → h[b]? = some o → o.live = true → 0 < (σ.loc b).cap → (applyUpd upd hc ++ news)[c]? = some oc → oc.live = true → ((σ.via ι).more ι.length rs).dom c → 0 < (((σ.via ι).more ι.length rs).loc c).cap →
        o.wr = true ∨ oc.wr = true → σ.at_ b ≠ ((σ.via ι).more ι.length rs).at_ c := fun {b o c oc} k1 k2 k3 hl kc q1 hlc q4 qc hw he => by
      have hlt' := hr.img_lt ⟨b, o, (hf b).2 k2, k3, hl, kc, rfl⟩
      rcases hw with hw | hw
      · rcases himg _ ⟨c, oc, q4, q1, hlc, qc, rfl⟩ with h1 | h1
        · rw [← he] at h1; exact hout k1 k3 hl kc hw h1
        · omega
      · rcases hwim _ ⟨c, oc, q4, q1, hlc, qc, hw, rfl⟩ with h1 | h1
        · rw [← he] at h1; exact hwout k1 k3 hl kc h1
        · omega
    rcases hcan b o hbo with ⟨c, oc, k1, k2, rfl, k4⟩ | ⟨k1, k2, k3⟩ <;> rcases hcan b' o' hbo' with ⟨c', oc', q1, q2, rfl, q4⟩ | ⟨q1, q2, q3⟩
    · simp only [Sg.at_, (hm c k4).2, (hm c' q4).2] at he cap cap'
      exact congrArg _ (hrel.inj c c' oc oc' k4 q4 k1 q1 (by rw [← k2.live]; exact hl) (by rw [← q2.live]; exact hl') cap cap' (by rw [← k2.wr, ← q2.wr]; exact hwr) he)
    · simp only [Sg.at_, (hm c k4).2, hatlt q2] at he cap cap'
      exact absurd he.symm (cross q1 q2 q3 hl' cap' k1 (by rw [← k2.live]; exact hl) k4 cap (by rw [← k2.wr]; exact hwr.symm))
    · simp only [Sg.at_, (hm c' q4).2, hatlt k2] at he cap cap'
      exact absurd he (cross k1 k2 k3 hl cap q1 (by rw [← q2.live]; exact hl') q4 cap' (by rw [← q2.wr]; exact hwr))
    · simp only [Sg.at_, hatlt k2, hatlt q2] at he cap cap'
      exact hr.inj b b' o o' ((hf b).2 k2) ((hf b').2 q2) k3 q3 hl hl' cap cap' hwr he
  · intro b o hbd hbo
    rcases hcan b o hbo with ⟨c, oc, k1, k2, rfl, k4⟩ | ⟨k1, k2, k3⟩
    · exact k2.wf (hrel.wfo c oc k4 k1)
    · exact wfO_ext hext o (hr.wfo b o ((hf b).2 k2) k3)
  · rintro r ⟨b, o, hbd, hbo, hl, cap, rfl⟩
    rcases hcan b o hbo with ⟨c, oc, k1, k2, rfl, k4⟩ | ⟨k1, k2, k3⟩
    · simp only [Sg.at_, (hm c k4).2] at cap ⊢
      rcases himg _ ⟨c, oc, k4, k1, by rw [← k2.live]; exact hl, cap, rfl⟩ with h1 | h1
      · exact .inl (himgc h1)
      · exact .inr h1
    · simp only [Sg.at_, hatlt k2] at cap ⊢
      exact .inl ⟨b, o, (hf b).2 k2, k3, hl, cap, rfl⟩
  · rintro r ⟨b, o, hbd, hbo, hl, cap, hwr, rfl⟩
    rcases hcan b o hbo with ⟨c, oc, k1, k2, rfl, k4⟩ | ⟨k1, k2, k3⟩
    · simp only [Sg.at_, (hm c k4).2] at cap ⊢
      rcases hwim _ ⟨c, oc, k4, k1, by rw [← k2.live]; exact hl, cap, by rw [← k2.wr]; exact hwr, rfl⟩ with h1 | h1
      · exact .inl (hwimgc h1)
      · exact .inr h1
    · simp only [Sg.at_, hatlt k2] at cap ⊢
      exact .inl ⟨b, o, (hf b).2 k2, k3, hl, cap, hwr, rfl⟩
end
end Go.Abs
