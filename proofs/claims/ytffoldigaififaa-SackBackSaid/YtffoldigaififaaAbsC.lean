import Derived.Test.YtffoldigaififaaAbsB
set_option linter.unusedVariables false
/- What a step of the abstract machine makes of the relation to the real one. -/
namespace Go.Abs

def applyUpd : List (Nat × AObj) → List AObj → List AObj
  | [], h => h
  | (b, o) :: u, h => applyUpd u (h.set b o)

@[simp] theorem applyUpd_length : ∀ (u : List (Nat × AObj)) (h : List AObj), (applyUpd u h).length = h.length
  | [], h => rfl
  | (b, o) :: u, h => by simp [applyUpd, applyUpd_length u]

theorem Sg.more_nil (σ : Sg) (n : Nat) : σ.more n [] = σ := by
  obtain ⟨a, d⟩ := σ
  unfold Sg.more
  congr 1
  · funext b; simp
  · funext b; simp; omega
theorem Sg.more_lt (σ : Sg) {n b : Nat} (rs : List Loc) (h : b < n) : (σ.more n rs).loc b = σ.loc b := by simp [Sg.more, h]
theorem Sg.more_one (σ : Sg) (n : Nat) (r : Loc) : (σ.more n [r]).loc n = r := by simp [Sg.more]
theorem Sg.more_dom_one (σ : Sg) (n b : Nat) (r : Loc) : (σ.more n [r]).dom b ↔ σ.dom b ∨ b = n := by
  have : (n ≤ b ∧ b < n + 1) ↔ b = n := by omega
  simp [Sg.more, this]
theorem Sg.more_ext1 (σ : Sg) (n : Nat) (r : Loc) (hf : ¬ σ.dom n) : Ext σ (σ.more n [r]) :=
  Sg.more_ext _ _ _ fun b h1 h2 => by
    have h3 : b < n + 1 := h2
    have : b = n := by omega
    exact this ▸ hf

/-- Behind one operation: the new blocks' names, the value, the relation, what stays. -/
def Post (P : Program) (σ : Sg) (n : Nat) (g : List AObj) (w : World) (val : AV) (news : List AObj) (upd : List (Nat × AObj)) (v' : Value) (w' : World) : Prop :=
  ∃ rs : List Loc, rs.length = news.length ∧ v' = den (σ.more n rs) val ∧ wf (σ.more n rs) val ∧ RelH P (σ.more n rs) (applyUpd upd g) w' ∧
    Frm (wimg σ g) w w' ∧ (∀ r, img (σ.more n rs) (applyUpd upd g) r → img σ g r ∨ w.heap.size ≤ r) ∧
    (∀ r, wimg (σ.more n rs) (applyUpd upd g) r → wimg σ g r ∨ w.heap.size ≤ r)

section
variable {P : Program} {σ : Sg} {n : Nat} {g : List AObj} {w : World}

theorem post_mk (hr : RelH P σ g w) {val : AV} {news : List AObj} {upd : List (Nat × AObj)} {v' : Value} {w' : World}
    (h : ∃ rs : List Loc, rs.length = news.length ∧ v' = den (σ.more n rs) val ∧ wf (σ.more n rs) val ∧ RelC P (σ.more n rs) (applyUpd upd g) w' ∧
      Frm (wimg σ g) w w' ∧ (∀ r, img (σ.more n rs) (applyUpd upd g) r → img σ g r ∨ w.heap.size ≤ r) ∧
      (∀ r, wimg (σ.more n rs) (applyUpd upd g) r → wimg σ g r ∨ w.heap.size ≤ r)) : Post P σ n g w val news upd v' w' := by
  obtain ⟨rs, h1, h2, h3, h4, h5, h6, h7⟩ := h
  exact ⟨rs, h1, h2, h3, hr.step h4 h5 h7, h5, h6, h7⟩

theorem post_pure (hr : RelH P σ g w) {val : AV} (hv : wf σ val) : Post P σ n g w val [] [] (den σ val) w :=
  ⟨[], rfl, by rw [Sg.more_nil], by rw [Sg.more_nil]; exact hv, by rw [Sg.more_nil]; exact hr, Frm.refl _ _, by rw [Sg.more_nil]; exact fun r h => .inl h, by rw [Sg.more_nil]; exact fun r h => .inl h⟩

theorem push_old (o : Obj) {r : Nat} (h : r < w.heap.size) : (w.heap.push o)[r]? = w.heap[r]? := by
  rw [Array.getElem?_push, if_neg (by omega)]

/-- a new object, in a new block, or in none at all -/
theorem post_new (hr : RelH P σ g w) {o : AObj} (hn : g[n]? = some o) (hf : ¬ σ.dom n) (hw : wfO σ o) {L : Loc} {w' : World}
    (hold : ∀ r, r < w.heap.size → w'.heap[r]? = w.heap[r]?) (hsz : w.heap.size ≤ w'.heap.size) (hos : w'.os = w.os) (htp : w'.tape = w.tape) (hout : w'.output = w.output)
    (hb : Blk σ o w' L) (hat : 0 < L.cap → w.heap.size ≤ L.at_ ∨ (o.wr = false ∧ ∃ b o', σ.dom b ∧ g[b]? = some o' ∧ o'.live = true ∧ o'.wr = false ∧ 0 < (σ.loc b).cap ∧ σ.at_ b = L.at_))
    {val : AV} (hval : wf (σ.more n [L]) val) :
    Post P σ n g w val [o] [] (den (σ.more n [L]) val) w' := by
  have hext : Ext σ (σ.more n [L]) := Sg.more_ext1 _ _ _ hf
  have hlo : ∀ {b}, σ.dom b → (σ.more n [L]).loc b = σ.loc b := fun hb => (hext _ hb).2
  have hln : (σ.more n [L]).loc n = L := Sg.more_one _ _ _
  have key : ∀ {b o' x}, σ.dom b → g[b]? = some o' → o'.live = true → x = o → 0 < (σ.loc b).cap → 0 < L.cap → o'.wr = true ∨ x.wr = true → σ.at_ b = L.at_ → False := by
    intro b o' x hd ho hl hx hc hcL hwr he
    subst hx
    rcases hat hcL with h1 | ⟨h1, b2, o2, k1, k2, k3, k4, k5, k6⟩
    · have := hr.img_lt ⟨b, o', hd, ho, hl, hc, rfl⟩; omega
    · rcases hwr with h2 | h2
      · have := hr.inj b b2 o' o2 hd k1 ho k2 hl k3 hc k5 (.inl h2) (he.trans k6.symm)
        subst this
        rw [ho] at k2; obtain rfl := Option.some.inj k2
        rw [h2] at k4; simp at k4
      · rw [h1] at h2; simp at h2
  refine post_mk hr ⟨[L], rfl, rfl, hval, ⟨?_, ?_, ?_, ?_⟩, ⟨hos, htp, hout, hsz, fun r h1 _ => hold r h1⟩, ?_, ?_⟩
  · intro b hb
    rcases (Sg.more_dom_one _ _ _ _).1 hb with h | rfl
    · exact hr.lt b h
    · exact (List.getElem?_eq_some_iff.1 hn).1
  · intro b o' hb' ho' hl
    rcases (Sg.more_dom_one _ _ _ _).1 hb' with h | rfl
    · rw [hlo h]
      have hblk := hr.blk b o' h ho' hl
      refine (hblk.heap_eq (fun hc => hold _ (hr.img_lt ⟨b, o', h, ho', hl, hc, rfl⟩))).ext hext (hr.wfo b o' h ho')
    · replace ho' : g[b]? = some o' := ho'
      rw [hn] at ho'
      obtain rfl := Option.some.inj ho'
      rw [hln]
      exact hb.ext hext hw
  · intro b b' o1 o2 h1 h2 h3 h4 h5 h6 c1 c2 hwr h7
    replace h3 : g[b]? = some o1 := h3
    replace h4 : g[b']? = some o2 := h4
    rcases (Sg.more_dom_one _ _ _ _).1 h1 with k1 | e1 <;> rcases (Sg.more_dom_one _ _ _ _).1 h2 with k2 | e2
    · simp only [Sg.at_, hlo k1, hlo k2] at h7 c1 c2
      exact hr.inj b b' o1 o2 k1 k2 h3 h4 h5 h6 c1 c2 hwr h7
    · subst e2
      simp only [Sg.at_, hlo k1, hln] at h7 c1 c2
      rw [hn] at h4
      exact (key k1 h3 h5 (Option.some.inj h4).symm c1 c2 hwr h7).elim
    · subst e1
      simp only [Sg.at_, hlo k2, hln] at h7 c1 c2
      rw [hn] at h3
      exact (key k2 h4 h6 (Option.some.inj h3).symm c2 c1 hwr.symm h7.symm).elim
    · rw [e1, e2]
  · intro b o' hb ho'
    rcases (Sg.more_dom_one _ _ _ _).1 hb with h | rfl
    · exact wfO_ext hext _ (hr.wfo b o' h ho')
    · replace ho' : g[b]? = some o' := ho'
      rw [hn] at ho'; obtain rfl := Option.some.inj ho'; exact wfO_ext hext _ hw
  · rintro r ⟨b, o', hb, ho', hl, hc, rfl⟩
    rcases (Sg.more_dom_one _ _ _ _).1 hb with h | rfl
    · simp only [Sg.at_, hlo h] at hc ⊢
      exact .inl ⟨b, o', h, ho', hl, hc, rfl⟩
    · simp only [Sg.at_, hln] at hc ⊢
      rcases hat hc with h1 | ⟨-, b2, o2, k1, k2, k3, k4, k5, k6⟩
      · exact .inr h1
      · exact .inl ⟨b2, o2, k1, k2, k3, k5, k6⟩
  · rintro r ⟨b, o', hb, ho', hl, hc, hwr, rfl⟩
    rcases (Sg.more_dom_one _ _ _ _).1 hb with h | rfl
    · simp only [Sg.at_, hlo h] at hc ⊢
      exact .inl ⟨b, o', h, ho', hl, hc, hwr, rfl⟩
    · simp only [Sg.at_, hln] at hc ⊢
      replace ho' : g[b]? = some o' := ho'
      rw [hn] at ho'; obtain rfl := Option.some.inj ho'
      rcases hat hc with h1 | ⟨k, -⟩
      · exact .inr h1
      · rw [k] at hwr; simp at hwr

theorem set_get (h : List AObj) (b : Nat) (o : AObj) {k : Nat} {x : AObj} (hx : (h.set b o)[k]? = some x) : (k = b ∧ x = o ∧ b < h.length) ∨ (k ≠ b ∧ h[k]? = some x) := by
  rw [List.getElem?_set] at hx
  split at hx
  · rename_i e; subst e
    split at hx <;> simp at hx
    exact .inl ⟨rfl, hx.symm, by assumption⟩
  · exact .inr ⟨fun e => by simp_all, hx⟩

/-- an object is written -/
theorem post_write (hr : RelH P σ g w) {b : Nat} {o o' : AObj} (hd : σ.dom b) (ho : g[b]? = some o) (hl : o.live = true) (hwr : o.wr = true) (hk : Like o o') (hw : wfO σ o')
    {w' : World} (hcap : 0 < (σ.loc b).cap) (hh1 : ∃ ob, w'.heap[σ.at_ b]? = some ob ∧ Rep σ o' (σ.loc b) ob) (hh2 : ∀ r, r ≠ σ.at_ b → w'.heap[r]? = w.heap[r]?) (hsize : w'.heap.size = w.heap.size)
    (hos : w'.os = w.os) (htp : w'.tape = w.tape) (hout : w'.output = w.output) {val : AV} (hval : wf σ val) :
    Post P σ n g w val [] [(b, o')] (den σ val) w' := by
  have hlt : b < g.length := (List.getElem?_eq_some_iff.1 ho).1
  refine post_mk hr ⟨[], rfl, by rw [Sg.more_nil], by rw [Sg.more_nil]; exact hval, ?_, ⟨hos, htp, hout, by omega, ?_⟩, ?_, ?_⟩
  · rw [Sg.more_nil]
    refine ⟨fun k hk' => by simpa [applyUpd] using hr.lt k hk', ?_, ?_, ?_⟩
    · intro k x hkd hkx hxl
      rcases set_get _ _ _ hkx with ⟨rfl, rfl, -⟩ | ⟨hne, hx⟩
      · have hb := hr.blk k o hd ho hl
        exact ⟨by rw [hk.len]; exact hb.len, hb.le, hb.nil, fun _ => hh1, fun h => hb.it (by rw [← hk.row]; exact h)⟩
      · refine (hr.blk k x hkd hx hxl).heap_eq (fun hc => hh2 _ (fun e => hne (hr.inj k b x o hkd hd hx ho hxl hl hc hcap (.inr hwr) e)))
    · intro k k' x x' hkd hkd' hx hx' hlx hlx' c1 c2 hwx he
      rcases set_get _ _ _ hx with ⟨rfl, rfl, -⟩ | ⟨hne, h1⟩ <;> rcases set_get _ _ _ hx' with ⟨rfl, rfl, -⟩ | ⟨hne', h2⟩
      · rfl
      · exact hr.inj _ _ o x' hkd hkd' ho h2 hl hlx' c1 c2 (.inl hwr) he
      · exact hr.inj _ _ x o hkd hkd' h1 ho hlx hl c1 c2 (.inr hwr) he
      · exact hr.inj _ _ x x' hkd hkd' h1 h2 hlx hlx' c1 c2 hwx he
    · intro k x hkd hx
      rcases set_get _ _ _ hx with ⟨rfl, rfl, -⟩ | ⟨hne, h1⟩
      · exact hw
      · exact hr.wfo k x hkd h1
  · intro r h1 h2
    exact hh2 r (fun e => h2 ⟨b, o, hd, ho, hl, hcap, hwr, e.symm⟩)
  · rw [Sg.more_nil]
    rintro r ⟨k, x, hkd, hx, hlx, hc, rfl⟩
    rcases set_get _ _ _ hx with ⟨rfl, rfl, -⟩ | ⟨hne, h1⟩
    · exact .inl ⟨k, o, hkd, ho, hl, hc, rfl⟩
    · exact .inl ⟨k, x, hkd, h1, hlx, hc, rfl⟩
  · rw [Sg.more_nil]
    rintro r ⟨k, x, hkd, hx, hlx, hc, hwx, rfl⟩
    rcases set_get _ _ _ hx with ⟨rfl, rfl, -⟩ | ⟨hne, h1⟩
    · exact .inl ⟨k, o, hkd, ho, hl, hc, hwr, rfl⟩
    · exact .inl ⟨k, x, hkd, h1, hlx, hc, hwx, rfl⟩

/-- an object goes; a new one takes its block over (append in place), or lies in a new block (append that grows), or in none -/
theorem post_move (hr : RelH P σ g w) {b : Nat} {o o' : AObj} (hd : σ.dom b) (ho : g[b]? = some o) (hl : o.live = true) (hwr : o.wr = true) (hbn : b ≠ n)
    (hn : g[n]? = some o') (hf : ¬ σ.dom n) (hw : wfO σ o') {L : Loc} {w' : World}
    (hrn : 0 < L.cap → (L.at_ = σ.at_ b ∧ 0 < (σ.loc b).cap) ∨ w.heap.size ≤ L.at_)
    (hb : Blk σ o' w' L) (hh2 : ∀ k, k < w.heap.size → (k = σ.at_ b → 0 < (σ.loc b).cap → False) → w'.heap[k]? = w.heap[k]?)
    (hsize : w.heap.size ≤ w'.heap.size) (hos : w'.os = w.os) (htp : w'.tape = w.tape) (hout : w'.output = w.output)
    {val : AV} (hval : wf (σ.more n [L]) val) :
    Post P σ n g w val [o'] [(b, .dead)] (den (σ.more n [L]) val) w' := by
  have hext : Ext σ (σ.more n [L]) := Sg.more_ext1 _ _ _ hf
  have hlo : ∀ {b}, σ.dom b → (σ.more n [L]).loc b = σ.loc b := fun hb => (hext _ hb).2
  have hln : (σ.more n [L]).loc n = L := Sg.more_one _ _ _
  have hother : ∀ {k x}, σ.dom k → g[k]? = some x → x.live = true → k ≠ b → 0 < (σ.loc k).cap → w'.heap[σ.at_ k]? = w.heap[σ.at_ k]? := fun hk hx hlx hne hc =>
    hh2 _ (hr.img_lt ⟨_, _, hk, hx, hlx, hc, rfl⟩) (fun he hcb => hne (hr.inj _ _ _ _ hk hd hx ho hlx hl hc hcb (.inr hwr) he))
  have cross : ∀ {k x}, σ.dom k → g[k]? = some x → x.live = true → k ≠ b → 0 < (σ.loc k).cap → 0 < L.cap → σ.at_ k ≠ L.at_ := fun hk hx hlx hne hc hcL h => by
    rcases hrn hcL with ⟨h', hcb⟩ | h'
    · exact hne (hr.inj _ _ _ _ hk hd hx ho hlx hl hc hcb (.inr hwr) (h.trans h'))
    · have := hr.img_lt ⟨_, _, hk, hx, hlx, hc, rfl⟩; omega
  refine post_mk hr ⟨[L], rfl, rfl, hval, ⟨?_, ?_, ?_, ?_⟩, ⟨hos, htp, hout, hsize, fun k h1 h2 => hh2 k h1 (fun he hcb => h2 ⟨b, o, hd, ho, hl, hcb, hwr, he.symm⟩)⟩, ?_, ?_⟩
  · intro k hk
    rcases (Sg.more_dom_one _ _ _ _).1 hk with h | rfl
    · simpa [applyUpd] using hr.lt k h
    · simpa [applyUpd] using (List.getElem?_eq_some_iff.1 hn).1
  · intro k x hk hx hlx
    rcases set_get _ _ _ hx with ⟨rfl, rfl, -⟩ | ⟨hne, h1⟩
    · simp [AObj.live] at hlx
    · rcases (Sg.more_dom_one _ _ _ _).1 hk with h | rfl
      · rw [hlo h]
        exact ((hr.blk k x h h1 hlx).heap_eq (fun hc => hother h h1 hlx hne hc)).ext hext (hr.wfo k x h h1)
      · rw [hn] at h1; obtain rfl := Option.some.inj h1
        rw [hln]
        exact hb.ext hext hw
  · intro k k' x x' hk hk' hx hx' hlx hlx' c1 c2 hwx he
    rcases set_get _ _ _ hx with ⟨rfl, rfl, -⟩ | ⟨hne, h1⟩
    · simp [AObj.live] at hlx
    rcases set_get _ _ _ hx' with ⟨rfl, rfl, -⟩ | ⟨hne', h2⟩
    · simp [AObj.live] at hlx'
    rcases (Sg.more_dom_one _ _ _ _).1 hk with a1 | e1 <;> rcases (Sg.more_dom_one _ _ _ _).1 hk' with a2 | e2
    · simp only [Sg.at_, hlo a1, hlo a2] at he c1 c2
      exact hr.inj _ _ x x' a1 a2 h1 h2 hlx hlx' c1 c2 hwx he
    · subst e2
      simp only [Sg.at_, hlo a1, hln] at he c1 c2
      exact absurd he (cross a1 h1 hlx hne c1 c2)
    · subst e1
      simp only [Sg.at_, hlo a2, hln] at he c1 c2
      exact absurd he.symm (cross a2 h2 hlx' hne' c2 c1)
    · rw [e1, e2]
  · intro k x hk hx
    rcases set_get _ _ _ hx with ⟨rfl, rfl, -⟩ | ⟨hne, h1⟩
    · trivial
    · rcases (Sg.more_dom_one _ _ _ _).1 hk with h | rfl
      · exact wfO_ext hext _ (hr.wfo k x h h1)
      · rw [hn] at h1; obtain rfl := Option.some.inj h1; exact wfO_ext hext _ hw
  · rintro q ⟨k, x, hk, hx, hlx, hc, rfl⟩
    rcases set_get _ _ _ hx with ⟨rfl, rfl, -⟩ | ⟨hne, h1⟩
    · simp [AObj.live] at hlx
    · rcases (Sg.more_dom_one _ _ _ _).1 hk with h | rfl
      · simp only [Sg.at_, hlo h] at hc ⊢
        exact .inl ⟨k, x, h, h1, hlx, hc, rfl⟩
      · simp only [Sg.at_, hln] at hc ⊢
        rcases hrn hc with ⟨h', hcb⟩ | h'
        · exact .inl ⟨b, o, hd, ho, hl, hcb, h'.symm⟩
        · exact .inr h'
  · rintro q ⟨k, x, hk, hx, hlx, hc, hwx, rfl⟩
    rcases set_get _ _ _ hx with ⟨rfl, rfl, -⟩ | ⟨hne, h1⟩
    · simp [AObj.live] at hlx
    · rcases (Sg.more_dom_one _ _ _ _).1 hk with h | rfl
      · simp only [Sg.at_, hlo h] at hc ⊢
        exact .inl ⟨k, x, h, h1, hlx, hc, hwx, rfl⟩
      · simp only [Sg.at_, hln] at hc ⊢
        rcases hrn hc with ⟨h', hcb⟩ | h'
        · exact .inl ⟨b, o, hd, ho, hl, hcb, hwr, h'.symm⟩
        · exact .inr h'
end
end Go.Abs
