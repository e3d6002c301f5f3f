import Derived.Test.YtfihmphhklplnaaAbsB
set_option linter.unusedVariables false
/- What a step of the abstract machine makes of the relation to the real one. -/
namespace Go.Abs

def applyUpd : List (Nat × AObj) → List AObj → List AObj
  | [], h => h
  | (b, o) :: u, h => applyUpd u (h.set b o)

@[simp] theorem applyUpd_length : ∀ (u : List (Nat × AObj)) (h : List AObj), (applyUpd u h).length = h.length
  | [], h => rfl
  | (b, o) :: u, h => by simp [applyUpd, applyUpd_length u]

theorem Sg.more_nil (σ : Sg) (n : Nat) : σ.more n [] = σ := by
  obtain ⟨a, e, d⟩ := σ
  unfold Sg.more
  congr 1
  · funext b; simp
  · funext b; simp
  · funext b; simp; omega
theorem Sg.more_at_lt (σ : Sg) {n b : Nat} (rs : List (Nat × Nat)) (h : b < n) : (σ.more n rs).at_ b = σ.at_ b := by simp [Sg.more, h]
theorem Sg.more_ext_lt (σ : Sg) {n b : Nat} (rs : List (Nat × Nat)) (h : b < n) : (σ.more n rs).ext b = σ.ext b := by simp [Sg.more, h]
theorem Sg.more_at_one (σ : Sg) (n : Nat) (r : Nat × Nat) : (σ.more n [r]).at_ n = r.1 := by simp [Sg.more]
theorem Sg.more_ext_one (σ : Sg) (n : Nat) (r : Nat × Nat) : (σ.more n [r]).ext n = r.2 := by simp [Sg.more]
theorem Sg.more_dom_one (σ : Sg) (n b : Nat) (r : Nat × Nat) : (σ.more n [r]).dom b ↔ σ.dom b ∨ b = n := by
  have : (n ≤ b ∧ b < n + 1) ↔ b = n := by omega
  simp [Sg.more, this]
theorem Sg.more_ext1 (σ : Sg) (n : Nat) (r : Nat × Nat) (hf : ¬ σ.dom n) : Ext σ (σ.more n [r]) :=
  Sg.more_ext _ _ _ fun b h1 h2 => by
    have h3 : b < n + 1 := h2
    have : b = n := by omega
    exact this ▸ hf

/-- Behind one operation: the new blocks' names, the value, the relation, what stays. -/
def Post (P : Program) (σ : Sg) (n : Nat) (g : List AObj) (w : World) (val : AV) (news : List AObj) (upd : List (Nat × AObj)) (v' : Value) (w' : World) : Prop :=
  ∃ rs : List (Nat × Nat), rs.length = news.length ∧ v' = den (σ.more n rs) val ∧ wf (σ.more n rs) val ∧ RelH P (σ.more n rs) (applyUpd upd g) w' ∧
    Frm (wimg σ g) w w' ∧ (∀ r, img (σ.more n rs) (applyUpd upd g) r → img σ g r ∨ w.heap.size ≤ r) ∧
    (∀ r, wimg (σ.more n rs) (applyUpd upd g) r → wimg σ g r ∨ w.heap.size ≤ r)

section
variable {P : Program} {σ : Sg} {n : Nat} {g : List AObj} {w : World}

theorem post_pure (hr : RelH P σ g w) {val : AV} (hv : wf σ val) : Post P σ n g w val [] [] (den σ val) w :=
  ⟨[], rfl, by rw [Sg.more_nil], by rw [Sg.more_nil]; exact hv, by rw [Sg.more_nil]; exact hr, Frm.refl _ _, by rw [Sg.more_nil]; exact fun r h => .inl h, by rw [Sg.more_nil]; exact fun r h => .inl h⟩

theorem push_old (o : Obj) {r : Nat} (h : r < w.heap.size) : (w.heap.push o)[r]? = w.heap[r]? := by
  rw [Array.getElem?_push, if_neg (by omega)]

theorem post_alloc (hr : RelH P σ g w) {o : AObj} (hn : g[n]? = some o) (hf : ¬ σ.dom n) (hw : wfO σ o) {c : Array Value} {e : Nat} {w' : World}
    (hh : w'.heap = w.heap.push (.cells c o.ty (0, 0))) (hos : w'.os = w.os) (htp : w'.tape = w.tape) (hout : w'.output = w.output)
    (hsz : o.len + e * P.cellsOf o.ty ≤ c.size) (hc : ∀ (i : Nat) (v : Value), (denO σ o)[i]? = some v → c[i]? = some v)
    {val : AV} (hval : wf (σ.more n [(w.heap.size, e)]) val) :
    Post P σ n g w val [o] [] (den (σ.more n [(w.heap.size, e)]) val) w' := by
  have hext : Ext σ (σ.more n [(w.heap.size, e)]) := Sg.more_ext1 _ _ _ hf
  have hne : ∀ {b}, σ.dom b → b ≠ n := fun hb he => hf (he ▸ hb)
  have hold : ∀ {r}, r < w.heap.size → w'.heap[r]? = w.heap[r]? := fun h => by rw [hh]; exact push_old _ h
  refine ⟨[(w.heap.size, e)], rfl, rfl, hval, ⟨?_, ?_, ?_, ?_⟩, ⟨hos, htp, hout, by rw [hh]; simp, fun r h1 _ => hold h1⟩, ?_, ?_⟩
  · intro b hb
    rcases (Sg.more_dom_one _ _ _ _).1 hb with h | rfl
    · exact hr.lt b h
    · exact (List.getElem?_eq_some_iff.1 hn).1
  · intro b o' hb ho' hl
    rcases (Sg.more_dom_one _ _ _ _).1 hb with h | rfl
    · obtain ⟨c1, fr, h1, h2, h3, h4⟩ := hr.blk b o' h ho' hl
      obtain ⟨-, e1, e2⟩ := hext b h
      rw [e1, e2]
      refine ⟨c1, fr, ?_, h2, h3, ?_⟩
      · rw [hold (Array.getElem?_eq_some_iff.1 h1).1]; exact h1
      · rw [denO_ext hext _ (hr.wfo b o' h ho')]; exact h4
    · replace ho' : g[b]? = some o' := ho'
      rw [hn] at ho'
      obtain rfl := Option.some.inj ho'
      rw [Sg.more_at_one, Sg.more_ext_one]
      refine ⟨c, (0, 0), ?_, fun _ => rfl, hsz, ?_⟩
      · rw [hh]; simp
      · rw [denO_ext hext _ hw]; exact hc
  · intro b b' o1 o2 h1 h2 h3 h4 h5 h6 h7
    rcases (Sg.more_dom_one _ _ _ _).1 h1 with k1 | rfl <;> rcases (Sg.more_dom_one _ _ _ _).1 h2 with k2 | rfl
    · rw [(hext b k1).2.1, (hext b' k2).2.1] at h7
      exact hr.inj b b' o1 o2 k1 k2 h3 h4 h5 h6 h7
    · rw [(hext b k1).2.1, Sg.more_at_one] at h7
      have := hr.img_lt ⟨b, o1, k1, h3, h5, rfl⟩
      dsimp only at h7; omega
    · rw [(hext b' k2).2.1, Sg.more_at_one] at h7
      have := hr.img_lt ⟨b', o2, k2, h4, h6, rfl⟩
      dsimp only at h7; omega
    · rfl
  · intro b o' hb ho'
    rcases (Sg.more_dom_one _ _ _ _).1 hb with h | rfl
    · exact wfO_ext hext _ (hr.wfo b o' h ho')
    · replace ho' : g[b]? = some o' := ho'
      rw [hn] at ho'; obtain rfl := Option.some.inj ho'; exact wfO_ext hext _ hw
  · rintro r ⟨b, o', hb, ho', hl, rfl⟩
    rcases (Sg.more_dom_one _ _ _ _).1 hb with h | rfl
    · exact .inl ⟨b, o', h, ho', hl, ((hext b h).2.1).symm⟩
    · rw [Sg.more_at_one]; exact .inr (Nat.le_refl _)
  · rintro r ⟨b, o', hb, ho', hl, hwr, rfl⟩
    rcases (Sg.more_dom_one _ _ _ _).1 hb with h | rfl
    · exact .inl ⟨b, o', h, ho', hl, hwr, ((hext b h).2.1).symm⟩
    · rw [Sg.more_at_one]; exact .inr (Nat.le_refl _)

theorem set_get (h : List AObj) (b : Nat) (o : AObj) {k : Nat} {x : AObj} (hx : (h.set b o)[k]? = some x) : (k = b ∧ x = o ∧ b < h.length) ∨ (k ≠ b ∧ h[k]? = some x) := by
  rw [List.getElem?_set] at hx
  split at hx
  · rename_i e; subst e
    split at hx <;> simp at hx
    exact .inl ⟨rfl, hx.symm, by assumption⟩
  · exact .inr ⟨fun e => by simp_all, hx⟩

theorem post_write (hr : RelH P σ g w) {b : Nat} {o o' : AObj} (hd : σ.dom b) (ho : g[b]? = some o) (hl : o.live = true) (hwr : o.wr = true) (hk : Like o o') (hw : wfO σ o')
    {c : Array Value} {fr : Nat × Nat} {w' : World} (hc0 : ∃ c0 : Array Value, w.heap[σ.at_ b]? = some (.cells c0 o.ty fr) ∧ c.size = c0.size)
    (hfr : o.wr = true → fr = (0, 0))
    (hh1 : w'.heap[σ.at_ b]? = some (.cells c o.ty fr)) (hh2 : ∀ r, r ≠ σ.at_ b → w'.heap[r]? = w.heap[r]?) (hsize : w'.heap.size = w.heap.size)
    (hos : w'.os = w.os) (htp : w'.tape = w.tape) (hout : w'.output = w.output)
    (hc : ∀ (i : Nat) (v : Value), (denO σ o')[i]? = some v → c[i]? = some v) {val : AV} (hval : wf σ val) :
    Post P σ n g w val [] [(b, o')] (den σ val) w' := by
  have hlt : b < g.length := (List.getElem?_eq_some_iff.1 ho).1
  refine ⟨[], rfl, by rw [Sg.more_nil], by rw [Sg.more_nil]; exact hval, ?_, ⟨hos, htp, hout, by omega, ?_⟩, ?_, ?_⟩
  · rw [Sg.more_nil]
    refine ⟨fun k hk' => by simpa [applyUpd] using hr.lt k hk', ?_, ?_, ?_⟩
    · intro k x hkd hkx hxl
      rcases set_get _ _ _ hkx with ⟨rfl, rfl, -⟩ | ⟨hne, hx⟩
      · obtain ⟨c0, hc0, hcs⟩ := hc0
        obtain ⟨c1, fr1, h1, h2, h3, h4⟩ := hr.blk k o hd ho hl
        rw [hc0] at h1
        simp only [Option.some.injEq, Obj.cells.injEq] at h1
        obtain ⟨rfl, -, rfl⟩ := h1
        refine ⟨c, fr, by rw [hk.ty]; exact hh1, fun hw' => hfr (by rw [← hk.wr]; exact hw'), by rw [hk.len, hk.ty, hcs]; exact h3, hc⟩
      · obtain ⟨c1, fr1, h1, h2, h3, h4⟩ := hr.blk k x hkd hx hxl
        refine ⟨c1, fr1, ?_, h2, h3, h4⟩
        rw [hh2 _ (fun e => hne (hr.inj k b x o hkd hd hx ho hxl hl e))]; exact h1
    · intro k k' x x' hkd hkd' hx hx' hlx hlx' he
      rcases set_get _ _ _ hx with ⟨rfl, rfl, -⟩ | ⟨hne, h1⟩ <;> rcases set_get _ _ _ hx' with ⟨rfl, rfl, -⟩ | ⟨hne', h2⟩
      · rfl
      · exact hr.inj _ _ o x' hkd hkd' ho h2 hl hlx' he
      · exact hr.inj _ _ x o hkd hkd' h1 ho hlx hl he
      · exact hr.inj _ _ x x' hkd hkd' h1 h2 hlx hlx' he
    · intro k x hkd hx
      rcases set_get _ _ _ hx with ⟨rfl, rfl, -⟩ | ⟨hne, h1⟩
      · exact hw
      · exact hr.wfo k x hkd h1
  · intro r h1 h2
    exact hh2 r (fun e => h2 ⟨b, o, hd, ho, hl, hwr, e.symm⟩)
  · rw [Sg.more_nil]
    rintro r ⟨k, x, hkd, hx, hlx, rfl⟩
    rcases set_get _ _ _ hx with ⟨rfl, rfl, -⟩ | ⟨hne, h1⟩
    · exact .inl ⟨k, o, hkd, ho, hl, rfl⟩
    · exact .inl ⟨k, x, hkd, h1, hlx, rfl⟩
  · rw [Sg.more_nil]
    rintro r ⟨k, x, hkd, hx, hlx, hwx, rfl⟩
    rcases set_get _ _ _ hx with ⟨rfl, rfl, -⟩ | ⟨hne, h1⟩
    · exact .inl ⟨k, o, hkd, ho, hl, hwr, rfl⟩
    · exact .inl ⟨k, x, hkd, h1, hlx, hwx, rfl⟩

/-- an object goes, a new one takes its block over (append in place) or a new block (append that grows) -/
theorem post_move (hr : RelH P σ g w) {b : Nat} {o o' : AObj} (hd : σ.dom b) (ho : g[b]? = some o) (hl : o.live = true) (hwr : o.wr = true) (hbn : b ≠ n)
    (hn : g[n]? = some o') (hf : ¬ σ.dom n) (hw : wfO σ o') {c : Array Value} {r e : Nat} {w' : World} {fr : Nat × Nat}
    (hrn : r = σ.at_ b ∨ r = w.heap.size)
    (hh1 : w'.heap[r]? = some (.cells c o'.ty fr)) (hfr : o'.wr = true → fr = (0, 0)) (hh2 : ∀ k, k < w.heap.size → k ≠ σ.at_ b → w'.heap[k]? = w.heap[k]?)
    (hsize : w.heap.size ≤ w'.heap.size) (hos : w'.os = w.os) (htp : w'.tape = w.tape) (hout : w'.output = w.output)
    (hsz : o'.len + e * P.cellsOf o'.ty ≤ c.size) (hc : ∀ (i : Nat) (v : Value), (denO σ o')[i]? = some v → c[i]? = some v)
    {val : AV} (hval : wf (σ.more n [(r, e)]) val) :
    Post P σ n g w val [o'] [(b, .dead)] (den (σ.more n [(r, e)]) val) w' := by
  have hext : Ext σ (σ.more n [(r, e)]) := Sg.more_ext1 _ _ _ hf
  have hblt : σ.at_ b < w.heap.size := hr.img_lt ⟨b, o, hd, ho, hl, rfl⟩
  have hother : ∀ {k x}, σ.dom k → g[k]? = some x → x.live = true → k ≠ b → w'.heap[σ.at_ k]? = w.heap[σ.at_ k]? := fun hk hx hlx hne =>
    hh2 _ (hr.img_lt ⟨_, _, hk, hx, hlx, rfl⟩) (fun he => hne (hr.inj _ _ _ _ hk hd hx ho hlx hl he))
  refine ⟨[(r, e)], rfl, rfl, hval, ⟨?_, ?_, ?_, ?_⟩, ⟨hos, htp, hout, hsize, fun k h1 h2 => hh2 k h1 (fun he => h2 ⟨b, o, hd, ho, hl, hwr, he.symm⟩)⟩, ?_, ?_⟩
  · intro k hk
    rcases (Sg.more_dom_one _ _ _ _).1 hk with h | rfl
    · simpa [applyUpd] using hr.lt k h
    · simpa [applyUpd] using (List.getElem?_eq_some_iff.1 hn).1
  · intro k x hk hx hlx
    rcases set_get _ _ _ hx with ⟨rfl, rfl, -⟩ | ⟨hne, h1⟩
    · simp [AObj.live] at hlx
    · rcases (Sg.more_dom_one _ _ _ _).1 hk with h | rfl
      · obtain ⟨c1, fr1, a1, a2, a3, a4⟩ := hr.blk k x h h1 hlx
        obtain ⟨-, e1, e2⟩ := hext k h
        rw [e1, e2]
        exact ⟨c1, fr1, by rw [hother h h1 hlx hne]; exact a1, a2, a3, by rw [denO_ext hext _ (hr.wfo k x h h1)]; exact a4⟩
      · rw [hn] at h1; obtain rfl := Option.some.inj h1
        rw [Sg.more_at_one, Sg.more_ext_one]
        exact ⟨c, fr, hh1, hfr, hsz, by rw [denO_ext hext _ hw]; exact hc⟩
  · intro k k' x x' hk hk' hx hx' hlx hlx' he
    rcases set_get _ _ _ hx with ⟨rfl, rfl, -⟩ | ⟨hne, h1⟩
    · simp [AObj.live] at hlx
    rcases set_get _ _ _ hx' with ⟨rfl, rfl, -⟩ | ⟨hne', h2⟩
    · simp [AObj.live] at hlx'
    have cross : ∀ {k x}, σ.dom k → g[k]? = some x → x.live = true → k ≠ b → σ.at_ k ≠ r := fun hk hx hlx hne h => by
      rcases hrn with h' | h'
      · exact hne (hr.inj _ _ _ _ hk hd hx ho hlx hl (h.trans h'))
      · have := hr.img_lt ⟨_, _, hk, hx, hlx, rfl⟩; omega
    rcases (Sg.more_dom_one _ _ _ _).1 hk with a1 | rfl <;> rcases (Sg.more_dom_one _ _ _ _).1 hk' with a2 | rfl
    · rw [(hext k a1).2.1, (hext k' a2).2.1] at he
      exact hr.inj _ _ x x' a1 a2 h1 h2 hlx hlx' he
    · rw [(hext k a1).2.1, Sg.more_at_one] at he
      exact absurd he (cross a1 h1 hlx hne)
    · rw [(hext k' a2).2.1, Sg.more_at_one] at he
      exact absurd he.symm (cross a2 h2 hlx' hne')
    · rfl
  · intro k x hk hx
    rcases set_get _ _ _ hx with ⟨rfl, rfl, -⟩ | ⟨hne, h1⟩
    · trivial
    · rcases (Sg.more_dom_one _ _ _ _).1 hk with h | rfl
      · exact wfO_ext hext _ (hr.wfo k x h h1)
      · rw [hn] at h1; obtain rfl := Option.some.inj h1; exact wfO_ext hext _ hw
  · rintro q ⟨k, x, hk, hx, hlx, rfl⟩
    rcases set_get _ _ _ hx with ⟨rfl, rfl, -⟩ | ⟨hne, h1⟩
    · simp [AObj.live] at hlx
    · rcases (Sg.more_dom_one _ _ _ _).1 hk with h | rfl
      · exact .inl ⟨k, x, h, h1, hlx, ((hext k h).2.1).symm⟩
      · rw [Sg.more_at_one]
        rcases hrn with h' | h'
        · exact .inl ⟨b, o, hd, ho, hl, h'.symm⟩
        · exact .inr (by dsimp only; omega)
  · rintro q ⟨k, x, hk, hx, hlx, hwx, rfl⟩
    rcases set_get _ _ _ hx with ⟨rfl, rfl, -⟩ | ⟨hne, h1⟩
    · simp [AObj.live] at hlx
    · rcases (Sg.more_dom_one _ _ _ _).1 hk with h | rfl
      · exact .inl ⟨k, x, h, h1, hlx, hwx, ((hext k h).2.1).symm⟩
      · rw [Sg.more_at_one]
        rcases hrn with h' | h'
        · exact .inl ⟨b, o, hd, ho, hl, hwr, h'.symm⟩
        · exact .inr (by dsimp only; omega)
end
end Go.Abs
