import Derived.Test.YtffoldigaififaaAbsKg
set_option linter.unusedVariables false
set_option linter.unusedSimpArgs false
namespace Go.Abs
variable {dl : List Deferred}
theorem stepG_sound {P : Program} {σ : Sg} {tm tm' : Tm} {h h' G : List AObj} {w : World} {a : Act} {o : Oper} {orc orc' : List Orc} {v : AV} {cs : List Prop}
    (hs : stepA P tm h o orc = some (v, tm', h', orc', cs)) (hcs : All cs) (hpre : ∀ b, b < h.length → G[b]? = h[b]?)
    (hfree : ∀ b, h.length ≤ b → b < h'.length → ¬ σ.dom b) (hbirth : ∀ b, h.length ≤ b → b < h'.length → G[b]? = h'[b]?) (hι : ∀ b ∈ cιA o orc, σ.dom b) (hr : RelH P σ G w) (ht : TR dl σ tm a) {K : Act → World → Prop} {Q : Exit → Act → World → Prop}
    (hK : ∀ σ' w' G', TR dl σ tm' a → PW P σ G w σ' G' w' → (∀ b, b < h'.length → G'[b]? = h'[b]?) → (∀ b, h'.length ≤ b → G'[b]? = G[b]?) → (∀ b, σ'.dom b ↔ σ.dom b ∨ (h.length ≤ b ∧ b < h'.length)) → (∀ b, b < h.length → σ'.loc b = σ.loc b) → Ext σ σ' → wf σ' v → K (a.put o.dst (den σ' v)) w') : o.wp P a w K Q := by
  have plain2 : ∀ {tm2 : Tm} {r : Res}, TR dl σ tm2 a → opA P (evalA tm2) h o.op = some r → All r.cs → (∀ b, h.length ≤ b → b < (applyUpd r.upd (h ++ r.news)).length → ¬ σ.dom b) → (∀ b, h.length ≤ b → b < (applyUpd r.upd (h ++ r.news)).length → G[b]? = (applyUpd r.upd (h ++ r.news))[b]?) → (∀ σ' w' G', TR dl σ tm2 a → PW P σ G w σ' G' w' → (∀ b, b < (applyUpd r.upd (h ++ r.news)).length → G'[b]? = (applyUpd r.upd (h ++ r.news))[b]?) → (∀ b, (applyUpd r.upd (h ++ r.news)).length ≤ b → G'[b]? = G[b]?) → (∀ b, σ'.dom b ↔ σ.dom b ∨ (h.length ≤ b ∧ b < (applyUpd r.upd (h ++ r.news)).length)) → (∀ b, b < h.length → σ'.loc b = σ.loc b) → Ext σ σ' → wf σ' r.val → K (a.put o.dst (den σ' r.val)) w') → o.wp P a w K Q := by
    intro tm2 r ht hop hc hfree hbirth hK
    obtain ⟨nx, w', v', σ', G', h1, h2, rfl, h4, h5, h6, h8, h7, h9, h10⟩ := opG_went hr (fun x v => ht.eval x v) hop hc hpre hfree hbirth
    unfold Oper.wp
    rw [h1]
    rcases h2 with rfl | ⟨rfl, hu⟩
    · exact hK σ' w' G' ht h7 h9 h10 h8 h6 h5 h4
    · rw [Oper.upon_skip, ← hu]; exact hK σ' w' G' ht h7 h9 h10 h8 h6 h5 h4
  have plain := fun {r : Res} => plain2 (r := r) ht
  have ixs : ∀ {i : Nat} {op : Op}, o.op = op → ixA P tm h op i orc = some (v, tm', h', orc', cs) → o.wp P a w K Q := by
    intro i op hop hx
    unfold ixA at hx
    split at hx
    · rename_i j r k n hti
      split at hx <;> simp at hx
      rename_i q hq
      obtain ⟨rfl, rfl, rfl, rfl, rfl⟩ := hx
      obtain ⟨hn, hc⟩ := hcs
      have hn : n = j := hn
      subst hn
      have ht2 := ht.set_same (y := .v (.int k n)) hti rfl trivial
      exact plain2 ht2 (by rw [hop]; exact hq) hc hfree hbirth hK
    · split at hx <;> simp at hx
      rename_i q hq
      obtain ⟨rfl, rfl, rfl, rfl, rfl⟩ := hx
      exact plain (by rw [hop]; exact hq) hcs hfree hbirth hK
  have movs : ∀ {x : Nat}, o.op = .move (.tmp x) ∨ o.op = .assign (.tmp x) → movA tm h x orc = some (v, tm', h', orc', cs) → o.wp P a w K Q := by
    intro x hop hx
    unfold movA at hx
    have run : ∀ y, tm[x]? = some (some y) → (execOp a.eval o).run P w = .ok (.value (den σ y)) w ∧ wf σ y := fun y hy => by
      obtain ⟨g1, g2⟩ := ht.get _ _ hy
      have e : a.eval (.tmp x) = den σ y := by simp [Act.eval, g1]
      exact ⟨by rcases hop with hop | hop <;> simp [execOp, hop, e], g2⟩
    split at hx <;> simp at hx
    · rename_i j r k n hy
      obtain ⟨rfl, rfl, rfl, rfl, rfl⟩ := hx
      obtain ⟨hrun, g2⟩ := run _ hy
      have hn : n = j := hcs.1
      subst hn
      unfold Oper.wp
      rw [hrun]
      exact hK σ w G ht (PW.refl hr) hpre (fun _ _ => rfl) (fun b => ⟨.inl, fun h => h.elim id (fun h => by omega)⟩) (fun _ _ => rfl) (Ext.refl σ) g2
    · obtain ⟨rfl, rfl, rfl, rfl, rfl⟩ := hx
      obtain ⟨hrun, g2⟩ := run _ (by assumption)
      unfold Oper.wp
      rw [hrun]
      exact hK σ w G ht (PW.refl hr) hpre (fun _ _ => rfl) (fun b => ⟨.inl, fun h => h.elim id (fun h => by omega)⟩) (fun _ _ => rfl) (Ext.refl σ) g2
  have nils : ∀ {op : BinOp} {t yt : TypeId} {x : Nat} {b : Bool}, o.op = .binOp op t (.tmp x) (.const (.slice none 0 0)) yt → (op = .eql ∧ b = false) ∨ (op = .neq ∧ b = true) → nilA P tm h o t x b orc = some (v, tm', h', orc', cs) → o.wp P a w K Q := by
    intro op t yt x b hop hb hx
    unfold nilA at hx
    split at hx
    · rename_i bb s e hx1 hu
      simp at hx
      obtain ⟨rfl, rfl, rfl, rfl, rfl⟩ := hx
      obtain ⟨g1, g2⟩ := ht.get _ _ hx1
      have hev : a.eval (.tmp x) = .slice (some ⟨σ.at_ bb, (σ.loc bb).off + 0, none⟩) ((σ.loc bb).len / s) ((σ.loc bb).cap / s) := by
        simp [Act.eval, g1, den, Loc.base, g2.2.2]
      have hq : (Op.equal t (a.eval (.tmp x)) (.slice none 0 0)).run P w = .ok false w := by
        rw [hev]; exact nil_in hu 9999
      have hgd : ∀ op, eqGuard op t (.tmp x) (.const (.slice none 0 0)) (a.eval (.tmp x)) (.slice none 0 0) = pure () := fun op => by rw [hev]; exact eqGuard_at_slice ..
      have hrun : (execOp a.eval o).run P w = .ok (.value (.bool b)) w := by
        rcases hb with ⟨rfl, rfl⟩ | ⟨rfl, rfl⟩
        · have hbo : binOp .eql t (a.eval (.tmp x)) (.slice none 0 0) = (do pure (.bool (← Op.equal t (a.eval (.tmp x)) (.slice none 0 0)))) := by rw [hev]; rfl
          simp only [execOp, hop]
          show (Sem.run P (do let y ← (do eqGuard .eql t (.tmp x) (.const (.slice none 0 0)) (a.eval (.tmp x)) (.slice none 0 0); binOp .eql t (a.eval (.tmp x)) (.slice none 0 0)); pure (Next.value y)) w) = _
          rw [hgd, hbo]; simp [hq]
        · have hbo : binOp .neq t (a.eval (.tmp x)) (.slice none 0 0) = (do pure (.bool (!(← Op.equal t (a.eval (.tmp x)) (.slice none 0 0))))) := by rw [hev]; rfl
          simp only [execOp, hop]
          show (Sem.run P (do let y ← (do eqGuard .neq t (.tmp x) (.const (.slice none 0 0)) (a.eval (.tmp x)) (.slice none 0 0); binOp .neq t (a.eval (.tmp x)) (.slice none 0 0)); pure (Next.value y)) w) = _
          rw [hgd, hbo]; simp [hq]
      unfold Oper.wp
      rw [hrun]
      exact hK σ w G ht (PW.refl hr) hpre (fun _ _ => rfl) (fun b => ⟨.inl, fun h => h.elim id (fun h => by omega)⟩) (fun _ _ => rfl) (Ext.refl σ) trivial
    · split at hx <;> simp at hx
      rename_i r hr'
      obtain ⟨rfl, rfl, rfl, rfl, rfl⟩ := hx
      exact plain hr' hcs hfree hbirth hK
  unfold stepA at hs
  split at hs
  · rename_i c x y hop
    split at hs <;> try simp at hs
    rename_i b tm1 orc1 cs1 hdec
    split at hs <;> simp at hs
    rename_i v1 hv
    obtain ⟨rfl, rfl, rfl, rfl, rfl⟩ := hs
    obtain ⟨k1, k2⟩ := decideT_sound hdec hcs ht
    have hc : a.eval (.tmp c) = .bool b := by simp [Act.eval, k2]
    unfold Oper.wp
    cases b with
    | true =>
      obtain ⟨e1, d1⟩ := k1.eval x v1 hv
      have : (execOp a.eval o).run P w = .ok (.value (den σ v1)) w := by simp [execOp, hop, hc, asBool, e1]
      rw [this]
      exact hK σ w G k1 (PW.refl hr) hpre (fun _ _ => rfl) (fun b => ⟨.inl, fun h => h.elim id (fun h => by omega)⟩) (fun _ _ => rfl) (Ext.refl σ) d1
    | false =>
      obtain ⟨e1, d1⟩ := k1.eval y v1 hv
      have : (execOp a.eval o).run P w = .ok (.value (den σ v1)) w := by simp [execOp, hop, hc, asBool, e1]
      rw [this]
      exact hK σ w G k1 (PW.refl hr) hpre (fun _ _ => rfl) (fun b => ⟨.inl, fun h => h.elim id (fun h => by omega)⟩) (fun _ _ => rfl) (Ext.refl σ) d1
  · rename_i c hop
    split at hs
    · rename_i f hcal
      split at hs <;> try simp at hs
      rename_i fid caps args ι res upd news r hef hea
      split at hs <;> simp at hs
      rename_i v1 h1 cs1 hca
      obtain ⟨rfl, rfl, rfl, rfl, rfl⟩ := hs
      obtain ⟨e1, d1⟩ := ht.eval f _ hef
      obtain ⟨e2, d2⟩ := evalsA_den (fun x v => ht.eval x v) hea
      obtain ⟨⟨fn, c1, c2, c3⟩, hcalls⟩ := callG_sound (G := G) hca hcs (by simpa [cιA, hop, hcal] using hι) hpre hfree hbirth hr (wfL_append.2 ⟨d2, d1⟩)
      have hargs : c.args.map a.eval = (denL σ args).toArray := by cases hh : c.args; simp_all
      have hrun : (execOp a.eval o).run P w = .ok (.enter fid (denL σ (args ++ caps)).toArray) w := by
        simp only [execOp, hop, resolve, hcal]
        rw [hargs, e1]
        have n1 : ¬ fn.name = "runtime.NumGoroutine" := by simpa using c3
        have n2 : ¬ fn.body = none := by intro hb; rw [hb] at c2; simp at c2
        simp [den, Deferred.ofValue, invoke, callFunc, program, Sem.run, c1, n1, n2, denL_append]
      unfold Oper.wp
      rw [hrun, Oper.upon_enter]
      refine hcalls.mono ?_
      rintro e w' ⟨rs, q1, rfl, q3, G', q4, q5, q6⟩
      exact hK _ w' G' ht q6 q4 q5 (fun b => by rw [← q1]; exact Iff.rfl) (fun b hb => Sg.more_lt _ _ hb) (Sg.more_ext _ _ _ (fun b h1 h2 => hfree b h1 (by omega))) q3
    · split at hs <;> simp at hs
      rename_i r hop'
      obtain ⟨rfl, rfl, rfl, rfl, rfl⟩ := hs
      exact plain hop' hcs hfree hbirth hK
  · rename_i t x i hop
    exact ixs hop hs
  · rename_i t x i hop
    exact ixs hop hs
  · rename_i x hop
    exact movs (.inl hop) hs
  · rename_i x hop
    exact movs (.inr hop) hs
  · rename_i t x yt hop
    exact nils hop (.inl ⟨rfl, rfl⟩) hs
  · rename_i t x yt hop
    exact nils hop (.inr ⟨rfl, rfl⟩) hs
  · rename_i it hop
    have next : ∀ {b : Nat} {s : ByteArray} {p : Nat}, evalA tm (.tmp it) = some (.ptr b 0) → h[b]? = some (.siter s p) → a.eval (.tmp it) = .pointer (some ⟨σ.at_ b, (σ.loc b).off + 0, none⟩) ∧ σ.dom b ∧ Blk σ (.siter s p) w (σ.loc b) := by
      intro b s p he hb
      obtain ⟨e1, d1⟩ := ht.eval _ _ he
      exact ⟨e1, d1, hr.blk b _ d1 (by rw [hpre b (List.getElem?_eq_some_iff.1 hb).1]; exact hb) rfl⟩
    split at hs <;> try simp at hs
    · rename_i b r he
      split at hs <;> simp at hs
      rename_i s p hb
      obtain ⟨rfl, rfl, rfl, rfl, rfl⟩ := hs
      obtain ⟨e1, d1, hblk⟩ := next he hb
      have hs0 := hblk.it rfl
      obtain ⟨ob, r1, r2⟩ := hblk.rep hs0.1
      have r2 : ob = .stringIter s p := r2
      subst r2
      have hp : p < s.size := by have : hasN s p = true := hcs.1; simpa [hasN] using this
      have hrun : (execOp a.eval o).run P w = .ok (.value (.tuple #[.bool true, .int .i64 p, .int .i32 (runeAt s p)])) { w with heap := w.heap.setIfInBounds (σ.at_ b) (.stringIter s (p + runeW s p)) } := by
        have hr1 : w.heap[(σ.loc b).at_]? = some (.stringIter s p) := r1
        simp [execOp, hop, e1, hs0.2, Instr.next, getObj, setObj, Sem.run, hr1, hp, goInt, runeAt, runeW, Sg.at_]
      unfold Oper.wp
      rw [hrun]
      have hlt : σ.at_ b < w.heap.size := (Array.getElem?_eq_some_iff.1 r1).1
      obtain ⟨rs, q1, q2, q3, q4, q5, q6, q7⟩ := post_write (P := P) (n := h.length) (w' := { w with heap := w.heap.setIfInBounds (σ.at_ b) (.stringIter s (p + runeW s p)) }) (val := .tup [.b true, .v (.int .i64 (nlen p)), .v (.int .i32 (runeAt s p))]) hr d1 (show G[b]? = some (.siter s p) by rw [hpre b (List.getElem?_eq_some_iff.1 hb).1]; exact hb) rfl rfl
        (o' := .siter s (addN p (runeW s p))) ⟨rfl, rfl, rfl, rfl, rfl⟩ trivial hs0.1 ⟨_, by simp [hlt]; rfl, rfl⟩ (fun r hne => by simp [Array.getElem?_setIfInBounds, Ne.symm hne]) (by simp) rfl rfl rfl ⟨trivial, trivial, trivial, trivial⟩
      obtain rfl : rs = [] := List.length_eq_zero_iff.1 q1
      rw [Sg.more_nil] at q4 q6 q7
      exact hK σ _ _ ht ⟨q4, q5, q6, q7⟩ (fun c hc => applyUpd_agree (u := [(b, .siter s (addN p (runeW s p)))]) (by simpa using hc) hpre) (fun c hc => applyUpd_out (u := [(b, .siter s (addN p (runeW s p)))]) (fun p hp e => by simp at hp; subst hp; have := (List.getElem?_eq_some_iff.1 hb).1; simp at hc e; omega)) (fun c => ⟨.inl, fun h => h.elim id (fun h => by simp at h; omega)⟩) (fun _ _ => rfl) (Ext.refl σ) ⟨trivial, trivial, trivial, trivial⟩
    · rename_i b r he
      split at hs <;> simp at hs
      rename_i s p hb
      obtain ⟨rfl, rfl, rfl, rfl, rfl⟩ := hs
      obtain ⟨e1, d1, hblk⟩ := next he hb
      have hs0 := hblk.it rfl
      obtain ⟨ob, r1, r2⟩ := hblk.rep hs0.1
      have r2 : ob = .stringIter s p := r2
      subst r2
      have hp : ¬ p < s.size := by have : hasN s p = false := hcs.1; simpa [hasN] using this
      have hrun : (execOp a.eval o).run P w = .ok (.value (.tuple #[.bool false])) w := by
        have hr1 : w.heap[(σ.loc b).at_]? = some (.stringIter s p) := r1
        simp [execOp, hop, e1, hs0.2, Instr.next, getObj, Sem.run, hr1, hp, Sg.at_]
      unfold Oper.wp
      rw [hrun]
      exact hK σ w G ht (PW.refl hr) hpre (fun _ _ => rfl) (fun b => ⟨.inl, fun h => h.elim id (fun h => by omega)⟩) (fun _ _ => rfl) (Ext.refl σ) ⟨trivial, trivial⟩
  · split at hs <;> simp at hs
    rename_i r hop'
    obtain ⟨rfl, rfl, rfl, rfl, rfl⟩ := hs
    exact plain hop' hcs hfree hbirth hK
end Go.Abs
