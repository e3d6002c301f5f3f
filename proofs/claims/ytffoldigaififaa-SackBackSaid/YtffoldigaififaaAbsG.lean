import Derived.Test.YtffoldigaififaaAbsF
set_option linter.unusedVariables false
set_option linter.unusedSimpArgs false
namespace Go.Abs
section
variable {P : Program} {σ : Sg} {g h : List AObj} {w : World} {ρA : Operand → Option AV} {ρ : Operand → Value}

theorem run_storeCells_U (P : Program) (g o : Nat) (t : TypeId) (fz : Nat × Nat) : ∀ (vs : List Value) (i : Nat) (cur : Array Value) (w : World), w.heap[g]? = some (.cells cur t fz) → (∀ k, k < vs.length → ¬ (fz.1 ≤ o + i + k ∧ o + i + k < fz.2)) → o + i + vs.length ≤ cur.size → (∀ v ∈ vs, v.oneCell' = true) →
    (storeCells ⟨g, o, none⟩ vs i).run P w = .ok () (w.setRow g (cur.toList.take (o + i) ++ vs ++ cur.toList.drop (o + i + vs.length)).toArray)
  | [], i, cur, w, hg, _, _, _ => by
    simp only [storeCells, List.append_nil, List.length_nil, Nat.add_zero, List.take_append_drop, Array.toArray_toList]
    rw [setRow_self w g cur t fz hg]
    rfl
  | v :: rest, i, cur, w, hg, hfz, hl, h1 => by
    have hi : o + i < cur.size := by simp at hl; omega
    have hadd : (⟨g, o, none⟩ : Addr).add i = ⟨g, o + i, none⟩ := by unfold Addr.add; split <;> simp_all
    have hcell : w.cell? ⟨g, o + i, none⟩ = some cur[o + i] := by simp [World.cell?, hg, hi]
    have hfro : w.frozen? ⟨g, o + i, none⟩ = false := by
      obtain ⟨lo, hi'⟩ := fz
      simp only [World.frozen?, hg, Bool.and_eq_false_iff, decide_eq_false_iff_not]
      have := hfz 0 (by simp)
      simp only at this
      omega
    have hst : (store ((⟨g, o, none⟩ : Addr).add i) v).run P w = .ok () (w.setRow g (cur.setIfInBounds (o + i) v)) := by
      rw [hadd, run_store P w _ v _ (h1 v (by simp)), hcell]
      simp [hfro, setCell_eq_setRow w g (o + i) cur t fz v hg]
    have ih := run_storeCells_U P g o t fz rest (i + 1) (cur.setIfInBounds (o + i) v) (w.setRow g (cur.setIfInBounds (o + i) v)) (setRow_heap w g cur _ t _ hg) (fun k hk => by have := hfz (k + 1) (by simp; omega); rw [show o + (i + 1) + k = o + i + (k + 1) by omega]; exact this) (by simp at hl ⊢; omega) (fun x hx => h1 x (by simp [hx]))
    simp only [storeCells, Sem.run_bind, hst, Result.andThen_ok, ih, setRow_setRow]
    congr 3
    have e := list_seg_step cur.toList (o + i) v rest (by simp at hl ⊢; omega)
    simpa [Array.toList_setIfInBounds, Nat.add_assoc] using e

theorem load_sound (hr : RelH P σ g w) (hg : ∀ (b : Nat) (o : AObj), h[b]? = some o → g[b]? = some o) (hρ : ∀ x v, ρA x = some v → ρ x = den σ v ∧ wf σ v)
    {o : Oper} {t : TypeId} {a : Operand} (ho : o.op = .load t a) {r : Res} (hop : opA P ρA h (.load t a) = some r) (hcs : All r.cs) : Ran P σ h.length g w ρ o r := by
  simp only [opA] at hop
  split at hop
  · rename_i b off n ha hag hsz
    split at hop <;> try simp at hop
    rename_i ob hb
    split at hop <;> try simp at hop
    rename_i l cs hl
    obtain ⟨⟨hlive, hrow⟩, rfl⟩ := hop
    obtain ⟨ea, da⟩ := hρ _ _ ha
    obtain ⟨k1, k2, k3⟩ := getN_den (σ := σ) hl hcs
    refine ran_pure hr (k3 (hr.wfo b ob da (hg _ _ hb))) ?_
    have hrun := run_loadAt_agg (P := P) (w := w) (a := ⟨σ.at_ b, (σ.loc b).off + off, none⟩) (vs := denL σ l) hag hsz (by simpa using k1) (fun j v hv => by
      rw [addr_add, Nat.add_assoc]
      have hj : j < n := by have := (List.getElem?_eq_some_iff.1 hv).1; simp at this; omega
      exact blk_cell hr da (hg _ _ hb) hlive hrow (by rw [k2 j hj]; exact hv))
    simp [execOp, ho, ea, den, hrun]
  · rename_i b off n ha hag hsz
    split at hop <;> try simp at hop
    rename_i ob hb
    split at hop <;> simp at hop
    rename_i x cs hx
    subst hop
    obtain ⟨ea, da⟩ := hρ _ _ ha
    obtain ⟨k1, k0, k2, k3⟩ := get_den (σ := σ) hx hcs
    refine ran_pure hr (k3 (hr.wfo b ob da (hg _ _ hb))) ?_
    have hrun := run_loadAt_one (P := P) (w := w) (a := ⟨σ.at_ b, (σ.loc b).off + off, none⟩) (v := den σ x) hag (blk_cell hr da (hg _ _ hb) k1 k0 k2)
    simp [execOp, ho, ea, den, hrun]
  · rename_i b i s j n ha hag hsz
    split at hop <;> try simp at hop
    rename_i ob hb
    split at hop <;> simp at hop
    rename_i l cs hl
    subst hop
    obtain ⟨ea, da⟩ := hρ _ _ ha
    obtain ⟨hlive, hrow, k1, k2, k3⟩ := getE_den (σ := σ) hl hcs
    refine ran_pure hr (by exact k3) ?_
    have hrun := run_loadAt_agg (P := P) (w := w) (a := ⟨σ.at_ b, (σ.loc b).off + (i * s + j), none⟩) (vs := denL σ l) hag hsz (by simpa using k1) (fun q v hv => by
      rw [addr_add, Nat.add_assoc]
      have hq : q < n := by have := (List.getElem?_eq_some_iff.1 hv).1; simp at this; omega
      exact blk_cell hr da (hg _ _ hb) hlive hrow (by rw [k2 q hq]; exact hv))
    simp [execOp, ho, ea, den, hrun]
  · rename_i b i s j n ha hag hsz
    split at hop <;> try simp at hop
    rename_i ob hb
    split at hop <;> simp at hop
    rename_i x cs hl
    subst hop
    obtain ⟨ea, da⟩ := hρ _ _ ha
    obtain ⟨hlive, hrow, k1, k2, k3⟩ := getE_den (σ := σ) hl hcs
    refine ran_pure hr (by exact k3.1) ?_
    have hrun := run_loadAt_one (P := P) (w := w) (a := ⟨σ.at_ b, (σ.loc b).off + (i * s + j), none⟩) (v := den σ x) hag (blk_cell hr da (hg _ _ hb) hlive hrow (by
      have := k2 0 (by omega); simpa [denL] using this))
    simp [execOp, ho, ea, den, hrun]
  · simp at hop

/-- cells of a live, writable row written -/
theorem write_row (hr : RelH P σ g w) {n : Nat} {b : Nat} {ob o' : AObj} (hd : σ.dom b) (hgb : g[b]? = some ob) (hlive : ob.live = true) (hrow : ob.row = true) (hwr : ob.wr = true)
    {off : Nat} {vs : List Value} (hlen : off + vs.length ≤ ob.len) (hne : vs ≠ []) (h1 : ∀ v ∈ vs, v.oneCell' = true) (hk : Like ob o') (hw : wfO σ o')
    (hden : denO σ o' = (denO σ ob).take off ++ vs ++ (denO σ ob).drop (off + vs.length)) {val : AV} (hval : wf σ val) :
    ∃ w', (storeCells ⟨σ.at_ b, (σ.loc b).off + off, none⟩ vs 0).run P w = .ok () w' ∧ Post P σ n g w val [] [(b, o')] (den σ val) w' := by
  have hb := hr.blk b ob hd hgb hlive
  have l1 := hb.len
  have l2 := hb.le
  have hpos : 0 < vs.length := List.length_pos_iff.2 hne
  obtain ⟨obj, r1, r2⟩ := hb.rep (by omega)
  obtain ⟨c, t, fr, rfl, r3, r4, r5⟩ := (Rep.row hrow).1 r2
  have hunf := r3 hwr
  have hst := run_storeCells_U P (σ.at_ b) ((σ.loc b).off + off) t fr vs 0 c w r1 (fun k hk => by
    have := hunf (off + k) (by omega)
    rw [show (σ.loc b).off + off + 0 + k = (σ.loc b).off + (off + k) by omega]; exact this) (by omega) h1
  refine ⟨_, hst, post_write hr hd hgb hlive hwr hk hw (by omega) ⟨_, setRow_heap w _ c _ _ _ r1, ?_⟩ (fun r hne => setRow_other w _ _ _ hne) (by simp) rfl rfl rfl hval⟩
  refine (Rep.row (by rw [hk.row]; exact hrow)).2 ⟨_, t, fr, rfl, fun _ => hunf, ⟨by simp; omega, by rw [hk.tag]; have := r4.2; simp; rw [show min ((σ.loc b).off + off) c.size + (vs.length + (c.size - ((σ.loc b).off + off + vs.length))) = c.size by omega]; exact this⟩, fun i u hu => ?_⟩
  rw [hden] at hu
  simp only [List.getElem?_toArray, Nat.add_zero]
  simp only [List.append_assoc, List.getElem?_append, List.length_take, denO_length, List.getElem?_take, List.getElem?_drop, Array.length_toList] at hu ⊢
  have m1 : min off ob.len = off := by omega
  have m2 : min ((σ.loc b).off + off) c.size = (σ.loc b).off + off := by omega
  rw [m1] at hu
  rw [m2]
  by_cases h1 : i < off
  · rw [if_pos h1, if_pos h1] at hu
    rw [if_pos (by omega), if_pos (by omega)]
    simpa using r5 i u hu
  · rw [if_neg h1] at hu
    rw [if_neg (by omega)]
    by_cases h2 : i - off < vs.length
    · rw [if_pos h2] at hu
      rw [if_pos (by omega), show (σ.loc b).off + i - ((σ.loc b).off + off) = i - off by omega]; exact hu
    · rw [if_neg h2] at hu
      rw [if_neg (by omega)]
      have := r5 _ u hu
      rw [show (σ.loc b).off + off + vs.length + ((σ.loc b).off + i - ((σ.loc b).off + off) - vs.length) = (σ.loc b).off + (off + vs.length + (i - off - vs.length)) by omega]
      simpa using this

theorem store_sound (hr : RelH P σ g w) (hg : ∀ (b : Nat) (o : AObj), h[b]? = some o → g[b]? = some o) (hρ : ∀ x v, ρA x = some v → ρ x = den σ v ∧ wf σ v)
    {o : Oper} {t : TypeId} {a x : Operand} (ho : o.op = .store t a x) {r : Res} (hop : opA P ρA h (.store t a x) = some r) (hcs : All r.cs) : Ran P σ h.length g w ρ o r := by
  have main : ∀ {b : Nat} {v : AV} {n : Nat} {ob o' : AObj} {l : List AV} {off : Nat}, ρ a = .pointer (some ⟨σ.at_ b, (σ.loc b).off + off, none⟩) → σ.dom b → ρ x = den σ v → wf σ v → sizeT P t = some n → h[b]? = some ob → v.cs = some l → l.length = n → l ≠ [] → ob.wr = true →
      ob.live = true → ob.row = true → off + l.length ≤ ob.len → Like ob o' → wfO σ o' → denO σ o' = (denO σ ob).take off ++ denL σ l ++ (denO σ ob).drop (off + l.length) → Ran P σ h.length g w ρ o { val := .tup [], upd := [(b, o')], cs := r.cs } := by
    intro b v n ob o' l off ea da ex dx hsz hb hl hn hne hwr hlive hrow hlen hk hw hden
    obtain ⟨w', h1, h2⟩ := write_row (P := P) (n := h.length) (vs := denL σ l) (val := .tup []) hr da (hg _ _ hb) hlive hrow hwr (by simpa using hlen) (by
      intro he; have := congrArg List.length he; simp at this; exact hne this) (fun u hu => by
        rw [denL_map] at hu
        obtain ⟨y, hy, rfl⟩ := List.mem_map.1 hu
        exact one_den (cs_one hl y hy)) hk hw (by simpa using hden) trivial
    have hcells := cs_den (σ := σ) hl
    have hrun : (Instr.storeAt t (.pointer (some ⟨σ.at_ b, (σ.loc b).off + off, none⟩)) (den σ v)).run P w = .ok () w' := by
      simp only [Instr.storeAt, Instr.sureAddr, storeVar]
      simp [run_sizeOf hsz, hcells, hn]
      simpa using h1
    refine ⟨.skip, w', undef, ?_, .inr ⟨rfl, rfl⟩, h2⟩
    rw [execOp, ho]
    simp only [ea, ex, den]
    simp only [Sem.run_bind, hrun, Result.andThen]
    rfl
  simp only [opA] at hop
  split at hop <;> try simp at hop
  · rename_i b off v n ha hx hsz
    split at hop <;> try simp at hop
    rename_i ob l hb hl
    obtain ⟨⟨hn, hne, hwr, hrow⟩, hop⟩ := hop
    split at hop <;> simp at hop
    rename_i o' cs hset
    subst hop
    obtain ⟨ea, da⟩ := hρ _ _ ha
    obtain ⟨ex, dx⟩ := hρ _ _ hx
    obtain ⟨c1, c2, c3, c4⟩ := setN_den (σ := σ) hset hcs
    obtain ⟨hlive, hlen⟩ := c2 hne
    exact main (by rw [ea]; rfl) da ex dx hsz hb hl hn hne hwr hlive hrow hlen c1 (c4 (hr.wfo b ob da (hg _ _ hb)) (cs_wf hl dx)) c3
  · rename_i b i s j v n ha hx hsz
    split at hop <;> try simp at hop
    rename_i ob l hb hl
    obtain ⟨⟨hn, hne, hwr⟩, hop⟩ := hop
    split at hop <;> simp at hop
    rename_i o' cs hset
    subst hop
    obtain ⟨ea, da⟩ := hρ _ _ ha
    obtain ⟨ex, dx⟩ := hρ _ _ hx
    obtain ⟨c1, c2, c3, c4, c5, c6⟩ := setE_den (σ := σ) hset hcs
    exact main (off := i * s + j) (by rw [ea]; rfl) da ex dx hsz hb hl hn hne hwr c2 c3 c4 c1 c6 c5

/-- a row in a new block -/
theorem alloc_row {n : Nat} (hr : RelH P σ g w) {o : AObj} (hn : g[n]? = some o) (hf : ¬ σ.dom n) (hw : wfO σ o) (hrow : o.row = true) {ty : TypeId} {c : Array Value} {fr : Nat × Nat} {w' : World} {cap : Nat}
    (hh : w'.heap[w.heap.size]? = some (.cells c ty fr)) (hold : ∀ r, r < w.heap.size → w'.heap[r]? = w.heap[r]?) (hsz : w.heap.size ≤ w'.heap.size) (hos : w'.os = w.os) (htp : w'.tape = w.tape) (hout : w'.output = w.output)
    (htag : Tag o.tag ty c.size ⟨w.heap.size, 0, o.len, cap, false⟩) (hfr : Unf fr 0 cap) (hcap : cap ≤ c.size) (hlen : o.len ≤ cap) (hc : ∀ (i : Nat) (v : Value), (denO σ o)[i]? = some v → c[i]? = some v)
    {val : AV} (hval : wf (σ.more n [⟨w.heap.size, 0, o.len, cap, false⟩]) val) :
    Post P σ n g w val [o] [] (den (σ.more n [⟨w.heap.size, 0, o.len, cap, false⟩]) val) w' := by
  refine post_new hr hn hf hw hold hsz hos htp hout ⟨rfl, hlen, fun h => by simp at h, fun _ => ⟨_, hh, (Rep.row hrow).2 ⟨c, ty, fr, rfl, fun _ => hfr, ⟨by simpa using hcap, htag⟩, fun i v hv => by simpa using hc i v hv⟩⟩, rowNo hrow⟩ (fun _ => .inl (Nat.le_refl _)) hval
theorem unf0 (off cap : Nat) : Unf (0, 0) off cap := fun i _ h => by simp at h
theorem alloc_row0 {n : Nat} (hr : RelH P σ g w) {o : AObj} (hn : g[n]? = some o) (hf : ¬ σ.dom n) (hw : wfO σ o) (hrow : o.row = true) {ty : TypeId} {c : Array Value}
    (hc : c = (denO σ o).toArray) (htag : o.tag.1 = 0 ∨ o.tag.1 = ty) {val : AV} (hval : wf (σ.more n [⟨w.heap.size, 0, o.len, o.len, false⟩]) val) :
    Post P σ n g w val [o] [] (den (σ.more n [⟨w.heap.size, 0, o.len, o.len, false⟩]) val) (w.alloc (.cells c ty)) := by
  subst hc
  exact alloc_row (w' := w.alloc (.cells (denO σ o).toArray ty)) (fr := (0, 0)) (c := (denO σ o).toArray) (ty := ty) hr hn hf hw hrow (show (w.heap.push _)[w.heap.size]? = _ by simp) (fun r h => push_old _ h) (by simp) rfl rfl rfl (htag.imp id (fun h => ⟨h.symm, fun _ => ⟨rfl, by simp⟩⟩)) (unf0 _ _) (by simp) (Nat.le_refl _) (fun i v hv => by simpa using hv) hval

theorem box_sound (hr : RelH P σ g w) (hρ : ∀ x v, ρA x = some v → ρ x = den σ v ∧ wf σ v)
    {o : Oper} {t : TypeId} {x : Operand} (ho : o.op = .box t x) {r : Res} (hop : opA P ρA h (.box t x) = some r)
    (hnews : ∀ (j : Nat) (x : AObj), r.news[j]? = some x → g[h.length + j]? = some x) (hfr : ∀ j, j < r.news.length → ¬ σ.dom (h.length + j)) : Ran P σ h.length g w ρ o r := by
  simp only [opA] at hop
  split at hop <;> try simp at hop
  rename_i v hv
  split at hop <;> simp at hop
  rename_i l hl
  subst hop
  obtain ⟨ev, dv⟩ := hρ _ _ hv
  have hn := hnews 0 _ rfl
  have hf := hfr 0 (by simp)
  simp only [Nat.add_zero] at hn hf
  have hc := cs_den (σ := σ) hl
  refine ⟨_, _, _, ?_, .inl rfl, alloc_row0 (ty := t) hr hn hf (cs_wf hl dv) rfl rfl (tagS_or P t) ((Sg.more_dom_one _ _ _ _).2 (.inr rfl))⟩
  simp [execOp, ho, Instr.box, newVar, newRow, ev, hc, den, Sg.at_, Sg.more_one, denO]

theorem allocop_sound (hr : RelH P σ g w)
    {o : Oper} {t : TypeId} (ho : o.op = .alloc t) {r : Res} (hop : opA P ρA h (.alloc t) = some r)
    (hnews : ∀ (j : Nat) (x : AObj), r.news[j]? = some x → g[h.length + j]? = some x) (hfr : ∀ j, j < r.news.length → ¬ σ.dom (h.length + j)) : Ran P σ h.length g w ρ o r := by
  simp only [opA] at hop
  split at hop <;> simp at hop
  rename_i l hl
  subst hop
  obtain ⟨i, z, h1, h2, h3, h4⟩ := zeroT_den (σ := σ) hl
  have hn := hnews 0 _ rfl
  have hf := hfr 0 (by simp)
  simp only [Nat.add_zero] at hn hf
  refine ⟨_, _, _, ?_, .inl rfl, alloc_row0 (ty := t) hr hn hf h4 rfl rfl (tagS_or P t) ((Sg.more_dom_one _ _ _ _).2 (.inr rfl))⟩
  simp [execOp, ho, Instr.alloc, zeroValue, typeInfo, h1, h2, newVar, newRow, h3, den, Sg.at_, Sg.more_one, denO]

theorem indexAt_run {t e : TypeId} {len s : Nat} {a : Addr} {k : IntKind} {n : Int} (hu : P.underlying t = some (.array len e)) (hs : sizeT P e = some s) (hb : 0 ≤ n ∧ n < (len : Int)) :
    (Instr.indexAt t (.pointer (some a)) (.int k n)).run P w = .ok (.pointer (some (a.add (n.toNat * s)))) w := by
  simp [Instr.indexAt, run_underlying hu, Instr.sureAddr, asIntOf, hb, run_sizeOf hs]
theorem indexAt_run2 {t e : TypeId} {len cap s : Nat} {a : Addr} {k : IntKind} {n : Int} (hu : P.underlying t = some (.slice e)) (hs : sizeT P e = some s) (hb : 0 ≤ n ∧ n < (len : Int)) :
    (Instr.indexAt t (.slice (some a) len cap) (.int k n)).run P w = .ok (.pointer (some (a.add (n.toNat * s)))) w := by
  simp [Instr.indexAt, run_underlying hu, Instr.sureAddr, asIntOf, hb, run_sizeOf hs]
end
end Go.Abs
