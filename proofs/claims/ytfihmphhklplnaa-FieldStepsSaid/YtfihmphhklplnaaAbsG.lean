import Derived.Test.YtfihmphhklplnaaAbsF
set_option linter.unusedVariables false
set_option linter.unusedSimpArgs false
namespace Go.Abs
section
variable {P : Program} {σ : Sg} {g h : List AObj} {w : World} {ρA : Operand → Option AV} {ρ : Operand → Value}

theorem load_sound (hr : RelH P σ g w) (hg : ∀ (b : Nat) (o : AObj), h[b]? = some o → g[b]? = some o) (hρ : ∀ x v, ρA x = some v → ρ x = den σ v ∧ wf σ v)
    {o : Oper} {t : TypeId} {a : Operand} (ho : o.op = .load t a) {r : Res} (hop : opA P ρA h (.load t a) = some r) (hcs : All r.cs) : Ran P σ h.length g w ρ o r := by
  simp only [opA] at hop
  split at hop
  · rename_i b off n ha hag hsz
    split at hop <;> try simp at hop
    rename_i ob hb
    split at hop <;> try simp at hop
    rename_i l cs hl
    obtain ⟨hlive, rfl⟩ := hop
    obtain ⟨ea, da⟩ := hρ _ _ ha
    obtain ⟨k1, k2, k3⟩ := getN_den (σ := σ) hl hcs
    refine ran_pure hr (k3 (hr.wfo b ob da (hg _ _ hb))) ?_
    have hrun := run_loadAt_agg (P := P) (w := w) (a := ⟨σ.at_ b, off, none⟩) (vs := denL σ l) hag hsz (by simpa using k1) (fun j v hv => by
      rw [addr_add]
      have hj : j < n := by have := (List.getElem?_eq_some_iff.1 hv).1; simp at this; omega
      exact blk_cell hr da (hg _ _ hb) hlive (by rw [k2 j hj]; exact hv))
    simp [execOp, ho, ea, den, hrun]
  · rename_i b off n ha hag hsz
    split at hop <;> try simp at hop
    rename_i ob hb
    split at hop <;> simp at hop
    rename_i x cs hx
    subst hop
    obtain ⟨ea, da⟩ := hρ _ _ ha
    obtain ⟨k1, k2, k3⟩ := get_den (σ := σ) hx hcs
    refine ran_pure hr (k3 (hr.wfo b ob da (hg _ _ hb))) ?_
    have hrun := run_loadAt_one (P := P) (w := w) (a := ⟨σ.at_ b, off, none⟩) (v := den σ x) hag (blk_cell hr da (hg _ _ hb) k1 k2)
    simp [execOp, ho, ea, den, hrun]
  · simp at hop

theorem store_sound (hr : RelH P σ g w) (hg : ∀ (b : Nat) (o : AObj), h[b]? = some o → g[b]? = some o) (hρ : ∀ x v, ρA x = some v → ρ x = den σ v ∧ wf σ v)
    {o : Oper} {t : TypeId} {a x : Operand} (ho : o.op = .store t a x) {r : Res} (hop : opA P ρA h (.store t a x) = some r) (hcs : All r.cs) : Ran P σ h.length g w ρ o r := by
  simp only [opA] at hop
  split at hop <;> try simp at hop
  rename_i b off v n ha hx hsz
  split at hop <;> try simp at hop
  rename_i ob l hb hl
  obtain ⟨⟨hn, hne, hwr⟩, hop⟩ := hop
  split at hop <;> simp at hop
  rename_i o' cs hset
  subst hop
  obtain ⟨ea, da⟩ := hρ _ _ ha
  obtain ⟨ex, dx⟩ := hρ _ _ hx
  obtain ⟨c1, c2, c3, c4⟩ := setN_den (σ := σ) hset hcs
  obtain ⟨hlive, hlen⟩ := c2 hne
  have hgb := hg _ _ hb
  obtain ⟨c, fr, b1, b2, b3, b4⟩ := hr.blk b ob da hgb hlive
  obtain rfl := b2 hwr
  have hle : off + 0 + (denL σ l).length ≤ c.size := by simp; omega
  have hst := run_storeCells_at P (σ.at_ b) off ob.ty (denL σ l) 0 c w b1 hle (fun u hu => by
    rw [denL_map] at hu
    obtain ⟨y, hy, rfl⟩ := List.mem_map.1 hu
    exact one_den (cs_one hl y hy))
  have hcells := cs_den (σ := σ) hl
  have hrun : (Instr.storeAt t (.pointer (some ⟨σ.at_ b, off, none⟩)) (den σ v)).run P w = .ok () (w.setRow (σ.at_ b) (c.toList.take (off + 0) ++ denL σ l ++ c.toList.drop (off + 0 + (denL σ l).length)).toArray) := by
    simp only [Instr.storeAt, Instr.sureAddr, storeVar]
    simp [run_sizeOf hsz, hcells, hn]
    rw [← hn]; simpa using hst
  have hval : wf σ (.tup []) := trivial
  refine ⟨.skip, (w.setRow (σ.at_ b) (c.toList.take (off + 0) ++ denL σ l ++ c.toList.drop (off + 0 + (denL σ l).length)).toArray), undef, ?_, .inr ⟨rfl, rfl⟩, ?_⟩
  · rw [execOp, ho]
    simp only [ea, ex, den]
    simp only [Sem.run_bind, hrun, Result.andThen]
    rfl
  · show Post P σ h.length g w (.tup []) [] [(b, o')] (den σ (.tup [])) _
    refine post_write (c := (c.toList.take (off + 0) ++ denL σ l ++ c.toList.drop (off + 0 + (denL σ l).length)).toArray) (fr := (0, 0)) hr da hgb hlive hwr c1 (c4 (hr.wfo b ob da hgb) (cs_wf hl dx)) ⟨c, b1, ?_⟩ (fun _ => rfl) (setRow_heap w _ c _ _ _ b1) (fun r hne => setRow_other w _ _ _ hne) (by simp) rfl rfl rfl ?_ hval
    · simp; omega
    · intro i u hu
      rw [c3] at hu
      simp only [List.getElem?_toArray]
      simp only [List.append_assoc, List.getElem?_append, List.length_take, denL_length, denO_length, List.getElem?_take, List.getElem?_drop, Array.length_toList, Nat.add_zero] at hu ⊢
      have m1 : min off ob.len = off := by omega
      have m2 : min off c.size = off := by omega
      rw [m1] at hu
      rw [m2]
      by_cases h1 : i < off
      · rw [if_pos h1, if_pos h1] at hu
        rw [if_pos h1, if_pos h1]
        simpa using b4 i u hu
      · rw [if_neg h1] at hu
        rw [if_neg h1]
        by_cases h2 : i - off < l.length
        · rw [if_pos h2] at hu
          rw [if_pos h2]; exact hu
        · rw [if_neg h2] at hu
          rw [if_neg h2]
          simpa using b4 _ u hu

theorem alloc_row {n : Nat} (hr : RelH P σ g w) {o : AObj} (hn : g[n]? = some o) (hf : ¬ σ.dom n) (hw : wfO σ o) (hwr : o.wr = true) {ty : TypeId} (hty : o.ty = ty) {c : Array Value}
    (hc : c = (denO σ o).toArray) {val : AV} (hval : wf (σ.more n [(w.heap.size, 0)]) val) :
    Post P σ n g w val [o] [] (den (σ.more n [(w.heap.size, 0)]) val) (w.alloc (.cells c ty)) := by
  subst hty; subst hc
  exact post_alloc (w' := w.alloc (.cells (denO σ o).toArray o.ty)) (c := (denO σ o).toArray) (e := 0) hr hn hf hw rfl rfl rfl rfl (by simp) (by simp) hval

theorem box_sound (hr : RelH P σ g w) (hρ : ∀ x v, ρA x = some v → ρ x = den σ v ∧ wf σ v)
    {o : Oper} {t : TypeId} {x : Operand} (ho : o.op = .box t x) {r : Res} (hop : opA P ρA h (.box t x) = some r)
    (hnews : ∀ (j : Nat) (x : AObj), r.news[j]? = some x → g[h.length + j]? = some x) (hfr : ∀ j, j < r.news.length → ¬ σ.dom (h.length + j)) : Ran P σ h.length g w ρ o r := by
  simp only [opA] at hop
  split at hop <;> try simp at hop
  rename_i v hv
  split at hop <;> simp at hop
  rename_i l hl
  subst hop
  obtain ⟨ev, dv⟩ := hρ _ _ hv
  have hn := hnews 0 _ rfl
  have hf := hfr 0 (by simp)
  simp only [Nat.add_zero] at hn hf
  have hc := cs_den (σ := σ) hl
  refine ⟨_, _, _, ?_, .inl rfl, alloc_row (ty := t) hr hn hf (cs_wf hl dv) rfl rfl rfl ((Sg.more_dom_one _ _ _ _).2 (.inr rfl))⟩
  simp [execOp, ho, Instr.box, newVar, newRow, ev, hc, den, Sg.more_at_one, denO]

theorem allocop_sound (hr : RelH P σ g w)
    {o : Oper} {t : TypeId} (ho : o.op = .alloc t) {r : Res} (hop : opA P ρA h (.alloc t) = some r)
    (hnews : ∀ (j : Nat) (x : AObj), r.news[j]? = some x → g[h.length + j]? = some x) (hfr : ∀ j, j < r.news.length → ¬ σ.dom (h.length + j)) : Ran P σ h.length g w ρ o r := by
  simp only [opA] at hop
  split at hop <;> simp at hop
  rename_i l hl
  subst hop
  obtain ⟨i, z, h1, h2, h3, h4⟩ := zeroT_den (σ := σ) hl
  have hn := hnews 0 _ rfl
  have hf := hfr 0 (by simp)
  simp only [Nat.add_zero] at hn hf
  refine ⟨_, _, _, ?_, .inl rfl, alloc_row (ty := t) hr hn hf h4 rfl rfl rfl ((Sg.more_dom_one _ _ _ _).2 (.inr rfl))⟩
  simp [execOp, ho, Instr.alloc, zeroValue, typeInfo, h1, h2, newVar, newRow, h3, den, Sg.more_at_one, denO]

theorem indexAt_run {t e : TypeId} {len s : Nat} {a : Addr} {k : IntKind} {n : Int} (hu : P.underlying t = some (.array len e)) (hs : sizeT P e = some s) (hb : 0 ≤ n ∧ n < (len : Int)) :
    (Instr.indexAt t (.pointer (some a)) (.int k n)).run P w = .ok (.pointer (some (a.add (n.toNat * s)))) w := by
  simp [Instr.indexAt, run_underlying hu, Instr.sureAddr, asIntOf, hb, run_sizeOf hs]
theorem indexAt_run2 {t e : TypeId} {len cap s : Nat} {a : Addr} {k : IntKind} {n : Int} (hu : P.underlying t = some (.slice e)) (hs : sizeT P e = some s) (hb : 0 ≤ n ∧ n < (len : Int)) :
    (Instr.indexAt t (.slice (some a) len cap) (.int k n)).run P w = .ok (.pointer (some (a.add (n.toNat * s)))) w := by
  simp [Instr.indexAt, run_underlying hu, Instr.sureAddr, asIntOf, hb, run_sizeOf hs]
end
end Go.Abs
