import Derived.Test.YtffoldigaififaaAbsZc
import Derived.Test.YtffoldigaififaaAbsMp
set_option linter.unusedVariables false
set_option linter.unusedSimpArgs false
namespace Go.Abs
attribute [local simp] iadd isub imul iquo irem iand ior ixor iandn ishl ishr icv imax imin ieq ine ilt ile beqB notB seqS sadd slen sget nlen offN addN
section
variable {P : Program} {σ : Sg} {g h : List AObj} {w : World} {ρA : Operand → Option AV} {ρ : Operand → Value}

theorem fieldT_spec {s : TypeId} {f off n : Nat} {ft : TypeId} (h : fieldT P s f = some (off, n, ft)) :
    ∃ fields fd, P.underlying s = some (.struct fields) ∧ fields[f]? = some fd ∧ fd.offset = off ∧ fd.type = ft ∧ sizeT P ft = some n := by
  unfold fieldT at h
  split at h <;> try simp at h
  rename_i fields hu
  split at h <;> try simp at h
  rename_i fd hf
  split at h <;> simp at h
  rename_i n' hn
  obtain ⟨rfl, rfl, rfl⟩ := h
  exact ⟨fields, fd, hu, hf, rfl, rfl, hn⟩

theorem wfL_sub {l : List AV} (hw : wfL σ l) {m : List AV} (hm : ∀ x ∈ m, x ∈ l) : wfL σ m := by
  rw [wfL_iff] at *; exact fun x hx => hw x (hm x hx)

theorem built_sound (hr : RelH P σ g w) (hg : ∀ (b : Nat) (o : AObj), h[b]? = some o → g[b]? = some o) {b : Builtin} {ts : Array TypeId} {ty : TypeId} {args : List AV} {r : Res} (h1 : builtA P h b ts.toList args = some r) (hcs : All r.cs) (hw : wfL σ args)
    (hnews : ∀ (j : Nat) (x : AObj), r.news[j]? = some x → g[h.length + j]? = some x) (hfr : ∀ j, j < r.news.length → ¬ σ.dom (h.length + j)) :
    ∃ v' w', (∀ ks, (builtin b ts ty ks (denL σ args).toArray).run P w = .ok (.value v') w') ∧ Post P σ h.length g w r.val r.news r.upd v' w' := by
  have pure1 : ∀ {v : AV}, wf σ v → (∀ ks, (builtin b ts ty ks (denL σ args).toArray).run P w = .ok (.value (den σ v)) w) → ∃ v' w', (∀ ks, (builtin b ts ty ks (denL σ args).toArray).run P w = .ok (.value v') w') ∧ Post P σ h.length g w v [] [] v' w' :=
    fun hv he => ⟨_, w, he, post_pure hr hv⟩
  unfold builtA at h1
  split at h1
  · rename_i x
    split at h1 <;> try simp at h1
    rename_i t ht
    obtain rfl : ts = #[t] := by cases ts; simp_all
    split at h1
    · simp at h1; subst h1; rename_i hu
      exact pure1 (v := .v (.int .i64 (slen _))) trivial (fun ks => by simp [builtin, Builtin.len_, run_underlying hu, denL, den, goInt])
    · rename_i e b0 s0 hu
      split at h1 <;> try simp at h1
      rename_i o ho
      split at h1 <;> simp at h1
      subst h1
      rename_i m hm
      obtain ⟨hl, -⟩ := sw_at hr hw.1 (hg _ _ ho) hm
      exact pure1 (v := .v (.int .i64 (nlen m))) trivial (fun ks => by simp [builtin, Builtin.len_, run_underlying hu, denL, den, goInt, hl])
    · simp at h1; subst h1; rename_i hu
      exact pure1 (v := .v (.int .i64 (nlen _))) trivial (fun ks => by simp [builtin, Builtin.len_, run_underlying hu, denL, den, goInt, slV])
    · simp at h1; subst h1; rename_i hu
      exact pure1 (v := .v (.int .i64 (nlen _))) trivial (fun ks => by simp [builtin, Builtin.len_, run_underlying hu, denL, den, goInt])
    · simp at h1; subst h1; rename_i hu
      exact pure1 (v := .v (.int .i64 (nlen _))) trivial (fun ks => by simp [builtin, Builtin.len_, run_underlying hu, denL, den, goInt])
    · simp at h1
  · rename_i b0 s0 z0 off0 n0 k0
    split at h1 <;> try simp at h1
    rename_i t ht
    obtain rfl : ts = #[t] := by cases ts; simp_all
    split at h1 <;> simp at h1
    subst h1
    rename_i e hu
    exact pure1 (v := .v (.int .i64 (nlen k0))) trivial (fun ks => by simp [builtin, Builtin.cap_, run_underlying hu, denL, den, goInt, slV, Loc.room])
  · simp at h1; subst h1
    rename_i k x k' y
    have : (if x < y then y else x) = max x y := by omega
    exact pure1 (v := .v (.int k (imax x y))) trivial (fun ks => by simp [builtin, Builtin.max_, Builtin.max2, denL, den, this])
  · simp at h1; subst h1
    rename_i k x k' y
    have : (if y < x then y else x) = min x y := by omega
    exact pure1 (v := .v (.int k (imin x y))) trivial (fun ks => by simp [builtin, Builtin.min_, Builtin.min2, denL, den, this])
  · rename_i x y
    split at h1 <;> try simp at h1
    rename_i t u ht
    obtain rfl : ts = #[t, u] := by cases ts; simp_all
    split at h1 <;> try simp at h1
    · rename_i e' hu
      obtain ⟨v', w', k1, k2⟩ := appA_sound (ty := ty) hr hg h1 hcs hw.1 hw.2.1 (.inl ⟨e', hu⟩) hnews hfr
      exact ⟨v', w', k1, k2⟩
    · rename_i hu
      obtain ⟨v', w', k1, k2⟩ := appA_sound (ty := ty) hr hg h1 hcs hw.1 hw.2.1 (.inr hu) hnews hfr
      exact ⟨v', w', k1, k2⟩
  · rename_i x y
    split at h1 <;> try simp at h1
    rename_i t u ht
    obtain rfl : ts = #[t, u] := by cases ts; simp_all
    obtain ⟨v', w', k1, k2⟩ := copyA_sound (u := u) (ty := ty) hr hg h1 hcs hw.1 hw.2.1
    exact ⟨v', w', k1, k2⟩
  · simp at h1

theorem parts_map (ps : Array (Nat × Operand)) (ρ : Operand → Value) : (ps.map fun (i, x) => (i, ρ x)).toList = ps.toList.map (fun p => (p.1, ρ p.2)) := by simp

theorem placesA : ∀ (fs : List Field), (∀ f ∈ fs, (sizeT P f.type).isSome = true) →
    fs.mapM (fun f => (P.info? f.type).map fun i => (f.offset, i.size)) = some (fs.map fun f => (f.offset, P.cellsOf f.type))
  | [], _ => rfl
  | f :: fs, h => by
    obtain ⟨n, hn⟩ := Option.isSome_iff_exists.1 (h f (by simp))
    have ih := placesA fs (fun f hf => h f (by simp [hf]))
    have hc := size_cellsOf hn
    simp only [sizeT, Option.map_eq_some_iff] at hn
    obtain ⟨i, hi, rfl⟩ := hn
    simp [List.mapM_cons, hi, ih, hc]
theorem run_buildSliceA {t e : TypeId} {len s : Nat} {parts : Array (Nat × Value)} {i : TypeInfo} {z : Value} {cells : Array Value} (hu : P.underlying t = some (.slice e)) (hi : P.info? e = some i) (hz : i.zero = some z)
    (hs : sizeT P e = some s) (hle : len * s ≤ 2 ^ 24)
    (hf : Instr.fill (fun i => some (i * s, s)) ((Array.range (len * s)).map (fun i => z.cells[i % z.cells.size]!)) parts.toList = some cells) :
    (Instr.buildSlice t len parts).run P w = .ok (.slice (some ⟨w.heap.size, 0, none⟩) len len) (w.alloc (.cells cells e)) := by
  have hne : ¬ (len * s > 2 ^ 24) := by omega
  unfold Instr.buildSlice
  simp only [Sem.run_bind, run_underlying hu, Result.andThen, run_sizeOf hs, if_neg hne, Sem.run_pure]
  by_cases h0 : len * s = 0
  · rw [h0] at hf
    have : (Array.range 0).map (fun i => z.cells[i % z.cells.size]!) = #[] := by simp
    rw [this] at hf
    have e1 : (Array.range 0).map (fun i => (#[] : Array Value)[i % (#[] : Array Value).size]!) = #[] := by simp
    simp only [h0, if_true]
    rw [Sem.run_bind, Sem.run_pure]
    simp only [Result.andThen]
    rw [e1, hf]
    rfl
  · rw [if_neg h0]
    simp only [Sem.run_bind, zeroValue, typeInfo, program, Sem.run, Result.andThen, hi, hz, Sem.run_pure, pure, Sem.bind, Bind.bind]
    rw [hf]
    rfl

theorem zeB_run {e : TypeId} (h : zeB P e = true) : (zeroValue e).run P w = .ok (.bool false) w := by
  unfold zeB at h
  split at h
  · rename_i i hi
    split at h
    · rename_i hz
      simp [zeroValue, typeInfo, hi, hz]
    · simp at h
  · simp at h
theorem makeMap_sound (hr : RelH P σ g w) {o : Oper} {t : TypeId} {q : Option Operand} (ho : o.op = .makeMap t q) {r : Res} (hop : opA P ρA h (.makeMap t q) = some r)
    (hnews : ∀ (j : Nat) (x : AObj), r.news[j]? = some x → g[h.length + j]? = some x) (hfr : ∀ j, j < r.news.length → ¬ σ.dom (h.length + j)) : Ran P σ h.length g w ρ o r := by
  cases q with
  | some x => simp [opA] at hop
  | none =>
    simp only [opA] at hop
    split at hop <;> simp at hop
    subst hop
    have hn := hnews 0 _ rfl
    have hf := hfr 0 (by simp)
    simp only [Nat.add_zero] at hn hf
    refine ⟨_, w.alloc (.map #[] 0), _, ?_, .inl rfl, post_new (L := ⟨w.heap.size, 0, 0, 1, false⟩) (w' := w.alloc (.map #[] 0)) (val := .mp h.length) hr hn hf trivial (fun r h => push_old _ h) (by simp) rfl rfl rfl ⟨rfl, by simp, by simp, fun _ => ⟨.map #[] 0, show (w.heap.push _)[w.heap.size]? = _ by simp, ?_⟩, fun _ => ⟨by simp, rfl⟩⟩ (fun _ => .inl (Nat.le_refl _)) ((Sg.more_dom_one _ _ _ _).2 (.inr rfl))⟩
    · simp [execOp, ho, Instr.makeMap, newObj, den, Sg.at_, Sg.more_one, Sem.run, Result.andThen]
    · exact ⟨#[], 0, rfl, by simp, by simp, Go.MapKept.stamped_empty 0, by simp, by simp⟩
theorem lookup_sound (hr : RelH P σ g w) (hg : ∀ (b : Nat) (o : AObj), h[b]? = some o → g[b]? = some o) (hρ : ∀ x v, ρA x = some v → ρ x = den σ v ∧ wf σ v)
    {o : Oper} {t : TypeId} {m k : Operand} {c : Bool} (ho : o.op = .lookup t m k c) {r : Res} (hop : opA P ρA h (.lookup t m k c) = some r) (hcs : All r.cs) : Ran P σ h.length g w ρ o r := by
  cases c with
  | true => simp [opA] at hop
  | false =>
    simp only [opA] at hop
    split at hop <;> try simp at hop
    rename_i kt et b a ht hm hk
    split at hop <;> try simp at hop
    rename_i wr l h1 h2 h3 hb
    subst hop
    obtain ⟨em, dm⟩ := hρ _ _ hm
    obtain ⟨ek, -⟩ := hρ _ _ hk
    have hblk := hr.blk b _ dm (hg _ _ hb) rfl
    obtain ⟨ob, q1, q2⟩ := hblk.rep (hblk.it rfl).1
    have hlook := map_look ht h1 h2 (a := a) q1 q2 hcs.1 (zeB_run h3)
    refine ran_pure hr (v := .v (.bool (memI a l))) trivial ?_
    have em : ρ m = .map (some (σ.at_ b)) := em
    have ek : ρ k = .int .i64 a := ek
    simp only [execOp, ho, em, ek]
    show (Sem.run P (do let y ← Instr.lookup t (.map (some (σ.loc b).at_)) (.int .i64 a) false; pure (Next.value y)) w) = _
    rw [Sem.run_bind, hlook]; rfl
theorem mapUpdate_sound (hr : RelH P σ g w) (hg : ∀ (b : Nat) (o : AObj), h[b]? = some o → g[b]? = some o) (hρ : ∀ x v, ρA x = some v → ρ x = den σ v ∧ wf σ v)
    {o : Oper} {t : TypeId} {m k x : Operand} (ho : o.op = .mapUpdate t m k x) {r : Res} (hop : opA P ρA h (.mapUpdate t m k x) = some r) (hcs : All r.cs) : Ran P σ h.length g w ρ o r := by
  simp only [opA] at hop
  split at hop <;> try simp at hop
  rename_i kt et b a ht hm hk hx
  split at hop <;> try simp at hop
  rename_i l h1 h2 hb
  subst hop
  obtain ⟨em, dm⟩ := hρ _ _ hm
  obtain ⟨ek, -⟩ := hρ _ _ hk
  obtain ⟨ex, -⟩ := hρ _ _ hx
  have hblk := hr.blk b _ dm (hg _ _ hb) rfl
  have hit := hblk.it rfl
  obtain ⟨ob, q1, q2⟩ := hblk.rep hit.1
  obtain ⟨ob', k1, k2⟩ := map_store ht h1 h2 (a := a) q1 q2 hcs.1 hcs.2.1
  have hlt : σ.at_ b < w.heap.size := (Array.getElem?_eq_some_iff.1 q1).1
  refine ⟨.skip, _, undef, ?_, .inr ⟨rfl, rfl⟩, post_write (w' := { w with heap := w.heap.setIfInBounds (σ.loc b).at_ ob' }) (val := .tup []) hr dm (hg _ _ hb) rfl rfl (o' := .imap true (insI a l)) ⟨rfl, rfl, rfl, rfl, rfl⟩ trivial hit.1 ⟨ob', by
    show (w.heap.setIfInBounds (σ.loc b).at_ ob')[(σ.loc b).at_]? = _
    exact Array.getElem?_setIfInBounds_self_of_lt hlt, k2⟩ (fun r hne => Array.getElem?_setIfInBounds_ne (Ne.symm hne)) (by simp) rfl rfl rfl trivial⟩
  have em : ρ m = .map (some (σ.at_ b)) := em
  have ek : ρ k = .int .i64 a := ek
  have ex : ρ x = .bool true := ex
  simp only [execOp, ho, em, ek, ex]
  show (Sem.run P (do Instr.mapUpdate t (.map (some (σ.loc b).at_)) (.int .i64 a) (.bool true); pure Next.skip) w) = _
  rw [Sem.run_bind, k1]; rfl
theorem op_sound (hr : RelH P σ g w) (hg : ∀ (b : Nat) (o : AObj), h[b]? = some o → g[b]? = some o) (hρ : ∀ x v, ρA x = some v → ρ x = den σ v ∧ wf σ v)
    {o : Oper} {r : Res} (hop : opA P ρA h o.op = some r) (hcs : All r.cs)
    (hnews : ∀ (j : Nat) (x : AObj), r.news[j]? = some x → g[h.length + j]? = some x) (hfr : ∀ j, j < r.news.length → ¬ σ.dom (h.length + j)) : Ran P σ h.length g w ρ o r := by
  cases ho : o.op <;> rw [ho] at hop <;> try (simp [opA] at hop; done)
  case load t a => exact load_sound hr hg hρ ho hop hcs
  case store t a x => exact store_sound hr hg hρ ho hop hcs
  case box t x => exact box_sound hr hρ ho hop hnews hfr
  case alloc t => exact allocop_sound hr ho hop hnews hfr
  case makeMap t q => exact makeMap_sound hr ho hop hnews hfr
  case lookup t m k c => exact lookup_sound hr hg hρ ho hop hcs
  case mapUpdate t m k x => exact mapUpdate_sound hr hg hρ ho hop hcs
  case move x =>
    simp only [opA, Option.map_eq_some_iff] at hop
    obtain ⟨v, hv, rfl⟩ := hop
    obtain ⟨e1, d1⟩ := hρ _ _ hv
    exact ran_pure hr d1 (by simp [execOp, ho, e1])
  case assign x =>
    simp only [opA, Option.map_eq_some_iff] at hop
    obtain ⟨v, hv, rfl⟩ := hop
    obtain ⟨e1, d1⟩ := hρ _ _ hv
    exact ran_pure hr d1 (by simp [execOp, ho, e1])
  case pick c a b =>
    simp only [opA] at hop
    split at hop <;> simp only [Option.map_eq_some_iff, reduceCtorEq] at hop
    all_goals
      rename_i hc
      obtain ⟨v, hv, rfl⟩ := hop
      obtain ⟨e0, -⟩ := hρ _ _ hc
      obtain ⟨e1, d1⟩ := hρ _ _ hv
      exact ran_pure hr d1 (by simp [execOp, ho, e0, e1, asBool, den])
  case nilCheck x =>
    simp only [opA] at hop
    split at hop <;> simp at hop
    all_goals
      subst hop
      rename_i hv
      obtain ⟨e1, d1⟩ := hρ _ _ hv
      exact ran_pure hr d1 (by simp [execOp, ho, e1, den])
  case binOp op t x y yt =>
    simp only [opA] at hop
    split at hop <;> simp only [Option.map_eq_some_iff, reduceCtorEq] at hop
    rename_i a b ha hb
    obtain ⟨⟨v, cs⟩, hv, rfl⟩ := hop
    obtain ⟨e1, d1⟩ := hρ _ _ ha
    obtain ⟨e2, d2⟩ := hρ _ _ hb
    obtain ⟨k1, k2⟩ := binA_sound (P := P) (σ := σ) (w := w) hv hcs x y
    refine ran_pure hr k2 ?_
    simp only [execOp, ho, e1, e2]
    rw [Sem.run_bind, k1]; rfl
  case unOp op t x =>
    simp only [opA] at hop
    split at hop <;> simp at hop
    all_goals
      subst hop
      rename_i hv
      obtain ⟨e1, d1⟩ := hρ _ _ hv
      exact ran_pure hr trivial (by simp [execOp, ho, e1, den, Op.unary, Op.intArith, Op.intBits, bits, go_sem])
  case convert src dst x =>
    simp only [opA] at hop
    split at hop <;> try simp at hop
    rename_i v hv
    obtain ⟨e1, d1⟩ := hρ _ _ hv
    obtain ⟨v', w', k1, k2⟩ := convA_sound hr hg hop hcs d1 hnews hfr
    exact ⟨_, w', v', by simp [execOp, ho, e1, k1], .inl rfl, k2⟩
  case slice t x lo hi mx =>
    simp only [opA] at hop
    split at hop <;> try simp at hop
    rename_i v lo' hi' mx' hv h1 h2 h3
    obtain ⟨e1, d1⟩ := hρ _ _ hv
    obtain ⟨v', w', k1, k2⟩ := sliceA_sound hr hg hop hcs (optA_den hρ h1) (optA_den hρ h2) (optA_den hρ h3) d1 hnews hfr
    exact ⟨_, w', v', by simp [execOp, ho, e1, k1], .inl rfl, k2⟩
  case makeSlice t l c =>
    simp only [opA] at hop
    split at hop <;> try simp at hop
    rename_i kl l' kc c' hl hc
    obtain ⟨e1, -⟩ := hρ _ _ hl
    obtain ⟨e2, -⟩ := hρ _ _ hc
    obtain ⟨v', w', k1, k2⟩ := makeA_sound (kl := kl) (kc := kc) hr hop hcs hnews hfr
    exact ⟨_, w', v', by simp [execOp, ho, e1, e2, den, k1], .inl rfl, k2⟩
  case makeInterface t x =>
    simp only [opA] at hop
    split at hop <;> simp only [Option.map_eq_some_iff, reduceCtorEq] at hop
    obtain ⟨v, hv, rfl⟩ := hop
    rename_i hc
    obtain ⟨e1, d1⟩ := hρ _ _ hv
    exact ran_pure hr (by exact d1) (by simp [execOp, ho, e1, den, run_makeInterface w t _ hc])
  case makeFunc fn first captured =>
    simp only [opA] at hop
    split at hop <;> try simp at hop
    · subst hop
      rename_i cs h1 h2
      obtain ⟨e1, d1⟩ := evalsA_den hρ h2
      obtain rfl : first = #[] := by cases first; simp_all
      refine ran_pure hr (by exact d1) ?_
      have : Array.map ρ captured = (denL σ cs).toArray := by cases captured; simp_all
      simp [execOp, ho, Instr.makeFunc, den, this]
    · split at hop <;> simp at hop
      subst hop
      rename_i h0 _ _ h1 h2 _ cs h3
      obtain ⟨e1, d1⟩ := evalsA_den hρ h3
      obtain ⟨e2, -⟩ := evalsA_den hρ h2
      have hc : captured = #[] := by
        cases captured with | mk l => cases l with
          | nil => rfl
          | cons x l => simp [denL] at e2
      subst hc
      refine ran_pure hr (by exact d1) ?_
      have : Array.map ρ first = (denL σ cs).toArray := by cases first; simp_all
      simp [execOp, ho, Instr.makeFunc, den, this]
  case fieldAddr s x f =>
    simp only [opA] at hop
    split at hop <;> simp at hop
    · subst hop
      rename_i b off0 off n ft hx hf
      obtain ⟨e1, d1⟩ := hρ _ _ hx
      obtain ⟨fields, fd, f1, f2, rfl, rfl, f5⟩ := fieldT_spec hf
      refine ran_pure hr (by exact d1) ?_
      simp [execOp, ho, e1, den, Instr.fieldAt, run_underlying f1, f2, Instr.sureAddr, fieldPlace, run_sizeOf f5, addr_add, Nat.add_assoc]
    · subst hop
      rename_i b r s0 j off n ft hx hf
      obtain ⟨e1, d1⟩ := hρ _ _ hx
      obtain ⟨fields, fd, f1, f2, rfl, rfl, f5⟩ := fieldT_spec hf
      refine ran_pure hr (by exact d1) ?_
      simp [execOp, ho, e1, den, Instr.fieldAt, run_underlying f1, f2, Instr.sureAddr, fieldPlace, run_sizeOf f5, addr_add, Nat.add_assoc]
  case field t x f =>
    simp only [opA] at hop
    split at hop <;> try simp at hop
    rename_i l off n ft hx hf
    obtain ⟨e1, d1⟩ := hρ _ _ hx
    obtain ⟨fields, fd, f1, f2, rfl, rfl, f5⟩ := fieldT_spec hf
    split at hop <;> try simp at hop
    · rename_i hag
      obtain ⟨hle, rfl⟩ := hop
      refine ran_pure hr (by exact wfL_sub (by exact d1) (fun x hx => List.mem_of_mem_drop (List.mem_of_mem_take hx))) ?_
      have : (List.take n (List.drop fd.offset (denL σ l))) = denL σ ((l.drop fd.offset).take n) := by simp [denL_map]
      simp [execOp, ho, e1, den, Instr.field, run_underlying f1, f2, asAgg, part, run_isAgg hag, run_sizeOf f5, this, List.extract_eq_take_drop]
    · rename_i hag
      split at hop <;> simp at hop
      subst hop
      rename_i v hv
      refine ran_pure hr ((wfL_iff σ l).1 d1 v (List.mem_of_getElem? hv)) ?_
      simp [execOp, ho, e1, den, Instr.field, run_underlying f1, f2, asAgg, part, run_isAgg hag, denL_getElem?, hv]
  case indexAddr t x i =>
    simp only [opA] at hop
    split at hop <;> try simp at hop
    · rename_i len e b off k n hu hx hi
      split at hop <;> simp at hop
      subst hop
      rename_i s hs
      obtain ⟨e1, d1⟩ := hρ _ _ hx
      obtain ⟨e2, -⟩ := hρ _ _ hi
      refine ran_pure hr (by exact d1) ?_
      have := indexAt_run (P := P) (w := w) (a := ⟨σ.at_ b, (σ.loc b).off + off, none⟩) (k := k) hu hs hcs.1
      simp only [execOp, ho, e1, e2, den]
      simp only [Sem.run_bind, this, Result.andThen, addr_add, Nat.add_assoc]
      rfl
    · rename_i len e b r s0 j k n hu hx hi
      split at hop <;> simp at hop
      subst hop
      rename_i s hs
      obtain ⟨e1, d1⟩ := hρ _ _ hx
      obtain ⟨e2, -⟩ := hρ _ _ hi
      refine ran_pure hr (by exact d1) ?_
      have := indexAt_run (P := P) (w := w) (a := ⟨σ.at_ b, (σ.loc b).off + (r * s0 + j), none⟩) (k := k) hu hs hcs.1
      simp only [execOp, ho, e1, e2, den]
      simp only [Sem.run_bind, this, Result.andThen, addr_add, Nat.add_assoc]
      rfl
    · rename_i e x k n hu hx hi
      split at hop <;> try simp at hop
      rename_i s hs
      obtain ⟨e1, d1⟩ := hρ _ _ hx
      obtain ⟨e2, -⟩ := hρ _ _ hi
      obtain ⟨k1, k2, k3, k4⟩ := elemA_sound (k := k) hr hg hu hs hop hcs d1
      obtain ⟨val, news, upd, cs⟩ := r
      simp only at k1 k2 k3 k4
      subst k3 k4
      exact ran_pure hr k2 (by simp [execOp, ho, e1, e2, den, k1])
  case index t x i =>
    simp only [opA] at hop
    split at hop <;> try simp at hop
    · rename_i s k n hu hx hi
      subst hop
      obtain ⟨e1, d1⟩ := hρ _ _ hx
      obtain ⟨e2, -⟩ := hρ _ _ hi
      refine ran_pure hr trivial ?_
      have hb : 0 ≤ n ∧ n < (s.size : Int) := hcs.1
      have hlt : n.toNat < s.size := by omega
      have hget : s[n.toNat]? = some (s.data.toList.getD n.toNat 0) := by
        rw [getElem?_pos s n.toNat hlt]
        congr 1
        have h1 : s.data[n.toNat]? = some s.data[n.toNat] := getElem?_pos s.data n.toNat hlt
        simp [h1]; rfl
      simp [execOp, ho, e1, e2, den, Instr.index, run_underlying hu, asIntOf, hb.1, hget]
    · rename_i len e l k n hu hx hi
      split at hop <;> try simp at hop
      rename_i hs hag
      split at hop <;> simp at hop
      subst hop
      rename_i v hv
      obtain ⟨e1, d1⟩ := hρ _ _ hx
      obtain ⟨e2, -⟩ := hρ _ _ hi
      have hb : 0 ≤ n ∧ n < (len : Int) := hcs.1
      refine ran_pure hr ((wfL_iff σ l).1 d1 v (List.mem_of_getElem? hv)) ?_
      simp [execOp, ho, e1, e2, den, Instr.index, run_underlying hu, asIntOf, hb, part, run_sizeOf hs, run_isAgg hag, denL_getElem?, hv]
  case extract x i =>
    simp only [opA] at hop
    split at hop <;> try simp at hop
    rename_i l hx
    split at hop <;> simp at hop
    subst hop
    rename_i v hv
    obtain ⟨e1, d1⟩ := hρ _ _ hx
    refine ran_pure hr ((wfL_iff σ l).1 d1 v (List.mem_of_getElem? hv)) ?_
    simp [execOp, ho, e1, den, Instr.extract, denL_getElem?, hv]
  case build t parts =>
    simp only [opA] at hop
    split at hop <;> try simp at hop
    · rename_i fields zs ps hu hz hp
      split at hop <;> try simp at hop
      rename_i hall
      split at hop <;> simp at hop
      subst hop
      rename_i l hl
      obtain ⟨i, z, z1, z2, z3, z4⟩ := zeroT_den (σ := σ) hz
      obtain ⟨p1, p2⟩ := partsA_den hρ hp
      obtain ⟨q1, q2⟩ := fillA_den hl z4 p2
      refine ran_pure hr (by exact q2) ?_
      have hp' : (parts.map fun (i, x) => (i, ρ x)).toList = ps.map (fun p => (p.1, den σ p.2)) := by rw [parts_map]; exact p1
      have hm := placesA (P := P) fields.toList (by rw [← List.all_eq_true]; simpa using hall)
      have hplace : (fun (i : Nat) => ((fields.toList.map fun (f : Field) => (f.offset, P.cellsOf f.type)).toArray[i]?)) = placeT P fields := by
        funext i; simp only [placeT, List.getElem?_toArray, List.getElem?_map, Array.getElem?_toList]; cases fields[i]? <;> rfl
      have hb := run_build (P := P) w t (parts.map fun (i, x) => (i, ρ x)) (denL σ l).toArray (by
        unfold Program.built
        rw [z1, hu]
        simp only [z2, hm, hp', z3, hplace, q1])
      simp only [execOp, ho, den]
      simp only [Sem.run_bind, hb, Result.andThen]
      rfl
    · rename_i n e zs ps hu hz hp
      split at hop <;> try simp at hop
      rename_i s hs
      split at hop <;> simp at hop
      subst hop
      rename_i l hl
      obtain ⟨i, z, z1, z2, z3, z4⟩ := zeroT_den (σ := σ) hz
      obtain ⟨p1, p2⟩ := partsA_den hρ hp
      obtain ⟨q1, q2⟩ := fillA_den hl z4 p2
      have hp' : (parts.map fun (i, x) => (i, ρ x)).toList = ps.map (fun p => (p.1, den σ p.2)) := by rw [parts_map]; exact p1
      refine ran_pure hr (by exact q2) ?_
      have hb := run_build (P := P) w t (parts.map fun (i, x) => (i, ρ x)) (denL σ l).toArray (by
        simp only [sizeT, Option.map_eq_some_iff] at hs
        obtain ⟨ie, h1, rfl⟩ := hs
        unfold Program.built
        rw [z1, hu]
        simp only [z2, h1, hp', z3, q1])
      simp only [execOp, ho, den]
      simp only [Sem.run_bind, hb, Result.andThen]
      rfl
  case buildSlice t len parts =>
    simp only [opA] at hop
    split at hop <;> try simp at hop
    rename_i e ps hu hp
    split at hop <;> try simp at hop
    rename_i zs s hz hs
    obtain ⟨⟨hzs, hs0, hle⟩, hop⟩ := hop
    split at hop <;> try simp at hop
    rename_i l hl
    split at hop <;> simp at hop
    rename_i ob hob
    subst hop
    obtain ⟨i, z, z1, z2, z3, z4⟩ := zeroT_den (σ := σ) hz
    obtain ⟨p1, p2⟩ := partsA_den hρ hp
    obtain ⟨q1, q2⟩ := fillA_den hl (repL_wf z4 len) p2
    have hmk := mkRow_den (σ := σ) hob
    have hn := hnews 0 _ rfl
    have hf := hfr 0 (by simp)
    simp only [Nat.add_zero] at hn hf
    have hp' : (parts.map fun (i, x) => (i, ρ x)).toList = ps.map (fun p => (p.1, den σ p.2)) := by rw [parts_map]; exact p1
    have hzc : z.cells.size = s := by rw [z3]; simp [hzs]
    have hcells : (Array.range (len * s)).map (fun i => z.cells[i % z.cells.size]!) = (denL σ (repL zs len)).toArray := by
      rw [repL_den, z3]
      apply Array.ext'
      simp [hzs]
    have hlen : ob.len = len * s := by rw [hmk.len, fillA_length hl, repL_length, hzs]
    have hvalw : wf (σ.more h.length [⟨w.heap.size, 0, ob.len, ob.len, false⟩]) (.sw h.length s) := ⟨(Sg.more_dom_one _ _ _ _).2 (.inr rfl), hs0⟩
    refine ⟨.value (.slice (some ⟨w.heap.size, 0, none⟩) len len), w.alloc (.cells (denL σ l).toArray e), _, ?_, .inl rfl, ?_⟩
    · have hb := run_buildSliceA (P := P) (w := w) (parts := parts.map fun (i, x) => (i, ρ x)) hu z1 z2 hs hle (by rw [hcells, hp']; exact q1)
      simp only [execOp, ho]
      simp only [Sem.run_bind, hb, Result.andThen]
      rfl
    · have := alloc_row0 (ty := e) (c := (denL σ l).toArray) (val := .sw h.length s) hr hn hf (hmk.wf q2) hmk.row (by rw [hmk.den]) (.inl hmk.tag) hvalw
      have hv : den (σ.more h.length [⟨w.heap.size, 0, ob.len, ob.len, false⟩]) (.sw h.length s) = .slice (some ⟨w.heap.size, 0, none⟩) len len := by
        simp [den, Sg.more_one, Loc.base, hlen, Nat.mul_div_cancel _ hs0]
      rw [hv] at this
      exact this
  case call c =>
    simp only [opA] at hop
    split at hop <;> try simp at hop
    rename_i b args hc ha
    obtain ⟨e1, d1⟩ := evalsA_den hρ ha
    have hargs : Array.map ρ c.args = (denL σ args).toArray := by cases hh : c.args; simp_all
    obtain ⟨v', w', k1, k2⟩ := built_sound (ty := o.type) hr hg hop hcs d1 hnews hfr
    refine ⟨_, w', v', ?_, .inl rfl, k2⟩
    simp only [execOp, ho, resolve, hc]
    rw [hargs]
    simp [invoke, k1]
end
end Go.Abs
