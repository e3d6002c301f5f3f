import Derived.Test.YtffoldigaififaaAbsZb
import Derived.Lib.Builder
set_option linter.unusedVariables false
set_option linter.unusedSimpArgs false
namespace Go.Abs
section
variable {P : Program} {σ : Sg} {g h : List AObj} {w : World}
theorem rep_get (l : List Value) (hl : 0 < l.length) (n : Nat) : (List.replicate n l).flatten = ((List.range (n * l.length)).map fun i => l[i % l.length]!) := by
  induction n with
  | zero => simp
  | succ n ih =>
    rw [List.replicate_succ, List.flatten_cons, ih, Nat.succ_mul, Nat.add_comm (n * l.length), List.range_add, List.map_append]
    congr 1
    · apply List.ext_getElem?
      intro i
      by_cases hi : i < l.length
      · rw [List.getElem?_map, List.getElem?_range hi]
        simp [Nat.mod_eq_of_lt hi, hi]
      · rw [List.getElem?_eq_none (by omega), List.getElem?_eq_none (by simp; omega)]
    · simp [List.map_map, Function.comp_def, Nat.add_mod_left]
theorem makeA_sound (hr : RelH P σ g w) {t : TypeId} {l c : Int} {kl kc : IntKind} {res : Res}
    (hop : makeA P h t l c = some res) (hcs : All res.cs)
    (hnews : ∀ (j : Nat) (x : AObj), res.news[j]? = some x → g[h.length + j]? = some x) (hfr : ∀ j, j < res.news.length → ¬ σ.dom (h.length + j)) :
    ∃ v' w', (Instr.makeSlice t (.int kl l) (.int kc c)).run P w = .ok v' w' ∧ Post P σ h.length g w res.val res.news res.upd v' w' := by
  unfold makeA at hop
  split at hop <;> try simp at hop
  rename_i e ht
  split at hop <;> try simp at hop
  rename_i i zs hi hz
  obtain ⟨⟨hzl, hs, hb⟩, hop⟩ := hop
  split at hop <;> simp at hop
  rename_i o ho
  subst hop
  obtain ⟨⟨a1, a2, a3⟩, hfit, -⟩ := hcs
  simp only at hnews hfr ⊢
  have hN := hnews 0 _ rfl
  have hf := hfr 0 (by simp)
  simp only [Nat.add_zero] at hN hf
  obtain ⟨i', z, z1, z2, z3, z4⟩ := zeroT_den (σ := σ) hz
  rw [hi] at z1; obtain rfl := Option.some.inj z1
  obtain ⟨m1, m2, m3, m4, m5⟩ := mkRep_den (σ := σ) ho
  have hfit' : c.toNat * i.bytes ≤ 140737488355328 := hfit
  have hc63 : c.toNat ≤ c.toNat * i.bytes := Nat.le_mul_of_pos_right _ hb
  have hbytes : (i.bytes : Int) * c ≤ 281474976710656 := by
    have h1 : ((c.toNat * i.bytes : Nat) : Int) ≤ 140737488355328 := by omega
    rw [Int.natCast_mul] at h1
    have h2 : (c.toNat : Int) = c := by omega
    rw [h2, Int.mul_comm] at h1; omega
  have hrun := run_make (P := P) w t e i z ht hi z2 kl kc l c a2 a3 hbytes (by omega)
  have hzc : z.cells.size = i.size := by rw [z3]; simp [hzl]
  have hol : o.len = l.toNat * i.size := by
    have := congrArg List.length m1
    simpa [hzl] using this
  have hle : o.len ≤ c.toNat * i.size := by rw [hol]; exact Nat.mul_le_mul_right _ (by omega)
  have hval : wf (σ.more h.length [⟨w.heap.size, 0, o.len, c.toNat * i.size, false⟩]) (.sw h.length i.size) := ⟨(Sg.more_dom_one _ _ _ _).2 (.inr rfl), hs⟩
  have hpost := alloc_row (P := P) (w' := w.alloc (.cells (madeCells z.cells (c.toNat * i.size)) e)) (c := madeCells z.cells (c.toNat * i.size)) (fr := (0, 0)) (ty := e) (cap := c.toNat * i.size) hr hN hf m5 m4 (show (w.heap.push _)[w.heap.size]? = _ by simp) (fun r h => push_old _ h) (by simp) rfl rfl rfl (.inl (mkRep_tag ho)) (unf0 _ _) (by rw [size_madeCells]; exact Nat.le_refl _) hle (fun j v hv => by
    rw [m1, rep_get _ (by simp [hzl]; exact hs), denL_length, hzl] at hv
    have hj : j < l.toNat * i.size := by have := (List.getElem?_eq_some_iff.1 hv).1; simpa using this
    rw [List.getElem?_map, List.getElem?_range hj] at hv
    have hj2 : j < c.toNat * i.size := Nat.lt_of_lt_of_le hj (by rw [← hol]; exact hle)
    simp only [madeCells]
    rw [Array.getElem?_map, Array.getElem?_range]
    rw [if_pos hj2, hzc, z3]
    simpa using hv) hval
  refine ⟨_, _, hrun, ?_⟩
  have e1 : o.len / i.size = l.toNat := by rw [hol]; exact Nat.mul_div_cancel _ hs
  have e2 : c.toNat * i.size / i.size = c.toNat := Nat.mul_div_cancel _ hs
  have hv : den (σ.more h.length [⟨w.heap.size, 0, o.len, c.toNat * i.size, false⟩]) (.sw h.length i.size) = .slice (some ⟨w.heap.size, 0, none⟩) l.toNat c.toNat := by
    simp [den, Sg.more_one, Loc.base, e1, e2]
  rw [hv] at hpost
  exact hpost

theorem oneN_eq (s k : Nat) : oneN s k = k * s := by
  unfold oneN; split <;> simp
theorem elemA_sound (hr : RelH P σ g w) (hg : ∀ (b : Nat) (o : AObj), h[b]? = some o → g[b]? = some o) {t e : TypeId} {s : Nat} {x : AV} {k : IntKind} {n : Int} {res : Res}
    (ht : P.underlying t = some (.slice e)) (hs : sizeT P e = some s) (hop : elemA h s x n = some res) (hcs : All res.cs) (hx : wf σ x) :
    (Instr.indexAt t (den σ x) (.int k n)).run P w = .ok (den σ res.val) w ∧ wf σ res.val ∧ res.news = [] ∧ res.upd = [] := by
  have main : ∀ {b off nn r : Nat} {o : AObj}, σ.dom b → g[b]? = some o → o.live = true → nn ≤ r → (off + r) * s ≤ (σ.loc b).cap → 0 < s → inB n nn → ∀ {B : Option Addr} {z : Nat}, B = (σ.loc b).base (cond (r == 0) z off * s) →
      (Instr.indexAt t (.slice B nn r) (.int k n)).run P w = .ok (.pointer (some ⟨σ.at_ b, (σ.loc b).off + (off + n.toNat) * s, none⟩)) w := by
    intro b off nn r o hd ho hl hnr hfit hs0 hin B z hB
    obtain ⟨a1, a2⟩ := hin
    have hblk := hr.blk b o hd ho hl
    have hr0 : (r == 0) = false := by simp; omega
    have hnil : (σ.loc b).nil = false := by
      cases h : (σ.loc b).nil with
      | false => rfl
      | true =>
        have h1 := hblk.nil h
        have h2 : 1 * s ≤ (off + r) * s := Nat.mul_le_mul_right _ (by omega)
        omega
    have hB' : B = some ⟨σ.at_ b, (σ.loc b).off + off * s, none⟩ := by rw [hB, hr0]; simp [Loc.base, hnil]
    rw [hB', indexAt_run2 ht hs ⟨a1, a2⟩, addr_add, Nat.add_mul, Nat.add_assoc]
  unfold elemA at hop
  split at hop
  · rename_i b s'
    split at hop <;> try simp at hop
    rename_i hs'; subst hs'
    split at hop <;> try simp at hop
    rename_i o ho
    split at hop <;> simp at hop
    · rename_i m w1 sh l hm
      subst hop
      obtain ⟨hl, hat⟩ := sw_at hr hx (hg _ _ ho) hm
      refine ⟨?_, hx.1, rfl, rfl⟩
      rw [sw_val hl, main hx.1 (hg _ _ ho) rfl hat.le hat.fit hx.2 hcs.1 hat.base]
      simp [den, idxN]
    · rename_i m _ hm
      subst hop
      obtain ⟨hl, hat⟩ := sw_at hr hx (hg _ _ ho) hm
      refine ⟨?_, hx.1, rfl, rfl⟩
      rw [sw_val hl, main hx.1 (hg _ _ ho) (cnt_spec hm).1 hat.le hat.fit hx.2 hcs.1 hat.base]
      simp [den, idxN, oneN_eq]
  · rename_i b s' z off m c
    split at hop <;> try simp at hop
    rename_i hs'; subst hs'
    split at hop <;> try simp at hop
    rename_i o ho
    split at hop <;> simp at hop
    · rename_i m0 w1 sh l hm
      subst hop
      refine ⟨?_, hx.1, rfl, rfl⟩
      rw [show den σ (.sl b s' z off m c) = slV (σ.loc b) s' z off m ((σ.loc b).room s' off c) from rfl]
      rw [slV, main hx.1 (hg _ _ ho) rfl hx.2.2.1 hx.2.2.2 hx.2.1 hcs.1 rfl]
      simp [den, idxN]
    · rename_i m0 _ hm
      subst hop
      refine ⟨?_, hx.1, rfl, rfl⟩
      rw [show den σ (.sl b s' z off m c) = slV (σ.loc b) s' z off m ((σ.loc b).room s' off c) from rfl]
      rw [slV, main hx.1 (hg _ _ ho) (cnt_spec hm).1 hx.2.2.1 hx.2.2.2 hx.2.1 hcs.1 rfl]
      simp [den, idxN, oneN_eq]
  · simp at hop

/-- an object is written, and from then on perhaps no more -/
theorem post_turn (hr : RelH P σ g w) {b : Nat} {o o' : AObj} (hd : σ.dom b) (ho : g[b]? = some o) (hl : o.live = true) (hwr : o.wr = true) (hrow : o'.row = o.row) (hlen : o'.len = o.len) (hw : wfO σ o')
    {w' : World} (hcap : 0 < (σ.loc b).cap) (hh1 : ∃ ob, w'.heap[σ.at_ b]? = some ob ∧ Rep σ o' (σ.loc b) ob) (hh2 : ∀ r, r ≠ σ.at_ b → w'.heap[r]? = w.heap[r]?) (hsize : w'.heap.size = w.heap.size)
    (hos : w'.os = w.os) (htp : w'.tape = w.tape) (hout : w'.output = w.output) {n : Nat} {val : AV} (hval : wf σ val) :
    Post P σ n g w val [] [(b, o')] (den σ val) w' := by
  have hlt : b < g.length := (List.getElem?_eq_some_iff.1 ho).1
  refine post_mk hr ⟨[], rfl, by rw [Sg.more_nil], by rw [Sg.more_nil]; exact hval, ?_, ⟨hos, htp, hout, by omega, ?_⟩, ?_, ?_⟩
  · rw [Sg.more_nil]
    refine ⟨fun k hk' => by simpa [applyUpd] using hr.lt k hk', ?_, ?_, ?_⟩
    · intro k x hkd hkx hxl
      rcases set_get _ _ _ hkx with ⟨rfl, rfl, -⟩ | ⟨hne, hx⟩
      · have hb := hr.blk k o hd ho hl
        exact ⟨by rw [hlen]; exact hb.len, hb.le, hb.nil, fun _ => hh1, fun h => hb.it (by rw [← hrow]; exact h)⟩
      · refine (hr.blk k x hkd hx hxl).heap_eq (fun hc => hh2 _ (fun e => hne (hr.inj k b x o hkd hd hx ho hxl hl hc hcap (.inr hwr) e)))
    · intro k k' x x' hkd hkd' hx hx' hlx hlx' c1 c2 hwx he
      rcases set_get _ _ _ hx with ⟨rfl, rfl, -⟩ | ⟨hne, h1⟩ <;> rcases set_get _ _ _ hx' with ⟨rfl, rfl, -⟩ | ⟨hne', h2⟩
      · rfl
      · exact hr.inj _ _ o x' hkd hkd' ho h2 hl hlx' c1 c2 (.inl hwr) he
      · exact hr.inj _ _ x o hkd hkd' h1 ho hlx hl c1 c2 (.inr hwr) he
      · exact hr.inj _ _ x x' hkd hkd' h1 h2 hlx hlx' c1 c2 hwx he
    · intro k x hkd hx
      rcases set_get _ _ _ hx with ⟨rfl, rfl, -⟩ | ⟨hne, h1⟩
      · exact hw
      · exact hr.wfo k x hkd h1
  · intro r h1 h2
    exact hh2 r (fun e => h2 ⟨b, o, hd, ho, hl, hcap, hwr, e.symm⟩)
  · rw [Sg.more_nil]
    rintro r ⟨k, x, hkd, hx, hlx, hc, rfl⟩
    rcases set_get _ _ _ hx with ⟨rfl, rfl, -⟩ | ⟨hne, h1⟩
    · exact .inl ⟨k, o, hkd, ho, hl, hc, rfl⟩
    · exact .inl ⟨k, x, hkd, h1, hlx, hc, rfl⟩
  · rw [Sg.more_nil]
    rintro r ⟨k, x, hkd, hx, hlx, hc, hwx, rfl⟩
    rcases set_get _ _ _ hx with ⟨rfl, rfl, -⟩ | ⟨hne, h1⟩
    · exact .inl ⟨k, o, hkd, ho, hl, hc, hwr, rfl⟩
    · exact .inl ⟨k, x, hkd, h1, hlx, hc, hwx, rfl⟩

theorem run_convert_mark {t e : TypeId} {a : Addr} {c : Array Value} {tt : TypeId} {fr : Nat × Nat} {n m : Nat} (ht : P.underlying t = some (.slice e)) (he : P.underlying e = some (.int .u8)) (hh : w.heap[a.block]? = some (.cells c tt fr)) :
    (convert t t (.slice (some a) n m)).run P w = .ok (.slice (some a) n m) (w.freeze ⟨a.block, c.size, none⟩ 1) := by
  have hsh : w.shape? a.block = some (tt, c.size) := by unfold World.shape?; rw [hh]
  simp [convert, run_underlying ht, run_underlying he, markStringish, hsh]
theorem tag_shape (hr : RelH P σ g w) {b : Nat} {T : TypeId} {wr : Bool} {c : AV} {l : List AV} (hd : σ.dom b) (ho : g[b]? = some (.cells T wr (c :: l))) (hT : T ≠ 0) :
    (σ.loc b).off = 0 ∧ w.shape? (σ.at_ b) = some (T, l.length + 1) := by
  have hb := hr.blk b _ hd ho rfl
  have hlen : l.length + 1 = (σ.loc b).len := hb.len
  obtain ⟨ob, h1, h2⟩ := hb.rep (by have := hb.le; omega)
  obtain ⟨a, t, fr, rfl, -, ⟨-, htag⟩, -⟩ := (Rep.row (σ := σ) (o := .cells T wr (c :: l)) rfl).1 h2
  rcases htag with k | ⟨rfl, k⟩
  · exact absurd k hT
  obtain ⟨k1, k2⟩ := k rfl
  refine ⟨k1, ?_⟩
  have h1 : w.heap[σ.at_ b]? = some (.cells a _ fr) := h1
  unfold World.shape?
  rw [h1]
  simp only [AObj.tag]
  rw [k2, hlen]
theorem convA_sound (hr : RelH P σ g w) (hg : ∀ (b : Nat) (o : AObj), h[b]? = some o → g[b]? = some o) {src dst : TypeId} {x : AV} {res : Res}
    (hop : convA P h src dst x = some res) (hcs : All res.cs) (hx : wf σ x)
    (hnews : ∀ (j : Nat) (x : AObj), res.news[j]? = some x → g[h.length + j]? = some x) (hfr : ∀ j, j < res.news.length → ¬ σ.dom (h.length + j)) :
    ∃ v' w', (convert src dst (den σ x)).run P w = .ok v' w' ∧ Post P σ h.length g w res.val res.news res.upd v' w' := by
  unfold convA at hop
  split at hop
  · rename_i k' k h1 h2
    split at hop <;> simp at hop
    subst hop
    exact ⟨_, w, by simp [den, convert, run_underlying h1, run_underlying h2, Conv.intToInt]; rfl, post_pure hr trivial⟩
  · rename_i h1 h2
    split at hop <;> simp at hop
    subst hop
    exact ⟨_, w, by simp [den, convert, run_underlying h1, run_underlying h2], post_pure hr trivial⟩
  · rename_i k h1 h2
    split at hop <;> simp at hop
    subst hop
    rename_i k2 n
    exact ⟨_, w, by rw [show den σ (.v (.int k2 n)) = .int k2 n from rfl, run_convert_int_string w src dst k2 n (by rw [h1]; rfl) h2]; rfl, post_pure hr (val := .v (.string (runeS n))) trivial⟩
  · rename_i e h1 h2
    split at hop <;> simp at hop
    subst hop
    rename_i s he hs
    simp only at hnews hfr ⊢
    have hN := hnews 0 _ rfl
    have hf := hfr 0 (by simp)
    simp only [Nat.add_zero] at hN hf
    have hrun := Lib.run_convert_string_bytes (P := P) w src dst e s h1 h2 he
    have hcap : s.size ≤ grownCap w s.size 0 e := grownCap_ge ..
    have hsz : (Lib.bytesCells w e s).size = grownCap w s.size 0 e := by
      simp only [Lib.bytesCells, Array.size_append, Array.size_map, Array.size_replicate]
      have : s.data.size = s.size := rfl
      omega
    have hol : (AObj.ints 0 true .u8 (bytesI s)).len = s.size := by simp only [AObj.len, bytesI, List.length_map]; rfl
    have hval : wf (σ.more h.length [⟨w.heap.size, 0, (AObj.ints 0 true .u8 (bytesI s)).len, grownCap w s.size 0 e, false⟩]) (.sw h.length 1) := ⟨(Sg.more_dom_one _ _ _ _).2 (.inr rfl), by decide⟩
    have hpost := alloc_row (P := P) (w' := Lib.bytesWorld w e s) (ty := e) (cap := grownCap w s.size 0 e) hr hN hf trivial rfl (Lib.bytesWorld_at_new w e s) (fun r hr => Lib.bytesWorld_at_old w e s r hr) (by rw [Lib.bytesWorld_size]; omega) rfl rfl rfl (.inl rfl)
      (fun i hi hh => by rw [hsz] at hh; simp only at hh; omega) (by rw [hsz]; exact Nat.le_refl _) (by rw [hol]; exact hcap) (fun j v hv => by
        have hj : j < s.size := by have := (List.getElem?_eq_some_iff.1 hv).1; rw [denO_length, hol] at this; exact this
        have hj2 : j < s.data.size := hj
        simp only [denO, bytesI, List.map_map] at hv
        simp only [Lib.bytesCells]
        rw [Array.getElem?_append_left (by simpa using hj2)]
        simpa [Function.comp_def] using hv) hval
    refine ⟨_, _, hrun, ?_⟩
    have hv : den (σ.more h.length [⟨w.heap.size, 0, (AObj.ints 0 true .u8 (bytesI s)).len, grownCap w s.size 0 e, false⟩]) (.sw h.length 1) = .slice (some ⟨w.heap.size, 0, none⟩) s.size (grownCap w s.size 0 e) := by
      simp [den, Sg.more_one, Loc.base, hol]
    rw [hv] at hpost
    exact hpost
  · rename_i e h1 h2
    split at hop <;> try simp at hop
    rename_i he hs
    split at hop
    · simp at hop; subst hop
      exact ⟨_, w, by rw [show den σ (.v (.slice none _ _)) = .slice none _ _ from rfl, run_convert_bytes_nil w src e h1 he _ _ dst h2]; rfl, post_pure hr (val := .v (.string .empty)) trivial⟩
    · split at hop <;> try simp at hop
      rename_i t0 w0 l m cs hcont
      have key : All cs → ∃ v' w', (convert src dst (den σ x)).run P w = .ok v' w' ∧ Post P σ h.length g w (.v (.string (strI l))) [] [] v' w' := by
        intro hc
        have hco := contA_sound hr hg hcont hc hx
        have hlen : l.length = m := by have := hco.len; simpa [AObj.len] using this
        have hfc := hco.cells w rfl m (Nat.le_refl _)
        rw [List.take_of_length_le (by simp [hco.len])] at hfc
        refine ⟨_, w, ?_, post_pure hr (val := .v (.string (strI l))) trivial⟩
        cases x with
        | sw b s =>
          simp only [den] at hfc ⊢
          have e3 := hco.lenOf w
          simp only [den, Builtin.lenOf, Sem.run_pure, Result.ok.injEq, and_true] at e3
          rw [e3] at hfc ⊢
          rw [run_convert_bytes_string w src dst e _ _ _ h1 he h2]
          cases hb : (σ.loc b).base 0 with
          | none =>
            rw [hb] at hfc
            simp only [Builtin.firstCells, Sem.run_pure, Result.ok.injEq, and_true, denO] at hfc
            have : l = [] := by
              have h5 := congrArg Array.toList hfc
              simpa using h5
            subst this
            simp [Conv.bytesToString, strI, strOfNums]; rfl
          | some a =>
            rw [hb] at hfc
            simp only [Builtin.firstCells, Nat.mul_one, denO] at hfc
            rw [run_bytesToString w a m _ l hfc, foldl_push_bytes]
            simp [strI, strOfNums, ByteArray.empty, ByteArray.emptyWithCapacity]; rfl
        | sl b s z off n c =>
          simp only [den, slV] at hfc ⊢
          have e3 := hco.lenOf w
          simp only [den, slV, Builtin.lenOf, Sem.run_pure, Result.ok.injEq, and_true] at e3
          rw [e3] at hfc ⊢
          rw [run_convert_bytes_string w src dst e _ _ _ h1 he h2]
          cases hb : (σ.loc b).base (cond ((σ.loc b).room s off c == 0) z off * s) with
          | none =>
            rw [hb] at hfc
            simp only [Builtin.firstCells, Sem.run_pure, Result.ok.injEq, and_true, denO] at hfc
            have : l = [] := by
              have h5 := congrArg Array.toList hfc
              simpa using h5
            subst this
            simp [Conv.bytesToString, strI, strOfNums]; rfl
          | some a =>
            rw [hb] at hfc
            simp only [Builtin.firstCells, Nat.mul_one, denO] at hfc
            rw [run_bytesToString w a m _ l hfc, foldl_push_bytes]
            simp [strI, strOfNums, ByteArray.empty, ByteArray.emptyWithCapacity]; rfl
        | _ => first | (simp [contA] at hcont; done) | simp at hop
      split at hop <;> simp at hop
      subst hop
      exact key hcs
  · rename_i e e' h1 h2
    split at hop <;> try simp at hop
    rename_i b he hs
    split at hop <;> try simp at hop
    rename_i t0 c0 l0 hb
    obtain ⟨hsd, hop⟩ := hop
    subst hsd hop
    simp only at hnews hfr ⊢
    have hd : σ.dom b := hx.1
    have ho := hg b _ hb
    have hblk := hr.blk b _ hd ho rfl
    have hlen := hblk.len
    have hle := hblk.le
    have hpos : 0 < (σ.loc b).cap := by simp only [AObj.len, List.length_cons] at hlen; omega
    have hnil : (σ.loc b).nil = false := by
      cases hq : (σ.loc b).nil with
      | false => rfl
      | true => have := hblk.nil hq; omega
    obtain ⟨ob, k1, k2⟩ := hblk.rep hpos
    obtain ⟨a, t, fr, rfl, k3, k4, k5⟩ := (Rep.row (σ := σ) (o := .ints t0 true .u8 (c0 :: l0)) rfl).1 k2
    have hv : den σ (.sw b 1) = .slice (some ⟨σ.at_ b, (σ.loc b).off + 0, none⟩) ((σ.loc b).len / 1) ((σ.loc b).cap / 1) := by
      simp [den, Loc.base, hnil]
    refine ⟨den σ (.sw b 1), w.freeze ⟨σ.at_ b, a.size, none⟩ 1, ?_, ?_⟩
    · rw [hv]; exact run_convert_mark h1 he k1
    · have hlt : σ.at_ b < w.heap.size := (Array.getElem?_eq_some_iff.1 k1).1
      refine post_turn (o' := .ints t0 false .u8 (c0 :: l0)) (w' := w.freeze ⟨σ.at_ b, a.size, none⟩ 1) hr hd ho rfl rfl rfl rfl trivial hpos ?_ ?_ ?_ ?_ ?_ ?_ hx
      · refine ⟨.cells a t (if fr.1 == fr.2 then (a.size, a.size + 1) else (min fr.1 a.size, max fr.2 (a.size + 1))), ?_, ?_⟩
        · obtain ⟨lo, hi⟩ := fr
          unfold World.freeze
          simp only [Nat.one_ne_zero, if_false, Array.getElem?_modify, if_true, k1, Option.map_some]
        · exact (Rep.row rfl).2 ⟨a, t, _, rfl, fun h => by simp [AObj.wr] at h, k4, k5⟩
      · intro r hne
        unfold World.freeze
        simp only [Nat.one_ne_zero, if_false, Array.getElem?_modify]
        rw [if_neg (fun h => hne h.symm)]
      · unfold World.freeze
        simp
      · unfold World.freeze
        simp
      · unfold World.freeze
        simp
      · unfold World.freeze
        simp
  · rename_i t h1 h2
    split at hop <;> try simp at hop
    rename_i b j hj
    split at hop <;> try simp at hop
    rename_i T wr c l ho
    obtain ⟨⟨hT, hs⟩, rfl⟩ := hop
    obtain ⟨k1, k2⟩ := tag_shape hr hx (hg _ _ ho) hT
    refine ⟨den σ (.ptr b 0), w, ?_, post_pure hr hx⟩
    simp only [den, k1]
    exact Lib.run_to_unsafe w _ h1 h2 hj hs k2 (Nat.zero_lt_succ _)
  · rename_i u h1 h2
    split at hop <;> try simp at hop
    rename_i b j hj
    split at hop <;> try simp at hop
    rename_i T wr c l ho
    obtain ⟨⟨hT, hl⟩, rfl⟩ := hop
    obtain ⟨k1, k2⟩ := tag_shape hr hx (hg _ _ ho) hT
    refine ⟨den σ (.ptr b 0), w, ?_, post_pure hr hx⟩
    simp only [den, k1]
    exact Lib.run_from_unsafe w _ h1 h2 hj k2 hl
  · simp at hop
end
end Go.Abs
