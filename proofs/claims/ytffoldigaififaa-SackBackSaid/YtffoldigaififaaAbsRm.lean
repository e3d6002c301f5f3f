import Derived.Test.YtffoldigaififaaAbsRf
import Derived.RangeFuncWrites
set_option linter.unusedVariables false
set_option linter.unusedSimpArgs false
/- Loops over method values; the heap may hold maps that lay ahead of the loop. -/
namespace Go.Abs
open Go.RowKit
/-- what an iterator that is a method value, bound to bd, does for a loop that it hands to -/
def MvStops {α : Type} (F : Fence) (n : Nat) (P : Program) (g : Nat) (bd : Array Value) (encs : α → Array Value) (Kp : World → World → Prop) (S Sp ok : List α → Prop) (w : World) : Prop :=
  ∀ (l : Nat) (J Jx : List α → World → Prop) (W : World), Below w.heap.size w W → AbidesFrom W.heap.size J → AbidesFrom W.heap.size Jx →
    (∀ pre x W1, J pre W1 → ok (pre ++ [x]) → YieldAt F (n - 1) P l (encs x) W1 fun e W' =>
      (e = .returned (.bool true) ∧ J (pre ++ [x]) W' ∧ Kp W1 W') ∨ (e = .returned (.bool false) ∧ Jx (pre ++ [x]) W')) → J [] W →
    CallsIn F n P g (bd ++ #[.func (.yield l) #[] #[]]) W fun e W' => (∃ v, e = .returned v) ∧ ((∃ xs, S xs ∧ J xs W') ∨ (∃ pre, Sp pre ∧ Jx pre W'))
variable {P : Program}
/-- the loop's record, in its states -/
def recOf (fn : FuncId) (t : Array Value) (ps : Array Tmp) (hd body : Code) (D : Nat) (st : LoopState) (pe : Option Code) : Loop := { state := st, pending := pe, fn, tmps := t, params := ps, assign := hd, body, defers := D }
theorem rangeMv {α : Type} {F : Fence} {g : Operand} {ps : Array Tmp} {hd body : Code} {Q : Exit → Act → World → Prop} {a : Act} {w : World} {gf : FuncId} {bd : Array Value} (hro : F.round = none)
    (hg : a.eval g = .func (.func gf) bd #[]) (hFg : F.fn gf) (eg : ∀ args w, (callFunc gf args).run P w = .ok (.enter gf args) w)
    {encs : α → Array Value} {Kp : World → World → Prop} {S Sp ok : List α → Prop} (hseq : MvStops F 3 P gf bd encs Kp S Sp ok w)
    (hKt : ∀ {A B C : World}, Kp A B → Kp B C → Kp A C) (hKb : ∀ (W : World) (l : Nat) (o o' : Obj), w.heap.size ≤ l → W.heap[l]? = some o → o.isCells = false → Kp W (W.putObj l o')) (hps : ∀ x, (encs x).size = ps.size)
    (I : List α → World → Prop) (Ix : Code → List α → World → Prop) (hI : OwnFrom w.heap.size I) (hIx : ∀ c, OwnFrom w.heap.size (Ix c)) (h0 : I [] w) (a₁ : α → Act)
    (hassign : ∀ (l : Nat) (x : α) (W : World) (K : Act → World → Prop), K (a₁ x) W →
      hd.wpIn (F.inRound l) 2 P (Exit.then K (fun _ _ _ => False)) { tmps := (ps.zip (encs x)).foldl (fun t (p, v) => t.setIfInBounds p v) a.tmps, defers := [] } W)
    (hbody : ∀ (l : Nat) (pre : List α) (x : α) (W : World), I pre W → ok (pre ++ [x]) → body.wpIn (F.inRound l) 2 P (ownPostG w.heap.size Kp I Ix (pre ++ [x]) W) (a₁ x) W)
    (hdone : ∀ (D : Nat) (xs : List α) (W : World), w.heap.size ≤ D → S xs → I xs W → W.heap[D]? = some (.deferred (some [])) → Q .normal { a with defers := { target := .collected D, args := #[] } :: a.defers } W)
    (hstop : ∀ (D : Nat) (c : Code) (pre : List α) (W : World), w.heap.size ≤ D → Sp pre → Ix c pre W → W.heap[D]? = some (.deferred (some [])) → c.wpIn F 4 P Q { a with defers := { target := .collected D, args := #[] } :: a.defers } W) :
    (Code.rangeFunc g ps hd body).wpIn F 4 P Q a w := by
  refine wpIn_rangeFunc fun fn hfn => ?_
  rw [hro]
  let D := w.heap.size
  let L := w.heap.size + 1
  let rec_ := recOf fn a.tmps ps hd body D
  generalize hW1 : (w.alloc (.deferred (some []))).alloc (.loop (rec_ .ready none)) = W1
  have szD : (w.alloc (.deferred (some []))).heap.size = L := World.size_alloc w _
  have sz1 : W1.heap.size = w.heap.size + 2 := by rw [← hW1, World.size_alloc, szD]
  have lL : W1.heap[L]? = some (.loop (rec_ .ready none)) := by
    have := World.alloc_heap_new (w.alloc (.deferred (some []))) (.loop (rec_ .ready none))
    rw [szD] at this; rw [← hW1]; exact this
  have lD : W1.heap[D]? = some (.deferred (some [])) := by
    rw [← hW1]; exact (Below.heap_alloc _ _ _ (by rw [szD]; exact Nat.lt_succ_self _)).trans (World.alloc_heap_new w _)
  have below : Below w.heap.size w W1 := by
    rw [← hW1]; exact ((Below.refl _ w).alloc (Nat.le_refl _) _).alloc (by rw [szD]; exact Nat.le_succ _) _
  -- what the iterator's contract is asked at
  let J : List α → World → Prop := fun pre W => I pre W ∧ W.heap[L]? = some (.loop (rec_ .ready none)) ∧ W.heap[D]? = some (.deferred (some []))
  let Jx : List α → World → Prop := fun pre W => ∃ c, Ix c pre W ∧ W.heap[L]? = some (.loop (rec_ .done (some c))) ∧ W.heap[D]? = some (.deferred (some []))
  have walkOld : ∀ {A : World} {row : Option Nat}, (∀ r, row = some r → W1.heap.size ≤ r ∧ ∃ o : Obj, A.heap[r]? = some o ∧ o.isWalk = true) → (∀ r, row = some r → w.heap.size ≤ r ∧ ∃ o : Obj, A.heap[r]? = some o ∧ o.isCells = false) :=
    fun hr r e => by
      obtain ⟨q1, o, q2, q3⟩ := hr r e
      exact ⟨by omega, o, q2, Obj.not_cells_of_walk q3⟩
  have keepL : ∀ {A B : World} {row : Option Nat} {k : Nat} {o : Obj}, A.grownBy B row → (∀ r, row = some r → W1.heap.size ≤ r ∧ ∃ o : Obj, A.heap[r]? = some o ∧ o.isWalk = true) → k < w.heap.size + 2 → A.heap[k]? = some o → B.heap[k]? = some o := fun hgr hr hk ho =>
    (hgr.block _ (Array.getElem?_eq_some_iff.1 ho).1 (fun e => by have := (hr _ e.symm).1; omega)).trans ho
  have aJ : AbidesFrom W1.heap.size J := fun pre A B row hs hgr hr => ⟨hI pre A B row hs.1 hgr (walkOld hr), keepL hgr hr (by omega) hs.2.1, keepL hgr hr (by omega) hs.2.2⟩
  have aJx : AbidesFrom W1.heap.size Jx := fun pre A B row hs hgr hr => by
    obtain ⟨c, k1, k2, k3⟩ := hs
    exact ⟨c, hIx c pre A B row k1 hgr (walkOld hr), keepL hgr hr (by omega) k2, keepL hgr hr (by omega) k3⟩
  have put : ∀ {pre : List α} {W : World} {o o' : Obj}, I pre W → W.heap[L]? = some o → o.isCells = false → I pre (W.putObj L o') := fun hi hl ho => hI.putObj _ hi (by omega) hl ho
  refine ⟨L, [{ target := .collected D, args := #[] }], W1, { target := .fn (.func gf) #[], args := bd ++ #[.func (.yield L) #[] #[]] }, W1, gf, bd ++ #[.func (.yield L) #[] #[]], W1, ?_, ?_, ?_, ?_, fun _ => by decide, ?_⟩
  · rw [← hW1]; exact run_enterLoop_outer _ _ _ _ _
  · simp only [resolve, hg]
    simp [go_sem]
  · intro f' hf'
    simp [Target.leads] at hf'
    subst hf'; exact hFg
  · simp [invoke, go_sem, eg]
  · refine (hseq L J Jx W1 below aJ aJx (fun pre x W hJ hlen => ?_) ⟨by rw [← hW1]; exact hI.alloc _ (hI.alloc _ h0), lL, lD⟩).mono ?_
    · obtain ⟨hi, hl, hk⟩ := hJ
      have hL : L < W.heap.size := (Array.getElem?_eq_some_iff.1 hl).1
      have hy := run_yield (P := P) (args := encs x) hl (hps x)
      refine ⟨fn, _, hd, body, hy, roundIn_of_wpIn hfn (hassign _ x W _ ⟨_, run_beginRound hl rfl, ?_⟩)⟩
      have hb : (W.putObj L (.loop { rec_ .ready none with state := .busy })).heap[L]? = some (.loop { rec_ .ready none with state := .busy }) := World.putObj_heap_same hL
      have hd' : (W.putObj L (.loop { rec_ .ready none with state := .busy })).heap[D]? = some (.deferred (some [])) := (World.putObj_heap_other (by omega)).trans hk
      have ends : ∀ (jump : Option Code) (V : World), KeepsFrom w.heap.size (W.putObj L (.loop { rec_ .ready none with state := .busy })) V →
          ∃ V', V' = V.putObj L (.loop (rec_ (if jump.isNone then .ready else .done) jump)) ∧ (Instr.endRound L jump).run P V = .ok (.bool jump.isNone) V' ∧ V.heap[L]? = some (.loop { rec_ .ready none with state := .busy }) ∧
            V'.heap[L]? = some (.loop (rec_ (if jump.isNone then .ready else .done) jump)) ∧ V'.heap[D]? = some (.deferred (some [])) := fun jump V hV => by
        have hv := hV.same L _ (by omega) hb rfl
        exact ⟨_, rfl, run_endRound (P := P) jump hv, hv, World.putObj_heap_same (Array.getElem?_eq_some_iff.1 hv).1, (World.putObj_heap_other (by omega)).trans (hV.same D _ (Nat.le_refl _) hd' rfl)⟩
      refine wpIn_mono (hbody _ pre x _ (put hi hl rfl) hlen) ?_
      have leave : ∀ (c : Code) (V : World), KeepsFrom w.heap.size (W.putObj L (.loop { rec_ .ready none with state := .busy })) V ∧ Ix c (pre ++ [x]) V → ∃ V', (Instr.endRound L (some c)).run P V = .ok (.bool false) V' ∧ Jx (pre ++ [x]) V' := fun c V hV => by
        obtain ⟨V', rfl, e1, e2, e3, e4⟩ := ends (some c) V hV.1
        exact ⟨_, e1, c, (hIx c).putObj _ hV.2 (by omega) e2 rfl, e3, e4⟩
      rintro e a3 V hp
      cases e with
      | normal =>
        obtain ⟨hV, hkp, hi3⟩ := hp
        obtain ⟨V', rfl, e1, e2, e3, e4⟩ := ends none V hV
        exact ⟨_, _, e1, .inl ⟨rfl, ⟨put hi3 e2 rfl, e3, e4⟩, hKt (hKt (hKb _ _ _ _ (by omega) hl rfl) hkp) (hKb _ _ _ _ (by omega) e2 rfl)⟩⟩
      | ret => obtain ⟨V', e1, e2⟩ := leave .ret V hp; exact ⟨_, _, e1, .inr ⟨rfl, e2⟩⟩
      | exit id => obtain ⟨V', e1, e2⟩ := leave (.exit id) V hp; exact ⟨_, _, e1, .inr ⟨rfl, e2⟩⟩
      | goto t => obtain ⟨V', e1, e2⟩ := leave (.goto t) V hp; exact ⟨_, _, e1, .inr ⟨rfl, e2⟩⟩
      | panic ch => exact hp.elim
      | outgrown => exact hp.elim
    · rintro e V ⟨⟨v, rfl⟩, (⟨xs, hS, hi, hl, hk⟩ | ⟨pre, hS, c, hi, hl, hk⟩)⟩
      · exact ⟨none, _, run_endLoop (P := P) hl (by simp [rec_, recOf]), hdone _ xs _ (Nat.le_refl _) hS (put hi hl rfl) ((World.putObj_heap_other (by omega)).trans hk)⟩
      · exact ⟨some c, _, run_endLoop (P := P) hl (by simp [rec_, recOf]), hstop _ c pre _ (Nat.le_refl _) hS ((hIx c).putObj _ hi (by omega) hl rfl) ((World.putObj_heap_other (by omega)).trans hk)⟩
theorem RelH.grown2 {σ : Sg} {h : List AObj} {W W' : World} {row : Option Nat} (hr : RelH P σ h W) (hg : W.grownBy W' row) (hn : ∀ r, row = some r → ¬ img σ h r ∧ ∃ o : Obj, W.heap[r]? = some o ∧ o.isCells = false) : RelH P σ h W' := by
  refine ⟨⟨hr.lt, fun b o hd ho hl => (hr.blk b o hd ho hl).heap_eq (fun hc => hg.block _ (hr.img_lt ⟨b, o, hd, ho, hl, hc, rfl⟩) (fun e => (hn _ e.symm).1 ⟨b, o, hd, ho, hl, hc, rfl⟩)), hr.inj, hr.wfo⟩, fun x hx => ?_⟩
  obtain ⟨⟨t, f, e⟩, h2⟩ := hr.amb x hx
  refine ⟨⟨t, f, (hg.block _ (hr.amb.lt hx) (fun e' => ?_)).trans e⟩, h2⟩
  obtain ⟨-, o, k1, k2⟩ := hn _ e'.symm
  rw [e] at k1; cases k1; simp [Obj.isCells] at k2
theorem Went.grown2 {σ σ' : Sg} {h h' : List AObj} {w W W' : World} {row : Option Nat} (q : Went P σ h w σ' h' W) (hg : W.grownBy W' row) (hn : ∀ r, row = some r → w.heap.size ≤ r ∧ ¬ Go.Abs.img σ' h' r ∧ ∃ o : Obj, W.heap[r]? = some o ∧ o.isCells = false) : Went P σ h w σ' h' W' := by
  have hsz := q.frm.size
  exact ⟨q.rel.grown2 hg (fun r e => (hn r e).2), q.full, ⟨hg.os.trans q.frm.os, hg.tape.trans q.frm.tape, hg.output.trans q.frm.output, Nat.le_trans hsz hg.size, fun r hr hm =>
    (hg.block r (by omega) (fun e => by have := (hn r e.symm).1; omega)).trans (q.frm.block r hr hm)⟩, q.img, q.wim⟩
/-- the maps in H lay ahead, in h -/
def oldB (n0 : Nat) (h H : List AObj) : Bool := (List.range H.length).all fun b => match H[b]?, h[b]? with
  | some o, some o' => o.row || (decide (b < n0) && !o'.row)
  | some o, none => o.row
  | none, _ => true
theorem oldB_spec {n0 : Nat} {h H : List AObj} (k : oldB n0 h H = true) {b : Nat} {o : AObj} (h1 : H[b]? = some o) (h2 : o.row = false) : b < n0 ∧ ∃ o', h[b]? = some o' ∧ o'.row = false := by
  have := List.all_eq_true.1 k b (List.mem_range.2 (List.getElem?_eq_some_iff.1 h1).1)
  rw [h1] at this
  cases h3 : h[b]? with
  | none => rw [h3] at this; simp [h2] at this
  | some o' => rw [h3] at this; simp [h2] at this; exact ⟨this.1, o', rfl, this.2⟩
theorem live_of_row {o : AObj} (h : o.row = false) : o.live = true := by cases o <;> simp_all [AObj.row, AObj.live]
def MvYields {α : Type} (P : Program) (gf : FuncId) (lb : List AV) (hc : List AObj) (enc : α → List Value) (xs : List α) : Prop :=
  Callable P gf ∧ ∀ σ w, Full σ hc → RelH P σ hc w → wfL σ lb →
    MvStops Fence.wide 3 P gf (denL σ lb).toArray (fun x => (enc x).toArray) (fun W W' => RelH P σ hc W → RelH P σ hc W') (fun ys => ys = xs) (fun pre => pre ≠ [] ∧ pre <+: xs) (fun pre => pre <+: xs) w
section
variable {α : Type} {n0 : Nat} {g : Operand} {ps : Array Tmp} {hd body : Code} {ms : List (Nat × Nat)} {rt : α → Tm} {tm tm1 : Tm} {h hcw : List AObj} {gf : FuncId} {lb lbc : List AV} {ι keep : List Nat} {enc : α → List Value} {xs : List α} {H Hx : List α → List AObj} {X : List α → AExit} {stop : List α → Bool}
/-- a loop over a method value: its state is told by the values that came so far -/
structure RangeMv (P : Program) (n0 : Nat) (g : Operand) (ps : Array Tmp) (hd body : Code) (ms : List (Nat × Nat)) (rt : α → Tm) (tm tm1 : Tm) (h hcw : List AObj) (gf : FuncId) (lb lbc : List AV) (ι keep : List Nat) (enc : α → List Value) (xs : List α) (H Hx : List α → List AObj) (X : List α → AExit) (stop : List α → Bool) : Prop where
  ren : renT (List.range n0) (keepT keep 0 tm) = tm1
  n0le : n0 ≤ h.length
  gv : evalA tm1 g = some (.mv (.func gf) lb)
  lbv : invL ι lb = some lbc
  nd : nodupB ι = true
  ilt : ι.all (fun b => decide (b < n0)) = true
  yields : MvYields P gf lbc (hcw.map (AObj.setW false)) enc xs
  H0 : H [] = h
  it : ∀ pre, invH ι (H pre) ι = some hcw
  len : ∀ pre, n0 ≤ (H pre).length
  lenx : ∀ pre, n0 ≤ (Hx pre).length
  old : ∀ pre, oldB n0 h (H pre) = true
  oldx : ∀ pre, oldB n0 h (Hx pre) = true
  bodyOk : noRange body = true
  encl : ∀ x, (enc x).length = ps.size
  head : Moves hd ms
  rtv : ∀ x, mvT ms (setPs tm1 ps.toList (enc x)) = some (rt x)
  round : ∀ pre x, pre ++ [x] <+: xs → (stop (pre ++ [x]) = false → ∃ T, ARun P n0 body (rt x) (H pre) .normal T (H (pre ++ [x]))) ∧
    (stop (pre ++ [x]) = true → X (pre ++ [x]) ≠ .normal ∧ ∃ T, ARun P n0 body (rt x) (H pre) (X (pre ++ [x])) T (Hx (pre ++ [x])))
theorem RangeMv.run (R : RangeMv P n0 g ps hd body ms rt tm tm1 h hcw gf lb lbc ι keep enc xs H Hx X stop) {e : AExit} {h' : List AObj} (hn' : n0 ≤ h'.length)
    (hall : (∀ k, k < xs.length → stop (xs.take (k + 1)) = false) → e = .normal ∧ h' = H xs)
    (hone : ∀ k, k < xs.length → (∀ j, j < k → stop (xs.take (j + 1)) = false) → stop (xs.take (k + 1)) = true → e = X (xs.take (k + 1)) ∧ h' = Hx (xs.take (k + 1))) :
    ARun P n0 (.rangeFunc g ps hd body) tm h e tm1 h' := by
  intro _
  refine ⟨hn', fun r dl σ w a hq hf hr ht => ?_⟩
  obtain rfl : r = none := hq.resolve_right (by simp [noRange])
  have hdomr : ∀ b ∈ List.range n0, σ.dom b := fun b hb => (hf b).2 (Nat.lt_of_lt_of_le (List.mem_range.1 hb) R.n0le)
  have hloc : ∀ b, b < n0 → (σ.via (List.range n0)).loc b = σ.loc b := fun b hb => by
    show σ.loc ((List.range n0).getD b 0) = σ.loc b
    rw [List.getD_eq_getElem?_getD, List.getElem?_range hb]; rfl
  have ht1 : TR dl (σ.via (List.range n0)) tm1 a := by
    rw [← R.ren]
    refine ⟨ht.defers, by rw [renT_length, keepT_length]; exact ht.size, fun t y hy => ?_⟩
    obtain ⟨x, hx, hxy⟩ := renT_get hy
    obtain ⟨g1, g2⟩ := ht.get t x (keepT_get hx)
    obtain ⟨i1, i2⟩ := inv_den (σ := σ) hxy
    exact ⟨by rw [i1]; exact g1, i2 g2⟩
  have hext : ∀ {σ' : Sg} {h1 : List AObj}, n0 ≤ h1.length → Full σ' h1 → Keeps n0 σ σ' → Ext (σ.via (List.range n0)) σ' := fun {σ' h1} hl hf' hk b hb => by
    have hb : b < (List.range n0).length := hb
    rw [List.length_range] at hb
    exact ⟨(hf' b).2 (Nat.lt_of_lt_of_le hb hl), by rw [hk b hb, hloc b hb]⟩
  have hts : ∀ {σ' : Sg} {h1 : List AObj}, n0 ≤ h1.length → Full σ' h1 → Keeps n0 σ σ' → TR dl σ' tm1 a := fun hl hf' hk => ht1.ext (hext hl hf' hk)
  have hilt : ∀ b ∈ ι, b < n0 := fun b hb => of_decide_eq_true (List.all_eq_true.1 R.ilt b hb)
  have hnd := nodupB_spec R.nd
  have hvia : ∀ {σ' : Sg} {hx : List AObj} {W : World}, Keeps n0 σ σ' → RelH P (σ'.via ι) hx W → RelH P (σ.via ι) hx W := fun {σ' hx W} hk hr =>
    relH_congr (σ1 := σ'.via ι) (σ2 := σ.via ι) (fun b hb => ⟨hb, by
      have hb : b < ι.length := hb
      show σ.loc (ι.getD b 0) = σ'.loc (ι.getD b 0)
      rw [List.getD_eq_getElem?_getD, List.getElem?_eq_getElem hb]
      exact (hk _ (hilt _ (List.getElem_mem hb))).symm⟩) (fun b hb => hb) hr
  have hweak : Weak hcw (hcw.map (AObj.setW false)) := by
    refine ⟨by simp, fun b o' ho => ?_⟩
    rw [List.getElem?_map, Option.map_eq_some_iff] at ho
    obtain ⟨o, k1, k2⟩ := ho
    exact ⟨o, k1, .inr k2.symm⟩
  have hit : ∀ {σ' : Sg} {pre : List α} {W : World}, Keeps n0 σ σ' → Full σ' (H pre) → RelH P σ' (H pre) W → RelH P (σ.via ι) (hcw.map (AObj.setW false)) W := fun {σ' pre W} hk hf' hr' =>
    hweak.rel (hvia hk (hr'.via (fun b hb => (hf' b).2 (Nat.lt_of_lt_of_le (hilt b hb) (R.len pre))) hnd (R.it pre)))
  have hH0 := R.H0
  have hr0 : RelH P σ (H []) w := by rw [hH0]; exact hr
  have hf0 : Full σ (H []) := by rw [hH0]; exact hf
  have hrι := hit (Keeps.refl n0 σ) hf0 hr0
  have hlen : hcw.length = ι.length := (invH_get (σ := σ) (R.it [])).1
  obtain ⟨l1, l2⟩ := invL_den (σ := σ) R.lbv
  obtain ⟨g1, g2⟩ := ht1.eval g _ R.gv
  have g2 : wfL (σ.via (List.range n0)) lb := g2
  have heσ : Ext (σ.via (List.range n0)) σ := hext R.n0le hf (Keeps.refl _ _)
  have gval : a.eval g = .func (.func gf) (denL (σ.via ι) lbc).toArray #[] := by
    rw [g1, l1, denL_ext heσ lb g2]; rfl
  have hseq := R.yields.2 (σ.via ι) w (fun b => by rw [List.length_map, hlen]; exact Iff.rfl) hrι (l2 (wfL_ext heσ lb g2))
  -- what is laid behind the loop's start, and is no cells, is none of the blocks that are told
  have noimg : ∀ {σ' : Sg} {H' : List AObj} {W : World}, oldB n0 h H' = true → RelH P σ' H' W → Keeps n0 σ σ' → ∀ (r : Nat) (o : Obj), w.heap.size ≤ r → W.heap[r]? = some o → o.isCells = false → ¬ img σ' H' r := by
    rintro σ' H' W ho hr' hk r o hr1 hr2 hr3 ⟨b, x, k1, k2, k3, k4, rfl⟩
    cases hx : x.row with
    | true =>
      obtain ⟨ob, q1, q2⟩ := (hr'.blk b x k1 k2 k3).rep k4
      obtain ⟨a, t, fr, rfl, -⟩ := (Rep.row hx).1 q2
      rw [hr2] at q1; cases q1; simp [Obj.isCells] at hr3
    | false =>
      obtain ⟨hb, o', m1, m2⟩ := oldB_spec ho k2 hx
      have hd : σ.dom b := (hf b).2 (Nat.lt_of_lt_of_le hb R.n0le)
      have hB := hr.blk b o' hd m1 (live_of_row m2)
      have := hr.img_lt ⟨b, o', hd, m1, live_of_row m2, (hB.it m2).1, rfl⟩
      have e : σ'.loc b = σ.loc b := hk b hb
      have : (σ'.loc b).at_ < w.heap.size := by rw [e]; exact this
      have hr1 : w.heap.size ≤ (σ'.loc b).at_ := hr1
      omega
  let I : List α → World → Prop := fun pre W => (∀ k, k < pre.length → stop (pre.take (k + 1)) = false) ∧ ∃ σ', Went P σ h w σ' (H pre) W ∧ Keeps n0 σ σ'
  let Ix : Code → List α → World → Prop := fun c pre W => (∀ k, k + 1 < pre.length → stop (pre.take (k + 1)) = false) ∧ stop pre = true ∧ c = jump (X pre) ∧ ∃ σ', Went P σ h w σ' (Hx pre) W ∧ Keeps n0 σ σ'
  have h00 : I [] w := ⟨fun k hk => by simp at hk, σ, by rw [hH0]; exact Went.refl hr hf, Keeps.refl _ _⟩
  have hmark : ∀ {D : Nat} {W : World}, w.heap.size ≤ D → W.heap[D]? = some (.deferred (some [])) → ∀ {σ' : Sg} {h1 : List AObj}, n0 ≤ h1.length → Full σ' h1 → Keeps n0 σ σ' →
      TRW dl w σ' tm1 { a with defers := { target := .collected D, args := #[] } :: a.defers } W := fun {D W} hD hd {σ' h1} hl hf' hk => by
    have t := hts hl hf' hk
    exact ⟨[D], ⟨by simp, fun E hE => by rw [List.mem_singleton.1 hE]; exact ⟨hD, hd⟩⟩, by show _ :: a.defers = _; rw [t.defers]; rfl, t.size, t.get⟩
  refine wpIn_any (n := 4) ?_
  refine rangeMv (F := wideR none) (hro := rfl) (hg := gval) (hFg := trivial) (eg := R.yields.1.enters) (hseq := hseq)
    (hKt := fun h1 h2 h3 => h2 (h1 h3)) (hKb := fun W l o o' hl ho hc hrel => hrel.grown2 (grownBy_putObj' W l o') (fun r e => by cases e; exact ⟨fun hi => by have := hrι.img_lt hi; omega, o, ho, hc⟩)) (hps := fun x => by simpa using R.encl x)
    (I := I) (Ix := Ix) (hI := fun pre W W' row hi hg' hrw => ⟨hi.1, by obtain ⟨σ', q, k⟩ := hi.2; exact ⟨σ', q.grown2 hg' (fun r e => by obtain ⟨j1, o, j2, j3⟩ := hrw r e; exact ⟨j1, noimg (R.old pre) q.rel k r o j1 j2 j3, o, j2, j3⟩), k⟩⟩)
    (hIx := fun c pre W W' row hi hg' hrw => ⟨hi.1, hi.2.1, hi.2.2.1, by obtain ⟨σ', q, k⟩ := hi.2.2.2; exact ⟨σ', q.grown2 hg' (fun r e => by obtain ⟨j1, o, j2, j3⟩ := hrw r e; exact ⟨j1, noimg (R.oldx pre) q.rel k r o j1 j2 j3, o, j2, j3⟩), k⟩⟩)
    (h0 := h00) (a₁ := fun x => mvAct ms { tmps := (ps.zip (enc x).toArray).foldl (fun t (p, v) => t.setIfInBounds p v) a.tmps, defers := [] })
    (hassign := fun l x W K hK => wpIn_any (r := some l) (n := 0) (R.head.wp hK)) (hbody := ?hbody) (hdone := ?hdone) (hstop := ?hstop)
  case hbody =>
    rintro l pre x W ⟨i1, σ', q, k⟩ hlt
    have hfl : n0 ≤ (H pre).length := R.len pre
    have ht' := mvT_TR (R.rtv x) (setPs_TR (hts hfl q.full k) ps (enc x))
    have nocell : ∀ {W' : World}, Frm (wimg σ' (H pre)) W W' → KeepsFrom w.heap.size W W' := fun {W'} hf' => ⟨hf'.size, fun j o hB hj hc => by
      rw [hf'.block j (Array.getElem?_eq_some_iff.1 hj).1 (fun hi => noimg (R.old pre) q.rel k j o hB hj hc (wimg_img hi))]
      exact hj⟩
    obtain ⟨r1, r2⟩ := R.round pre x hlt
    cases hs : stop (pre ++ [x]) with
    | false =>
      obtain ⟨T, hrun⟩ := r1 hs
      refine wpIn_mono (wpIn_any (n := 0) ((hrun hfl).2 (some l) [] σ' W _ (.inr R.bodyOk) q.full q.rel ht')) ?_
      rintro y a' W' ⟨rfl, σ'', q2, k2, -⟩
      refine ⟨nocell q2.frm, fun _ => hit (k.trans k2) q2.full q2.rel, fun j hj => ?_, σ'', q.trans q2, k.trans k2⟩
      rw [List.length_append, List.length_singleton] at hj
      by_cases hj' : j < pre.length
      · rw [List.take_append_of_le_length (by omega)]; exact i1 j hj'
      · have : j = pre.length := by omega
        subst this
        rw [List.take_of_length_le (by simp)]; exact hs
    | true =>
      obtain ⟨hne, T, hrun⟩ := r2 hs
      refine wpIn_mono (wpIn_any (n := 0) ((hrun hfl).2 (some l) [] σ' W _ (.inr R.bodyOk) q.full q.rel ht')) ?_
      rintro y a' W' ⟨rfl, σ'', q2, k2, -⟩
      have hx : ∀ c, c = jump (X (pre ++ [x])) → Ix c (pre ++ [x]) W' := fun c hc => ⟨fun j hj => by
        rw [List.length_append, List.length_singleton] at hj
        rw [List.take_append_of_le_length (by omega)]; exact i1 j (by omega), hs, hc, σ'', q.trans q2, k.trans k2⟩
      cases hX : X (pre ++ [x]) with
      | normal => exact absurd hX hne
      | exit id => exact ⟨nocell q2.frm, hx _ (by rw [hX]; rfl)⟩
      | ret => exact ⟨nocell q2.frm, hx _ (by rw [hX]; rfl)⟩
  case hdone =>
    rintro D ys W hD rfl ⟨i1, σ', q, k⟩ hd
    obtain ⟨rfl, rfl⟩ := hall i1
    exact ⟨rfl, σ', q, k, hmark hD hd (R.len _) q.full k⟩
  case hstop =>
    rintro D c pre W hD ⟨hne, hpre⟩ ⟨i1, i2, rfl, σ', q, k⟩ hd
    obtain ⟨m, hm⟩ : ∃ m, pre.length = m + 1 := by
      cases pre with
      | nil => exact absurd rfl hne
      | cons y l => exact ⟨l.length, rfl⟩
    have hpx : pre = xs.take (m + 1) := by rw [← hm]; exact (List.prefix_iff_eq_take.1 hpre)
    have hlt : m < xs.length := by have := hpre.length_le; omega
    obtain ⟨rfl, rfl⟩ := hone m hlt (fun j hj => by
      have := i1 j (by omega)
      rw [hpx, List.take_take] at this
      rw [show min (j + 1) (m + 1) = j + 1 by omega] at this
      exact this) (by rw [← hpx]; exact i2)
    rw [← hpx]
    exact jump_wp ⟨rfl, σ', q, k, hmark hD hd (R.lenx _) q.full k⟩
/-- no round leaves -/
theorem RangeMv.all (R : RangeMv P n0 g ps hd body ms rt tm tm1 h hcw gf lb lbc ι keep enc xs H Hx X stop) (hs : ∀ k, k < xs.length → stop (xs.take (k + 1)) = false) :
    ARun P n0 (.rangeFunc g ps hd body) tm h .normal tm1 (H xs) :=
  R.run (R.len xs) (fun _ => ⟨rfl, rfl⟩) (fun k hk _ h => by rw [hs k hk] at h; simp at h)
/-- a round leaves -/
theorem RangeMv.one (R : RangeMv P n0 g ps hd body ms rt tm tm1 h hcw gf lb lbc ι keep enc xs H Hx X stop) {k : Nat} (hk : k < xs.length) (hs : ∀ j, j < k → stop (xs.take (j + 1)) = false) (hx : stop (xs.take (k + 1)) = true) :
    ARun P n0 (.rangeFunc g ps hd body) tm h (X (xs.take (k + 1))) tm1 (Hx (xs.take (k + 1))) :=
  R.run (R.lenx _) (fun h => by rw [h k hk] at hx; simp at hx) (fun j hj h1 h2 => by
    have : j = k := by
      rcases Nat.lt_trichotomy j k with h | h | h
      · rw [hs j h] at h2; simp at h2
      · exact h
      · rw [h1 k h] at hx; simp at hx
    subst this; exact ⟨rfl, rfl⟩)
end
end Go.Abs
