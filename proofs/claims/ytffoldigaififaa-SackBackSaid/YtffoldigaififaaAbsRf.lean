import Derived.Test.YtffoldigaififaaAbsWg
import Derived.RangeFuncFrom
set_option linter.unusedVariables false
set_option linter.unusedSimpArgs false
/- Loops over functions. -/
namespace Go.Abs
open Go.RowKit
/-- an iterator, told over the blocks that it reaches (which it only reads): which values it hands to the loop's rounds -/
def AYields {α : Type} (P : Program) (gf : FuncId) (lb : List AV) (hc : List AObj) (enc : α → List Value) (xs : List α) (N : Nat) : Prop :=
  Callable P gf ∧ ∀ σ w, Full σ hc → RelH P σ hc w → wfL σ lb →
    SeqStopsK Fence.wide 3 P gf (denL σ lb).toArray (fun x => (enc x).toArray) (fun W W' => RelH P σ hc W → RelH P σ hc W') (fun ys => ys = xs) (fun pre => pre ≠ [] ∧ pre <+: xs) N w
theorem Callable.enters {P : Program} {f : FuncId} (h : Callable P f) : ∀ args w, (callFunc f args).run P w = .ok (.enter f args) w := by
  obtain ⟨fn, c1, c2, c3⟩ := h
  intro args w
  have n1 : ¬ fn.name = "runtime.NumGoroutine" := by simpa using c3
  have n2 : ¬ fn.body = none := by intro hb; rw [hb] at c2; simp at c2
  simp [callFunc, program, Sem.run, c1, n1, n2]
def setPs : Tm → List Nat → List Value → Tm
  | tm, p :: ps, v :: vs => setPs (tm.set p (some (.v v))) ps vs
  | tm, _, _ => tm
theorem setPs_fold {σ : Sg} : ∀ (ps : List Nat) (vs : List Value) (tm : Tm) (t : Array Value), TR [] σ tm { tmps := t, defers := [] } →
    TR [] σ (setPs tm ps vs) { tmps := (ps.zip vs).foldl (fun t pv => t.setIfInBounds pv.1 pv.2) t, defers := [] }
  | [], vs, tm, t, h => by simpa [setPs] using h
  | p :: ps, [], tm, t, h => by simpa [setPs] using h
  | p :: ps, v :: vs, tm, t, h => by
    have h1 := h.put (Ext.refl σ) (v := .v v) trivial (some p)
    exact setPs_fold ps vs _ _ h1
theorem setPs_TR {dl : List Deferred} {σ : Sg} {tm : Tm} {a : Act} (h : TR dl σ tm a) (ps : Array Tmp) (vs : List Value) :
    TR [] σ (setPs tm ps.toList vs) { tmps := (ps.zip vs.toArray).foldl (fun t (p, v) => t.setIfInBounds p v) a.tmps, defers := [] } := by
  have := setPs_fold (σ := σ) ps.toList vs tm a.tmps ⟨rfl, h.size, h.get⟩
  rw [← Array.foldl_toList, Array.toList_zip]
  exact this
theorem row_cells {P : Program} {σ : Sg} {h : List AObj} {w : World} (hr : RelH P σ h w) (hrow : h.all AObj.row = true) {r : Nat} (hi : img σ h r) : ∃ ob : Obj, w.heap[r]? = some ob ∧ ob.isCells = true := by
  obtain ⟨b, o, h1, h2, h3, h4, rfl⟩ := hi
  have hro : o.row = true := List.all_eq_true.1 hrow o (List.mem_of_getElem? h2)
  obtain ⟨ob, k1, k2⟩ := (hr.blk b o h1 h2 h3).rep h4
  obtain ⟨a, t, fr, rfl, -⟩ := (Rep.row hro).1 k2
  exact ⟨_, k1, rfl⟩
theorem RelH.grown {P : Program} {σ : Sg} {h : List AObj} {W W' : World} {row : Option Nat} (hr : RelH P σ h W) (hrow : h.all AObj.row = true) (hg : W.grownBy W' row) (hn : ∀ r, row = some r → ∃ o : Obj, W.heap[r]? = some o ∧ o.isCells = false) : RelH P σ h W' := by
  have keep : ∀ (r : Nat) (ob : Obj), W.heap[r]? = some ob → ob.isCells = true → W'.heap[r]? = W.heap[r]? := fun r ob e1 e2 =>
    hg.block r (Array.getElem?_eq_some_iff.1 e1).1 (fun e => by
      obtain ⟨o, k1, k2⟩ := hn r e.symm
      rw [e1] at k1; obtain rfl := Option.some.inj k1
      rw [e2] at k2; simp at k2)
  refine ⟨⟨hr.lt, fun b o hd ho hl => (hr.blk b o hd ho hl).heap_eq (fun hc => ?_), hr.inj, hr.wfo⟩, fun x hx => ?_⟩
  · obtain ⟨ob, k1, k2⟩ := row_cells hr hrow ⟨b, o, hd, ho, hl, hc, rfl⟩
    exact keep _ ob k1 k2
  · obtain ⟨⟨t, f, e⟩, h2⟩ := hr.amb x hx
    exact ⟨⟨t, f, (keep _ _ e rfl).trans e⟩, h2⟩
theorem Went.grown {P : Program} {σ σ' : Sg} {h h' : List AObj} {w W W' : World} {row : Option Nat} (q : Went P σ h w σ' h' W) (hrow : h'.all AObj.row = true) (hg : W.grownBy W' row) (hn : ∀ r, row = some r → w.heap.size ≤ r ∧ ∃ o : Obj, W.heap[r]? = some o ∧ o.isCells = false) : Went P σ h w σ' h' W' := by
  have hsz := q.frm.size
  exact ⟨q.rel.grown hrow hg (fun r e => (hn r e).2), q.full, ⟨hg.os.trans q.frm.os, hg.tape.trans q.frm.tape, hg.output.trans q.frm.output, Nat.le_trans hsz hg.size, fun r hr hm =>
    (hg.block r (by omega) (fun e => by have := (hn r e.symm).1; omega)).trans (q.frm.block r hr hm)⟩, q.img, q.wim⟩
/-- what a round's head does: slots are copied -/
def mvs : List Oper → Option (List (Nat × Nat))
  | [] => some []
  | o :: l => match o.op, o.dst, o.guard, mvs l with
    | .assign (.tmp p), some d, none, some r => some ((d, p) :: r)
    | _, _, _, _ => none
def mvAct : List (Nat × Nat) → Act → Act
  | [], a => a
  | (d, p) :: r, a => mvAct r (a.put (some d) (a.eval (.tmp p)))
def mvT : List (Nat × Nat) → Tm → Option Tm
  | [], tm => some tm
  | (d, p) :: r, tm => match evalA tm (.tmp p) with
    | some x => mvT r (tm.set d (some x))
    | none => none
theorem mvT_TR {dl : List Deferred} {σ : Sg} : ∀ {ms : List (Nat × Nat)} {tm tm' : Tm} {a : Act}, mvT ms tm = some tm' → TR dl σ tm a → TR dl σ tm' (mvAct ms a)
  | [], tm, tm', a, h, t => by simp only [mvT, Option.some.injEq] at h; subst h; exact t
  | (d, p) :: r, tm, tm', a, h, t => by
    simp only [mvT] at h
    split at h
    · rename_i x hx
      obtain ⟨e1, e2⟩ := t.eval _ _ hx
      have := t.put (Ext.refl σ) e2 (some d)
      rw [← e1] at this
      exact mvT_TR (ms := r) h this
    · simp at h
inductive Moves : Code → List (Nat × Nat) → Prop
  | skip : Moves .skip []
  | reg {id : Nat} {ops : Array Oper} {ms : List (Nat × Nat)} (h : mvs ops.toList = some ms) : Moves (.region id ops false) ms
theorem mvs_wp {P : Program} {r : Option Nat} {ops : Array Oper} {Q : Exit → Act → World → Prop} {w : World} : ∀ {l : List Oper} {ms : List (Nat × Nat)} {a : Act}, mvs l = some ms → Q .normal (mvAct ms a) w → wpListIn (wideR r) 0 P ops Q l a w
  | [], ms, a, h, q => by simp only [mvs, Option.some.injEq] at h; subst h; exact q
  | o :: l, ms, a, h, q => by
    simp only [mvs] at h
    split at h
    · rename_i p d r' ho hd hg hl
      simp only [Option.some.injEq] at h
      subst h
      unfold wpListIn
      have hw : Region.wanted o (yielded ops a.tmps) = true := by simp [Region.wanted, hg]
      rw [if_pos hw]
      refine ⟨fun _ _ => trivial, ?_⟩
      rw [Oper.semAt_eq _ _ _ (fun c => by rw [ho]; simp)]
      have e : (execOp a.eval o).run P w = .ok (.value (a.eval (.tmp p))) w := by simp [execOp, ho]
      rw [e]
      show wpListIn _ _ _ _ _ _ (a.put o.dst _) w
      rw [hd]
      exact mvs_wp hl q
    · simp at h
theorem Moves.wp {P : Program} {c : Code} {ms : List (Nat × Nat)} (h : Moves c ms) {r : Option Nat} {K : Act → World → Prop} {a : Act} {w : World} (hK : K (mvAct ms a) w) : c.wpIn (wideR r) 0 P (Exit.then K (fun _ _ _ => False)) a w := by
  cases h with
  | skip => exact wpIn_skip hK
  | reg h => exact wpIn_region_list (mvs_wp h hK)
def jump : AExit → Code
  | .normal => .skip | .exit id => .exit id | .ret => .ret
theorem jump_wp {P : Program} {e : AExit} {r : Option Nat} {n : Nat} {Q : Exit → Act → World → Prop} {a : Act} {w : World} (h : Q e.out a w) : (jump e).wpIn (wideR r) n P Q a w := by
  cases e with
  | normal => exact wpIn_skip h
  | exit id => exact wpIn_exit h
  | ret => exact wpIn_ret h
theorem wpIn_any {P : Program} {c : Code} {r : Option Nat} {n m : Nat} {Q : Exit → Act → World → Prop} {a : Act} {w : World} (h : c.wpIn (wideR r) n P Q a w) : c.wpIn (wideR r) m P Q a w :=
  fun b k cs hro hb _ => h b k cs hro hb (room_wideR _ _)
section
variable {α : Type} {P : Program} {n0 N : Nat} {g : Operand} {ps : Array Tmp} {hd body : Code} {ms : List (Nat × Nat)} {rt : α → Tm} {tm tm1 : Tm} {h hcw : List AObj} {gf : FuncId} {lb lbc : List AV} {ι keep : List Nat} {enc : α → List Value} {xs : List α} {H Hx : List α → List AObj} {X : List α → AExit} {stop : List α → Bool}
/-- a loop over an iterator: its state is told by the values that came so far -/
structure RangeLoop (P : Program) (n0 N : Nat) (g : Operand) (ps : Array Tmp) (hd body : Code) (ms : List (Nat × Nat)) (rt : α → Tm) (tm tm1 : Tm) (h hcw : List AObj) (gf : FuncId) (lb lbc : List AV) (ι keep : List Nat) (enc : α → List Value) (xs : List α) (H Hx : List α → List AObj) (X : List α → AExit) (stop : List α → Bool) : Prop where
  ren : renT (List.range n0) (keepT keep 0 tm) = tm1
  n0le : n0 ≤ h.length
  gv : evalA tm1 g = some (.fn (.func gf) lb)
  lbv : invL ι lb = some lbc
  nd : nodupB ι = true
  ilt : ι.all (fun b => decide (b < n0)) = true
  yields : AYields P gf lbc (hcw.map (AObj.setW false)) enc xs N
  H0 : H [] = h
  it : ∀ pre, invH ι (H pre) ι = some hcw
  len : ∀ pre, n0 ≤ (H pre).length
  lenx : ∀ pre, n0 ≤ (Hx pre).length
  row : ∀ pre, (H pre).all AObj.row = true
  rowx : ∀ pre, (Hx pre).all AObj.row = true
  rowc : hcw.all AObj.row = true
  bodyOk : noRange body = true
  encl : ∀ x, (enc x).length = ps.size
  head : Moves hd ms
  rtv : ∀ x, mvT ms (setPs tm1 ps.toList (enc x)) = some (rt x)
  round : ∀ pre x, pre.length < N → (stop (pre ++ [x]) = false → ∃ T, ARun P n0 body (rt x) (H pre) .normal T (H (pre ++ [x]))) ∧
    (stop (pre ++ [x]) = true → X (pre ++ [x]) ≠ .normal ∧ ∃ T, ARun P n0 body (rt x) (H pre) (X (pre ++ [x])) T (Hx (pre ++ [x])))

theorem RangeLoop.run (R : RangeLoop P n0 N g ps hd body ms rt tm tm1 h hcw gf lb lbc ι keep enc xs H Hx X stop) {e : AExit} {h' : List AObj} (hn' : n0 ≤ h'.length)
    (hall : (∀ k, k < xs.length → stop (xs.take (k + 1)) = false) → e = .normal ∧ h' = H xs)
    (hone : ∀ k, k < xs.length → (∀ j, j < k → stop (xs.take (j + 1)) = false) → stop (xs.take (k + 1)) = true → e = X (xs.take (k + 1)) ∧ h' = Hx (xs.take (k + 1))) :
    ARun P n0 (.rangeFunc g ps hd body) tm h e tm1 h' := by
  intro _
  refine ⟨hn', fun r dl σ w a hq hf hr ht => ?_⟩
  obtain rfl : r = none := hq.resolve_right (by simp [noRange])
  -- the slots that stay
  have hdomr : ∀ b ∈ List.range n0, σ.dom b := fun b hb => (hf b).2 (Nat.lt_of_lt_of_le (List.mem_range.1 hb) R.n0le)
  have hloc : ∀ b, b < n0 → (σ.via (List.range n0)).loc b = σ.loc b := fun b hb => by
    show σ.loc ((List.range n0).getD b 0) = σ.loc b
    rw [List.getD_eq_getElem?_getD, List.getElem?_range hb]; rfl
  have ht1 : TR dl (σ.via (List.range n0)) tm1 a := by
    rw [← R.ren]
    refine ⟨ht.defers, by rw [renT_length, keepT_length]; exact ht.size, fun t y hy => ?_⟩
    obtain ⟨x, hx, hxy⟩ := renT_get hy
    obtain ⟨g1, g2⟩ := ht.get t x (keepT_get hx)
    obtain ⟨i1, i2⟩ := inv_den (σ := σ) hxy
    exact ⟨by rw [i1]; exact g1, i2 g2⟩
  have hext : ∀ {σ' : Sg} {h1 : List AObj}, n0 ≤ h1.length → Full σ' h1 → Keeps n0 σ σ' → Ext (σ.via (List.range n0)) σ' := fun {σ' h1} hl hf' hk b hb => by
    have hb : b < (List.range n0).length := hb
    rw [List.length_range] at hb
    exact ⟨(hf' b).2 (Nat.lt_of_lt_of_le hb hl), by rw [hk b hb, hloc b hb]⟩
  have hts : ∀ {σ' : Sg} {h1 : List AObj}, n0 ≤ h1.length → Full σ' h1 → Keeps n0 σ σ' → TR dl σ' tm1 a := fun hl hf' hk => ht1.ext (hext hl hf' hk)
  -- the iterator
  have hilt : ∀ b ∈ ι, b < n0 := fun b hb => of_decide_eq_true (List.all_eq_true.1 R.ilt b hb)
  have hnd := nodupB_spec R.nd
  have hvia : ∀ {σ' : Sg} {hx : List AObj} {W : World}, Keeps n0 σ σ' → RelH P (σ'.via ι) hx W → RelH P (σ.via ι) hx W := fun {σ' hx W} hk hr =>
    relH_congr (σ1 := σ'.via ι) (σ2 := σ.via ι) (fun b hb => ⟨hb, by
      have hb : b < ι.length := hb
      show σ.loc (ι.getD b 0) = σ'.loc (ι.getD b 0)
      rw [List.getD_eq_getElem?_getD, List.getElem?_eq_getElem hb]
      exact (hk _ (hilt _ (List.getElem_mem hb))).symm⟩) (fun b hb => hb) hr
  have hweak : Weak hcw (hcw.map (AObj.setW false)) := by
    refine ⟨by simp, fun b o' ho => ?_⟩
    rw [List.getElem?_map, Option.map_eq_some_iff] at ho
    obtain ⟨o, k1, k2⟩ := ho
    exact ⟨o, k1, .inr k2.symm⟩
  have hit : ∀ {σ' : Sg} {pre : List α} {W : World}, Keeps n0 σ σ' → Full σ' (H pre) → RelH P σ' (H pre) W → RelH P (σ.via ι) (hcw.map (AObj.setW false)) W := fun {σ' pre W} hk hf' hr' =>
    hweak.rel (hvia hk (hr'.via (fun b hb => (hf' b).2 (Nat.lt_of_lt_of_le (hilt b hb) (R.len pre))) hnd (R.it pre)))
  have hH0 := R.H0
  have hr0 : RelH P σ (H []) w := by rw [hH0]; exact hr
  have hf0 : Full σ (H []) := by rw [hH0]; exact hf
  have hrι := hit (Keeps.refl n0 σ) hf0 hr0
  have hlen : hcw.length = ι.length := (invH_get (σ := σ) (R.it [])).1
  obtain ⟨l1, l2⟩ := invL_den (σ := σ) R.lbv
  obtain ⟨g1, g2⟩ := ht1.eval g _ R.gv
  have g2 : wfL (σ.via (List.range n0)) lb := g2
  have heσ : Ext (σ.via (List.range n0)) σ := hext R.n0le hf (Keeps.refl _ _)
  have gval : a.eval g = .func (.func gf) #[] (denL (σ.via ι) lbc).toArray := by
    rw [g1, l1, denL_ext heσ lb g2]; rfl
  have hseq := R.yields.2 (σ.via ι) w (fun b => by rw [List.length_map, hlen]; exact Iff.rfl) hrι (l2 (wfL_ext heσ lb g2))
  -- what holds between rounds
  let I : List α → World → Prop := fun pre W => (∀ k, k < pre.length → stop (pre.take (k + 1)) = false) ∧ ∃ σ', Went P σ h w σ' (H pre) W ∧ Keeps n0 σ σ'
  let Ix : Code → List α → World → Prop := fun c pre W => (∀ k, k + 1 < pre.length → stop (pre.take (k + 1)) = false) ∧ stop pre = true ∧ c = jump (X pre) ∧ ∃ σ', Went P σ h w σ' (Hx pre) W ∧ Keeps n0 σ σ'
  have h00 : I [] w := ⟨fun k hk => by simp at hk, σ, by rw [hH0]; exact Went.refl hr hf, Keeps.refl _ _⟩
  have hmark : ∀ {D : Nat} {W : World}, w.heap.size ≤ D → W.heap[D]? = some (.deferred (some [])) → ∀ {σ' : Sg} {h1 : List AObj}, n0 ≤ h1.length → Full σ' h1 → Keeps n0 σ σ' →
      TRW dl w σ' tm1 { a with defers := { target := .collected D, args := #[] } :: a.defers } W := fun {D W} hD hd {σ' h1} hl hf' hk => by
    have t := hts hl hf' hk
    exact ⟨[D], ⟨by simp, fun E hE => by rw [List.mem_singleton.1 hE]; exact ⟨hD, hd⟩⟩, by show _ :: a.defers = _; rw [t.defers]; rfl, t.size, t.get⟩
  refine wpIn_any (n := 4) ?_
  refine wpIn_rangeFunc_ownF (F := wideR none) (n := 4) (hro := rfl) (h1 := by decide) (hg := gval) (hFg := trivial) (eg := R.yields.1.enters) (hseq := hseq)
    (hKt := fun h1 h2 h3 => h2 (h1 h3)) (hKb := fun W l o o' hl ho hc _ hrel => hrel.grown ?hrowι (grownBy_putObj' W l o') (fun r e => by cases e; exact ⟨o, ho, hc⟩)) (hb0 := Below.refl _ _) (hps := fun x => by simpa using R.encl x)
    (I := I) (Ix := Ix) (hI := fun pre W W' row hi hg' hrw => ⟨hi.1, by obtain ⟨σ', q, k⟩ := hi.2; exact ⟨σ', q.grown (R.row pre) hg' hrw, k⟩⟩)
    (hIx := fun c pre W W' row hi hg' hrw => ⟨hi.1, hi.2.1, hi.2.2.1, by obtain ⟨σ', q, k⟩ := hi.2.2.2; exact ⟨σ', q.grown (R.rowx pre) hg' hrw, k⟩⟩)
    (h0 := h00) (a₁ := fun x => mvAct ms { tmps := (ps.zip (enc x).toArray).foldl (fun t (p, v) => t.setIfInBounds p v) a.tmps, defers := [] })
    (hassign := fun l x W K hK => wpIn_any (r := some l) (n := 0) (R.head.wp hK)) (hbody := ?hbody) (hdone := ?hdone) (hstop := ?hstop)
  case hrowι => rw [List.all_map]; simpa [Function.comp_def] using R.rowc
  case hbody =>
    rintro l pre x W ⟨i1, σ', q, k⟩ hlt
    have hfl : n0 ≤ (H pre).length := R.len pre
    have ht' := mvT_TR (R.rtv x) (setPs_TR (hts hfl q.full k) ps (enc x))
    have nocell : ∀ {W' : World}, Frm (wimg σ' (H pre)) W W' → KeepsOthers W W' := fun {W'} hf' => ⟨hf'.size, fun j o hj hc => by
      rw [hf'.block j (Array.getElem?_eq_some_iff.1 hj).1 (fun hi => by
        obtain ⟨ob, k1, k2⟩ := row_cells q.rel (R.row pre) (wimg_img hi)
        rw [hj] at k1; obtain rfl := Option.some.inj k1
        rw [hc] at k2; simp at k2)]
      exact hj⟩
    obtain ⟨r1, r2⟩ := R.round pre x hlt
    cases hs : stop (pre ++ [x]) with
    | false =>
      obtain ⟨T, hrun⟩ := r1 hs
      refine wpIn_mono (wpIn_any (n := 0) ((hrun hfl).2 (some l) [] σ' W _ (.inr R.bodyOk) q.full q.rel ht')) ?_
      rintro y a' W' ⟨rfl, σ'', q2, k2, -⟩
      refine ⟨nocell q2.frm, fun _ => hit (k.trans k2) q2.full q2.rel, fun j hj => ?_, σ'', q.trans q2, k.trans k2⟩
      rw [List.length_append, List.length_singleton] at hj
      by_cases hj' : j < pre.length
      · rw [List.take_append_of_le_length (by omega)]; exact i1 j hj'
      · have : j = pre.length := by omega
        subst this
        rw [List.take_of_length_le (by simp)]; exact hs
    | true =>
      obtain ⟨hne, T, hrun⟩ := r2 hs
      refine wpIn_mono (wpIn_any (n := 0) ((hrun hfl).2 (some l) [] σ' W _ (.inr R.bodyOk) q.full q.rel ht')) ?_
      rintro y a' W' ⟨rfl, σ'', q2, k2, -⟩
      have hx : ∀ c, c = jump (X (pre ++ [x])) → Ix c (pre ++ [x]) W' := fun c hc => ⟨fun j hj => by
        rw [List.length_append, List.length_singleton] at hj
        rw [List.take_append_of_le_length (by omega)]; exact i1 j (by omega), hs, hc, σ'', q.trans q2, k.trans k2⟩
      cases hX : X (pre ++ [x]) with
      | normal => exact absurd hX hne
      | exit id => exact ⟨nocell q2.frm, hx _ (by rw [hX]; rfl)⟩
      | ret => exact ⟨nocell q2.frm, hx _ (by rw [hX]; rfl)⟩
  case hdone =>
    rintro D ys W hD rfl ⟨i1, σ', q, k⟩ hd
    obtain ⟨rfl, rfl⟩ := hall i1
    exact ⟨rfl, σ', q, k, hmark hD hd (R.len _) q.full k⟩
  case hstop =>
    rintro D c pre W hD ⟨hne, hpre⟩ ⟨i1, i2, rfl, σ', q, k⟩ hd
    obtain ⟨m, hm⟩ : ∃ m, pre.length = m + 1 := by
      cases pre with
      | nil => exact absurd rfl hne
      | cons y l => exact ⟨l.length, rfl⟩
    have hpx : pre = xs.take (m + 1) := by rw [← hm]; exact (List.prefix_iff_eq_take.1 hpre)
    have hlt : m < xs.length := by have := hpre.length_le; omega
    obtain ⟨rfl, rfl⟩ := hone m hlt (fun j hj => by
      have := i1 j (by omega)
      rw [hpx, List.take_take] at this
      rw [show min (j + 1) (m + 1) = j + 1 by omega] at this
      exact this) (by rw [← hpx]; exact i2)
    rw [← hpx]
    exact jump_wp ⟨rfl, σ', q, k, hmark hD hd (R.lenx _) q.full k⟩
/-- no round leaves -/
theorem RangeLoop.all (R : RangeLoop P n0 N g ps hd body ms rt tm tm1 h hcw gf lb lbc ι keep enc xs H Hx X stop) (hs : ∀ k, k < xs.length → stop (xs.take (k + 1)) = false) :
    ARun P n0 (.rangeFunc g ps hd body) tm h .normal tm1 (H xs) :=
  R.run (R.len xs) (fun _ => ⟨rfl, rfl⟩) (fun k hk _ h => by rw [hs k hk] at h; simp at h)
/-- a round leaves -/
theorem RangeLoop.one (R : RangeLoop P n0 N g ps hd body ms rt tm tm1 h hcw gf lb lbc ι keep enc xs H Hx X stop) {k : Nat} (hk : k < xs.length) (hs : ∀ j, j < k → stop (xs.take (j + 1)) = false) (hx : stop (xs.take (k + 1)) = true) :
    ARun P n0 (.rangeFunc g ps hd body) tm h (X (xs.take (k + 1))) tm1 (Hx (xs.take (k + 1))) :=
  R.run (R.lenx _) (fun h => by rw [h k hk] at hx; simp at hx) (fun j hj h1 h2 => by
    have : j = k := by
      rcases Nat.lt_trichotomy j k with h | h | h
      · rw [hs j h] at h2; simp at h2
      · exact h
      · rw [h1 k h] at hx; simp at hx
    subst this; exact ⟨rfl, rfl⟩)
end
def rangesC : Code → List Code
  | .seq a b => rangesC a ++ rangesC b
  | .cond _ a b => rangesC a ++ rangesC b
  | .block _ c => rangesC c
  | .loop c => rangesC c
  | .scope c => rangesC c
  | .rangeFunc g ps x y => [.rangeFunc g ps x y]
  | _ => []
/-- the i-th loop over a function in a function's text, and its parts -/
def rg (fn : Func) (i : Nat) : Code := match fn.body with
  | some c => (rangesC c).getD i .skip
  | none => .skip
def rgG : Code → Operand | .rangeFunc g _ _ _ => g | _ => .tmp 0
def rgP : Code → Array Tmp | .rangeFunc _ p _ _ => p | _ => #[]
def rgH : Code → Code | .rangeFunc _ _ x _ => x | _ => .skip
def rgB : Code → Code | .rangeFunc _ _ _ y => y | _ => .skip
theorem ARun.fewer {P : Program} {n m : Nat} {c : Code} {tm tm' : Tm} {h h' : List AObj} {e : AExit} (a : ARun P m c tm h e tm' h') (hn : n ≤ m) (hm : m ≤ h.length) : ARun P n c tm h e tm' h' := by
  intro _
  obtain ⟨a1, a2⟩ := a hm
  refine ⟨Nat.le_trans hn a1, fun r dl σ w ac hq hf hr ht => wpIn_mono (a2 r dl σ w ac hq hf hr ht) ?_⟩
  rintro x a' w' ⟨rfl, σ', q1, q2, q3⟩
  exact ⟨rfl, σ', q1, q2.mono hn, q3⟩
theorem RelH.below {P : Program} {σ : Sg} {h : List AObj} {w W : World} (hr : RelH P σ h w) (hb : Below w.heap.size w W) : RelH P σ h W := by
  have fr : Frm (fun _ => False) w W := ⟨hb.os, hb.tape, hb.output, hb.size, fun r h1 _ => hb.block r h1⟩
  refine ⟨⟨hr.lt, fun b o hd ho hl => (hr.blk b o hd ho hl).heap_eq (fun hc => hb.block _ (hr.img_lt ⟨b, o, hd, ho, hl, hc, rfl⟩)), hr.inj, hr.wfo⟩, fun x hx => ⟨(hr.amb x hx).1.heap (hb.block _ (hr.amb.lt hx)), (hr.amb x hx).2⟩⟩
/-- a call that only reads and makes nothing that is handed back -/
theorem ACalls.quiet {P : Program} {f : FuncId} {args : List AV} {hc : List AObj} {res : AV} (h : ACalls P f args hc res [] []) (hro : hc.all (fun o => !o.wr) = true) {σ : Sg} {W : World} (hf : Full σ hc) (hr : RelH P σ hc W) (hw : wfL σ args) :
    CallsIn Fence.wide 2 P f (denL σ args).toArray W fun e W' => e = .returned (den σ res) ∧ wf σ res ∧ W.grownBy W' none ∧ RelH P σ hc W' := by
  have no : ∀ r, ¬ wimg σ hc r := by
    rintro r ⟨b, o, h1, h2, h3, h4, h5, h6⟩
    have := List.all_eq_true.1 hro o (List.mem_of_getElem? h2)
    rw [h5] at this; simp at this
  refine callsIn_wide.2 ((h.2 σ W hf hr hw).mono ?_)
  rintro e W' ⟨rs, hl, he, hv, hwent⟩
  have hl : rs = [] := List.length_eq_zero_iff.1 hl
  subst hl
  rw [Sg.more_nil] at he hv hwent
  simp only [applyUpd, List.append_nil] at hwent
  exact ⟨he, hv, ⟨hwent.frm.os, hwent.frm.tape, hwent.frm.output, hwent.frm.size, fun k hk _ => hwent.frm.block k hk (no k)⟩, hwent.rel⟩
end Go.Abs
