import Derived.Test.YtffoldigaififaaAbsL
import Derived.RangeFuncLeaves
import Derived.RangeFuncRecord
set_option linter.unusedVariables false
set_option linter.unusedSimpArgs false
/- Functions. -/
namespace Go.Abs
variable {dl : List Deferred}

theorem relH_congr {P : Program} {σ1 σ2 : Sg} {h : List AObj} {w : World} (he : Ext σ1 σ2) (hd : ∀ b, σ2.dom b → σ1.dom b) (hr : RelH P σ1 h w) : RelH P σ2 h w :=
  hr.step ⟨fun b hb => hr.lt b (hd b hb), fun b o hb ho hl => by
    rw [(he b (hd b hb)).2]
    exact (hr.blk b o (hd b hb) ho hl).ext he (hr.wfo b o (hd b hb) ho),
   fun b b' o o' h1 h2 h3 h4 h5 h6 c1 c2 hw h7 => by
    simp only [Sg.at_, (he b (hd b h1)).2, (he b' (hd b' h2)).2] at h7 c1 c2
    exact hr.inj b b' o o' (hd b h1) (hd b' h2) h3 h4 h5 h6 c1 c2 hw h7,
   fun b o hb ho => wfO_ext he o (hr.wfo b o (hd b hb) ho)⟩ (Frm.refl _ _) (fun r hi => .inl (by
    obtain ⟨b, o, h1, h2, h3, h4, h5, h6⟩ := hi
    have e := (he b (hd b h1)).2
    exact ⟨b, o, hd b h1, h2, h3, by rw [← e]; exact h4, h5, by rw [← h6]; unfold Sg.at_; rw [e]⟩))
/-- what is told in another way at a run's end -/
theorem ARun.popEnd {P : Program} {n : Nat} {c : Code} {orc orc' : List Orc} {tm tm1 tm2 : Tm} {h h1 h2 : List AObj} {e : AExit} (hrun : ARun P n c tm h e tm1 h1) (hp : popG P orc tm1 h1 = some (tm2, h2, orc')) : ARun P n c tm h e tm2 h2 := by
  intro hn
  obtain ⟨k1, k2⟩ := hrun hn
  refine ⟨Nat.le_trans k1 (popG_length hp), fun r dl σ w a hq hf hr ht => wpIn_mono (k2 r dl σ w a hq hf hr ht) ?_⟩
  rintro x a' w' ⟨rfl, σ', q1, q2, ds, hds, q3⟩
  obtain ⟨σ'', r1, r2, r3⟩ := popG_sound (w := w') hp q1.rel q1.full q3
  exact ⟨rfl, σ'', q1.trans r1, q2.trans (r2.mono k1), ds, hds, r3⟩

def finA (P : Program) (n : Nat) (tm : Tm) (h : List AObj) (rs : List ResultVar) (κ : List Nat) : Option (AV × List AObj × List Prop) :=
  match resA P tm h rs, invH κ h κ with
  | some (vs, cs), some hk => match inv κ (resV vs) with
    | some v => if nodupB κ = true ∧ pinned κ n = true ∧ n ≤ κ.length then some (v, hk, cs) else none
    | none => none
  | _, _ => none

def okExit : AExit → Bool
  | .normal => true | .ret => true | _ => false

def resOne (tmps : Array Value) : ResultVar → Sem Value
  | .tmp t => pure (tmps.getD t undef)
  | .cell a t => do loadVar t (← asAddr (tmps.getD a undef))
theorem results_eq (fn : Func) (tmps : Array Value) : results fn tmps = (do
    let vs ← fn.results.mapM (resOne tmps)
    pure (if h : vs.size = 1 then vs[0] else .tuple vs)) := by
  unfold results
  congr 1

theorem resA_run {P : Program} {σ : Sg} {tm : Tm} {h : List AObj} {w : World} {a : Act} (hf : Full σ h) (hr : RelH P σ h w) (ht : TR dl σ tm a) : ∀ {rs : List ResultVar} {vs : List AV} {cs : List Prop},
    resA P tm h rs = some (vs, cs) → All cs →
    (rs.mapM (resOne a.tmps)).run P w = .ok (denL σ vs) w ∧ wfL σ vs ∧ vs.length = rs.length
  | [], vs, cs, h1, hc => by simp [resA] at h1; obtain ⟨rfl, rfl⟩ := h1; exact ⟨rfl, trivial, rfl⟩
  | .tmp t :: r, vs, cs, h1, hc => by
    simp only [resA] at h1
    split at h1 <;> simp at h1
    rename_i v vs' cs' hv hrest
    obtain ⟨rfl, rfl⟩ := h1
    obtain ⟨k1, k2, k3⟩ := resA_run hf hr ht hrest hc
    obtain ⟨e1, d1⟩ := ht.eval _ v hv
    have e1' : a.tmps.getD t undef = den σ v := e1
    refine ⟨?_, ⟨d1, k2⟩, by simp [k3]⟩
    simp only [List.mapM_cons, resOne, Sem.run_bind, Sem.run_pure, Result.andThen, e1', k1, denL]
  | .cell x t :: r, vs, cs, h1, hc => by
    simp only [resA] at h1
    split at h1
    · rename_i b off n vs' cs' hx hag hsz hrest
      split at h1 <;> try simp at h1
      rename_i o ho
      split at h1 <;> simp at h1
      rename_i l ds hlr hg
      obtain ⟨rfl, rfl⟩ := h1
      have hlr : o.live = true ∧ o.row = true := by simpa using hlr
      obtain ⟨hl, hrow⟩ := hlr
      rw [All_append] at hc
      obtain ⟨k1, k2, k3⟩ := resA_run hf hr ht hrest hc.2
      obtain ⟨e1, d1⟩ := ht.eval _ _ hx
      have e1' : a.tmps.getD x undef = den σ (.ptr b off) := e1
      obtain ⟨g1, g2, g3⟩ := getN_den (σ := σ) hg hc.1
      have hrun := run_loadAt_agg (P := P) (w := w) (a := ⟨σ.at_ b, (σ.loc b).off + off, none⟩) (vs := denL σ l) hag hsz (by simpa using g1) (fun j v hv => by
        rw [addr_add, Nat.add_assoc]
        have hj : j < n := by have := (List.getElem?_eq_some_iff.1 hv).1; simp at this; omega
        exact blk_cell hr d1 ho hl hrow (by rw [g2 j hj]; exact hv))
      simp only [Instr.loadAt, Instr.sureAddr, Sem.run_bind, Sem.run_pure, Result.andThen] at hrun
      refine ⟨?_, ⟨g3 (hr.wfo b o d1 ho), k2⟩, by simp [k3]⟩
      simp only [List.mapM_cons, resOne, Sem.run_bind, e1', den, asAddr, Sem.run_pure, Result.andThen, hrun, k1, denL]
    · rename_i b off n vs' cs' hx hag hsz hrest
      split at h1 <;> try simp at h1
      rename_i o ho
      split at h1 <;> simp at h1
      rename_i y ds hg
      obtain ⟨rfl, rfl⟩ := h1
      rw [All_append] at hc
      obtain ⟨k1, k2, k3⟩ := resA_run hf hr ht hrest hc.2
      obtain ⟨e1, d1⟩ := ht.eval _ _ hx
      have e1' : a.tmps.getD x undef = den σ (.ptr b off) := e1
      obtain ⟨g1, g0, g2, g3⟩ := get_den (σ := σ) hg hc.1
      have hrun := run_loadAt_one (P := P) (w := w) (a := ⟨σ.at_ b, (σ.loc b).off + off, none⟩) (v := den σ y) hag (blk_cell hr d1 ho g1 g0 g2)
      simp only [Instr.loadAt, Instr.sureAddr, Sem.run_bind, Sem.run_pure, Result.andThen] at hrun
      refine ⟨?_, ⟨g3 (hr.wfo b o d1 ho), k2⟩, by simp [k3]⟩
      simp only [List.mapM_cons, resOne, Sem.run_bind, e1', den, asAddr, Sem.run_pure, Result.andThen, hrun, k1, denL]
    · simp at h1

theorem results_run {P : Program} {σ : Sg} {tm : Tm} {h : List AObj} {w : World} {a : Act} {fn : Func} (hf : Full σ h) (hr : RelH P σ h w) (ht : TR dl σ tm a) {vs : List AV} {cs : List Prop}
    (h1 : resA P tm h fn.results.toList = some (vs, cs)) (hc : All cs) : (results fn a.tmps).run P w = .ok (den σ (resV vs)) w ∧ wf σ (resV vs) := by
  obtain ⟨k1, k2, k3⟩ := resA_run hf hr ht h1 hc
  constructor
  · rw [results_eq, Array.mapM_eq_mapM_toList, Sem.run_bind, Sem.run_map, k1]
    simp only [Result.andThen, Sem.run_pure]
    congr 1
    have hlen : (denL σ vs).toArray.size = vs.length := by simp
    match vs, hlen with
    | [], _ => rfl
    | [x], _ => rfl
    | x :: y :: l, _ =>
      rw [dif_neg (by simp)]
      rfl
  · unfold resV
    split
    · exact k2.1
    · exact k2
theorem RelH.put {P : Program} {σ : Sg} {h : List AObj} {w : World} (hr : RelH P σ h w) {D : Nat} (hd : w.heap[D]? = some (.deferred (some []))) (o : Obj) : RelH P σ h (w.putObj D o) := by
  have other : ∀ r, r ≠ D → (w.putObj D o).heap[r]? = w.heap[r]? := fun r hne => World.putObj_heap_other hne
  refine ⟨⟨hr.lt, fun b ob hb ho hl => (hr.blk b ob hb ho hl).heap_eq (fun hc => other _ (fun e => mark_no hr hd ⟨b, ob, hb, ho, hl, hc, e⟩)), hr.inj, hr.wfo⟩, fun x hx => ?_⟩
  obtain ⟨h1, h2⟩ := hr.amb x hx
  refine ⟨h1.heap (other _ (fun e => ?_)), h2⟩
  obtain ⟨t, f, h1⟩ := h1
  rw [e, hd] at h1; cases h1
theorem Went.put {P : Program} {σ0 σ : Sg} {h0 h : List AObj} {w0 w : World} (q : Went P σ0 h0 w0 σ h w) {D : Nat} (hD : w0.heap.size ≤ D) (hd : w.heap[D]? = some (.deferred (some []))) (o : Obj) : Went P σ0 h0 w0 σ h (w.putObj D o) :=
  ⟨q.rel.put hd o, q.full, ⟨q.frm.os, q.frm.tape, q.frm.output, by have := q.frm.size; simpa [World.putObj] using this, fun r hlt hn => (World.putObj_heap_other (by omega)).trans (q.frm.block r hlt hn)⟩, q.img, q.wim⟩
/-- a function's end: the marks are taken, and the results are read -/
theorem leaves_marks {P : Program} {fn : Func} {tmps : Array Value} {R : Ending → World → Prop} {σ0 σ : Sg} {h0 h : List AObj} {w0 : World} (hR : ∀ w, Went P σ0 h0 w0 σ h w → ∃ v, (results fn tmps).run P w = .ok v w ∧ R (.returned v) w) :
    ∀ (ds : List Nat) (w : World), ds.Nodup → (∀ D ∈ ds, w0.heap.size ≤ D ∧ w.heap[D]? = some (.deferred (some []))) → Went P σ0 h0 w0 σ h w → LeavesInM Fence.wide 0 P fn tmps R (ds.map coll) .returning w
  | [], w, _, _, q => hR w q
  | D :: ds, w, hn, hd, q => by
    obtain ⟨hn1, hn2⟩ := List.nodup_cons.1 hn
    obtain ⟨e1, e2⟩ := hd D (List.mem_cons_self ..)
    refine ⟨by simp, .inl ⟨D, _, rfl, run_takeDeferred e2, leaves_marks hR ds _ hn2 (fun E hE => ?_) (q.put e1 e2 _)⟩⟩
    obtain ⟨f1, f2⟩ := hd E (List.mem_cons_of_mem _ hE)
    exact ⟨f1, (World.putObj_heap_other (fun (e : E = D) => hn1 (by rw [← e]; exact hE))).trans f2⟩
theorem ACalls.of_run {P : Program} {f : FuncId} {fn : Func} {c : Code} {args : List AV} {hc : List AObj} {e : AExit} {tm' : Tm} {h' : List AObj} {κ : List Nat} {res : AV} {upd : List (Nat × AObj)} {news : List AObj} {cs : List Prop}
    (hf : P.funcs[f]? = some fn) (hb : fn.body = some c) (hname : (fn.name == "runtime.NumGoroutine") = false)
    (hrun : ARun P hc.length c (args.map some ++ List.replicate (fn.ntmps - args.length) (some (.tup []))) hc e tm' h') (he : okExit e = true)
    (hfin : finA P hc.length tm' h' fn.results.toList κ = some (res, applyUpd upd hc ++ news, cs)) (hcs : All cs) : ACalls P f args hc res upd news := by
  refine ⟨⟨fn, hf, by rw [hb]; rfl, hname⟩, fun σ w hfull hr hw => ?_⟩
  obtain ⟨hn', hwp⟩ := hrun (Nat.le_refl _)
  have ht0 : TR [] σ (args.map some ++ List.replicate (fn.ntmps - args.length) (some (.tup []))) { tmps := (denL σ args).toArray ++ Array.replicate (fn.ntmps - (denL σ args).toArray.size) undef, defers := [] } := by
    refine ⟨rfl, by simp, fun t x hx => ?_⟩
    simp only [List.getElem?_append, List.length_map, List.getElem?_map, List.getElem?_replicate] at hx
    simp only [Array.getElem?_append, List.size_toArray, denL_length, List.getElem?_toArray, denL_getElem?, Array.getElem?_replicate]
    split at hx
    · rename_i h1
      rw [if_pos h1]
      simp only [Option.map_eq_some_iff] at hx
      obtain ⟨y, hy, hxy⟩ := hx
      obtain rfl := Option.some.inj hxy
      rw [hy]
      exact ⟨rfl, (wfL_iff σ args).1 hw _ (List.mem_of_getElem? hy)⟩
    · rename_i h1
      rw [if_neg h1]
      split at hx <;> simp at hx
      rename_i h2
      subst hx
      rw [if_pos h2]
      exact ⟨rfl, trivial⟩
  unfold finA at hfin
  split at hfin <;> try simp at hfin
  rename_i vs cs' hk hres hinv
  split at hfin <;> simp at hfin
  rename_i v hval
  obtain ⟨⟨hnd, hpin, hnκ⟩, rfl, rfl, rfl⟩ := hfin
  have hnd := nodupB_spec hnd
  have hpin := pinned_get hpin
  have hlt := invH_lt hinv
  refine callsIn_wide.1 (callsIn_of_wp_marks (F := Fence.wide) (n := 0) hf hb trivial (wpIn_mono (hwp none [] σ w _ (.inl rfl) hfull hr ht0) ?_))
  rintro x a' w1 ⟨rfl, σ', q0, q2, ds, hds, q3⟩
  have hdf : a'.defers = ds.map coll := by rw [q3.defers, List.append_nil]
  suffices key : ∀ w', Went P σ hc w σ' h' w' → ∃ v', (results fn a'.tmps).run P w' = .ok v' w' ∧ ∃ rs : List Loc, rs.length = news.length ∧ Ending.returned v' = .returned (den (σ.more hc.length rs) v) ∧ wf (σ.more hc.length rs) v ∧
      Went P σ hc w (σ.more hc.length rs) (applyUpd upd hc ++ news) w' by
    have hl := leaves_marks (fn := fn) (tmps := a'.tmps) (R := fun e w' => ∃ rs : List Loc, rs.length = news.length ∧ e = .returned (den (σ.more hc.length rs) v) ∧ wf (σ.more hc.length rs) v ∧ Went P σ hc w (σ.more hc.length rs) (applyUpd upd hc ++ news) w') key ds w1 hds.1 hds.2 q0
    rw [← hdf] at hl
    cases e with
    | normal => exact hl
    | ret => exact hl
    | exit id => simp [okExit] at he
  intro w' q1
  obtain ⟨r1, r2⟩ := results_run (fn := fn) q1.full q1.rel q3 hres hcs
  obtain ⟨i1, i2⟩ := inv_den (σ := σ') hval
  obtain ⟨hlen, hget⟩ := invH_get (σ := σ') hinv
  have hrκ := q1.rel.via (fun b hb => (q1.full b).2 (hlt b hb)) hnd hinv
  let rs := (κ.drop hc.length).map (fun b => σ'.loc b)
  have hrs : rs.length = news.length := by
    have : (applyUpd upd hc ++ news).length = κ.length := hlen
    simp at this
    simp [rs]; omega
  have hdomm : ∀ b, (σ.more hc.length rs).dom b ↔ b < κ.length := fun b => by
    have hrl : rs.length = κ.length - hc.length := by simp [rs]
    simp only [Sg.more]
    rw [hfull b]
    omega
  have hat : ∀ b, b < κ.length → (σ.more hc.length rs).loc b = (σ'.via κ).loc b := fun b hb => by
    by_cases h1 : b < hc.length
    · rw [Sg.more_lt _ _ h1]
      simp [Sg.via, hpin b h1, q2 b h1]
    · have hj : hc.length + (b - hc.length) = b := by omega
      have hget' : rs[b - hc.length]? = some (σ'.loc κ[b]) := by
        simp only [rs, List.getElem?_map, List.getElem?_drop, hj, List.getElem?_eq_getElem hb, Option.map_some]
      simp [Sg.more, h1, hget', Sg.via, hb]
  have hext : Ext (σ'.via κ) (σ.more hc.length rs) := fun b hb => ⟨(hdomm b).2 hb, hat b hb⟩
  refine ⟨_, r1, rs, hrs, by rw [den_ext hext v (i2 r2), i1], wf_ext hext v (i2 r2), ?_⟩
  refine ⟨relH_congr hext (fun b hb => (hdomm b).1 hb) hrκ, fun b => by rw [hdomm b, hlen], q1.frm, fun r hi => ?_, fun r hi => ?_⟩
  case refine_2 =>
    obtain ⟨b, o, k1, k2, k3, kc, k5, rfl⟩ := hi
    have hbκ := (hdomm b).1 k1
    have hi' : wimg (σ'.via κ) (applyUpd upd hc ++ news) ((σ.more hc.length rs).at_ b) := ⟨b, o, hbκ, k2, k3, by rw [← hat b hbκ]; exact kc, k5, by simp only [Sg.at_]; rw [hat b hbκ]⟩
    obtain ⟨b', o', m1, m2, m3, mc, m5, m4⟩ := wimg_via (fun b hb => (q1.full b).2 (hlt b hb)) hinv hi'
    rw [← m4]
    exact q1.wim _ ⟨b', o', (q1.full b').2 (hlt b' m1), m2, m3, mc, m5, rfl⟩
  obtain ⟨b, o, k1, k2, k3, kc, rfl⟩ := hi
  have hbκ := (hdomm b).1 k1
  have hi' : img (σ'.via κ) (applyUpd upd hc ++ news) ((σ.more hc.length rs).at_ b) := ⟨b, o, hbκ, k2, k3, by rw [← hat b hbκ]; exact kc, by simp only [Sg.at_]; rw [hat b hbκ]⟩
  obtain ⟨b', o', m1, m2, m3, mc, m4⟩ := img_via (fun b hb => (q1.full b).2 (hlt b hb)) hinv hi'
  rw [← m4]
  exact q1.img _ ⟨b', o', (q1.full b').2 (hlt b' m1), m2, m3, mc, rfl⟩
/-- a run's end, told with fewer slots and other names -/
theorem ARun.post {P : Program} {n : Nat} {c : Code} {tm tm1 : Tm} {h h1 h2 : List AObj} {e : AExit} {keep κ : List Nat} (a : ARun P n c tm h e tm1 h1)
    (hinv : invH κ h1 κ = some h2) (hnd : nodupB κ = true) (hpin : pinned κ n = true) (hnκ : n ≤ κ.length) : ARun P n c tm h e (renT κ (keepT keep 0 tm1)) h2 := by
  intro hn
  obtain ⟨a1, a2⟩ := a hn
  have hlt := invH_lt hinv
  have hnd := nodupB_spec hnd
  have hpin := pinned_get hpin
  have hlen : h2.length = κ.length := (invH_get (σ := ⟨fun _ => ⟨0, 0, 0, 0, false⟩, fun _ => True⟩) hinv).1
  refine ⟨by rw [hlen]; exact hnκ, fun r dl σ w ac hq hf hr ht => wpIn_mono (a2 r dl σ w ac hq hf hr ht) ?_⟩
  rintro x a' w' ⟨rfl, σ', q1, q2, q3⟩
  refine ⟨rfl, σ'.via κ, ⟨q1.rel.via (fun b hb => (q1.full b).2 (hlt b hb)) hnd hinv, fun b => by rw [hlen]; exact Iff.rfl, q1.frm, fun r hi => ?_, fun r hi => ?_⟩, fun b hb => ?_, ?_⟩
  · obtain ⟨b', o', k1, k2, k3, kc, k4⟩ := img_via (fun b hb => (q1.full b).2 (hlt b hb)) hinv hi
    exact q1.img r ⟨b', o', (q1.full b').2 (hlt b' k1), k2, k3, kc, k4⟩
  · obtain ⟨b', o', k1, k2, k3, kc, k5, k4⟩ := wimg_via (fun b hb => (q1.full b).2 (hlt b hb)) hinv hi
    exact q1.wim r ⟨b', o', (q1.full b').2 (hlt b' k1), k2, k3, kc, k5, k4⟩
  · rw [← q2 b hb]
    simp [Sg.via, hpin b hb]
  · refine q3.map fun dl q3 => ⟨q3.defers, by rw [renT_length, keepT_length]; exact q3.size, fun t y hy => ?_⟩
    obtain ⟨x, hx, hxy⟩ := renT_get hy
    obtain ⟨g1, g2⟩ := q3.get t x (keepT_get hx)
    obtain ⟨i1, i2⟩ := inv_den (σ := σ') hxy
    exact ⟨by rw [i1]; exact g1, i2 g2⟩

def loopsC : Code → List Code
  | .seq a b => loopsC a ++ loopsC b
  | .cond _ a b => loopsC a ++ loopsC b
  | .block _ c => loopsC c
  | .loop c => c :: loopsC c
  | .scope c => loopsC c
  | _ => []
/-- the body of a function's loop number i -/
def lp (fn : Func) (i : Nat) : Code := match fn.body with
  | some c => match (loopsC c)[i]? with
    | some x => x
    | none => .skip
  | none => .skip

/-- one round of a loop's body -/
def roundA (P : Program) (n : Nat) (c : Code) (tm : Tm) (h : List AObj) (orc : List Orc) (keep κ : List Nat) : Option (AExit × Tm × List AObj × List Prop) :=
  match runA P n c tm h orc with
  | some (e, tm0, h0, orc0, cs) => match popG P (finG orc0) tm0 h0 with
    | some (tm1, h1, _) => match invH κ h1 κ with
      | some h2 => if nodupB κ = true ∧ pinned κ n = true ∧ n ≤ κ.length then some (e, renT κ (keepT keep 0 tm1), h2, cs) else none
      | none => none
    | none => none
  | none => none
theorem roundA_sound {P : Program} {n : Nat} {c : Code} {tm tm1 : Tm} {h h1 : List AObj} {orc : List Orc} {keep κ : List Nat} {e : AExit} {cs : List Prop} (hr : roundA P n c tm h orc keep κ = some (e, tm1, h1, cs)) (hcs : All cs) :
    ARun P n c tm h e tm1 h1 := by
  unfold roundA at hr
  split at hr <;> try simp at hr
  rename_i e' tm' h' orc' cs' hrun
  split at hr <;> try simp at hr
  rename_i hp
  split at hr <;> simp at hr
  rename_i h2 hinv
  obtain ⟨⟨k1, k2, k3⟩, rfl, rfl, rfl, rfl⟩ := hr
  exact ((run_sound hrun hcs).popEnd hp).post hinv k1 k2 k3
theorem ARun.round {P : Program} {n : Nat} {c : Code} {tm tm1 tm2 : Tm} {h h1 h2 : List AObj} {e : AExit} (orc : List Orc) (keep κ : List Nat) (cs : List Prop)
    (hr : roundA P n c tm h orc keep κ = some (.normal, tm1, h1, cs)) (hcs : All cs) (b : ARun P n (.loop c) tm1 h1 e tm2 h2) : ARun P n (.loop c) tm h e tm2 h2 :=
  (roundA_sound hr hcs).again b
theorem ARun.last {P : Program} {n : Nat} {c : Code} {tm tm1 : Tm} {h h1 : List AObj} {id : Nat} (orc : List Orc) (keep κ : List Nat) (cs : List Prop)
    (hr : roundA P n c tm h orc keep κ = some (.exit id, tm1, h1, cs)) (hcs : All cs) : ARun P n (.loop c) tm h (.exit id) tm1 h1 :=
  (roundA_sound hr hcs).leave (by simp)
theorem ARun.lastRet {P : Program} {n : Nat} {c : Code} {tm tm1 : Tm} {h h1 : List AObj} (orc : List Orc) (keep κ : List Nat) (cs : List Prop)
    (hr : roundA P n c tm h orc keep κ = some (.ret, tm1, h1, cs)) (hcs : All cs) : ARun P n (.loop c) tm h .ret tm1 h1 :=
  (roundA_sound hr hcs).leave (by simp)

theorem All.nil : All [] := trivial
theorem All.cons {p : Prop} {l : List Prop} (h : p) (t : All l) : All (p :: l) := ⟨h, t⟩

theorem ilt_t {a b : Int} (h : a < b) : isB (ilt a b) true := decide_eq_true h
theorem ilt_f {a b : Int} (h : b ≤ a) : isB (ilt a b) false := decide_eq_false (by omega)
theorem ile_t {a b : Int} (h : a ≤ b) : isB (ile a b) true := decide_eq_true h
theorem ile_f {a b : Int} (h : b < a) : isB (ile a b) false := decide_eq_false (by omega)
theorem ieq_t {a b : Int} (h : a = b) : isB (ieq a b) true := by simp [isB, ieq, h]
theorem ieq_f {a b : Int} (h : a ≠ b) : isB (ieq a b) false := by simp [isB, ieq, h]
theorem ine_t {a b : Int} (h : a ≠ b) : isB (ine a b) true := by simp [isB, ine, h]
theorem ine_f {a b : Int} (h : a = b) : isB (ine a b) false := by simp [isB, ine, h]

def initTm (fn : Func) (args : List AV) : Tm := args.map some ++ List.replicate (fn.ntmps - args.length) (some (.tup []))

/-- A function's body, run over what a call hands it: its results, the heap behind it, the conditions. -/
def outA (P : Program) (fn : Func) (args : List AV) (hc : List AObj) (orc : List Orc) (κ : List Nat) : Option (AV × List AObj × List Prop) :=
  match fn.body with
  | some c => match runA P hc.length c (args.map some ++ List.replicate (fn.ntmps - args.length) (some (.tup []))) hc orc with
    | some (e, tm0, h0, orc0, cs) => match okExit e, popG P (finG orc0) tm0 h0 with
      | true, some (tm', h', _) => match finA P hc.length tm' h' fn.results.toList κ with
        | some (v, hk, ds) => some (v, hk, cs ++ ds)
        | none => none
      | _, _ => none
    | none => none
  | none => none
theorem ACalls.of_out {P : Program} {f : FuncId} {fn : Func} {args : List AV} {hc : List AObj} {res : AV} {upd : List (Nat × AObj)} {news : List AObj} (orc : List Orc) (κ : List Nat) (cs : List Prop)
    (hf : P.funcs[f]? = some fn) (hname : (fn.name == "runtime.NumGoroutine") = false)
    (h : outA P fn args hc orc κ = some (res, applyUpd upd hc ++ news, cs)) (hcs : All cs) : ACalls P f args hc res upd news := by
  unfold outA at h
  split at h <;> try simp at h
  rename_i c hb
  split at h <;> try simp at h
  rename_i e tm' h' orc' cs1 hrun
  split at h <;> try simp at h
  rename_i he hp
  split at h <;> simp at h
  rename_i v hk ds hfin
  obtain ⟨rfl, rfl, rfl⟩ := h
  rw [All_append] at hcs
  exact ACalls.of_run hf hb hname ((run_sound hrun hcs.1).popEnd hp) he hfin hcs.2

/-- A law over plain data: it returns true, and nothing that was there has turned. -/
theorem ACalls.walk {P : Program} {f : FuncId} {args : List AV} {upd : List (Nat × AObj)} {news : List AObj} {res : AV} (h : ACalls P f args [] res upd news) (hres : ∀ σ, den σ res = .bool true) (vals : Array Value)
    (hv : ∀ σ, (denL σ args).toArray = vals ∧ wfL σ args) (w : World)
    (ham : ∀ x ∈ amb P, Lies w x.1 x.2 := by intro x hx; exact absurd hx (by simp [Go.Abs.amb])) : Calls P f vals w fun e w' => e = .returned (.bool true) ∧ Go.RowKit.Below w.heap.size w w' := by
  have h1 := h.2 ⟨fun _ => ⟨0, 0, 0, 0, false⟩, fun _ => False⟩ w (fun b => by simp) ⟨⟨fun b hb => hb.elim, fun b o hb => hb.elim, fun b b' o o' hb => hb.elim, fun b o hb => hb.elim⟩, fun x hx => ⟨ham x hx, fun hi => by obtain ⟨b, o, hd, -⟩ := hi; exact hd.elim⟩⟩ (hv _).2
  rw [(hv _).1] at h1
  refine h1.mono ?_
  rintro e w' ⟨rs, q1, rfl, q3, q4⟩
  refine ⟨by rw [hres], ⟨q4.frm.os, q4.frm.tape, q4.frm.output, q4.frm.size, fun k hk => q4.frm.block k hk ?_⟩⟩
  rintro ⟨b, o, hb, -⟩
  exact hb
/-- a parameter that may be nil: both ways -/
theorem ACalls.nilq {P : Program} {f : FuncId} {pre post : List AV} {b s : Nat} {hc : List AObj} {res : AV} {upd : List (Nat × AObj)} {news : List AObj} {o : AObj} (ho : hc[b]? = some o) (hl : o.live = true)
    (h1 : o.len = 0 → ACalls P f (pre ++ .v (.slice none 0 0) :: post) hc res upd news) (h2 : ACalls P f (pre ++ .sn b s :: post) hc res upd news) : ACalls P f (pre ++ .sw b s :: post) hc res upd news := by
  refine ⟨h2.1, fun σ w hf hr hw => ?_⟩
  rw [wfL_append] at hw
  obtain ⟨w1, w2, w3⟩ := hw
  cases hn : (σ.loc b).nil with
  | false =>
    have := h2.2 σ w hf hr (wfL_append.2 ⟨w1, ⟨w2.1, w2.2, hn⟩, w3⟩)
    have e : denL σ (pre ++ .sw b s :: post) = denL σ (pre ++ .sn b s :: post) := by simp [denL_append, denL, den]
    rw [e]; exact this
  | true =>
    have hb := hr.blk b o w2.1 ho hl
    have hcap := hb.nil hn
    have hlen : o.len = 0 := by have := hb.len; have := hb.le; omega
    have := (h1 hlen).2 σ w hf hr (wfL_append.2 ⟨w1, trivial, w3⟩)
    have e : denL σ (pre ++ .sw b s :: post) = denL σ (pre ++ .v (.slice none 0 0) :: post) := by
      have hll : (σ.loc b).len = 0 := by have := hb.le; omega
      simp [denL_append, denL, den, Loc.base, hn, hcap, hll]
    rw [e]; exact this
end Go.Abs
