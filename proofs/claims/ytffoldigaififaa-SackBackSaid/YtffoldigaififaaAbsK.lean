import Derived.Test.YtffoldigaififaaAbsJ
import Derived.OrdersIn
import Derived.TacticsIn
set_option linter.unusedVariables false
set_option linter.unusedSimpArgs false
/- Regions in the order of their text, and code. -/
namespace Go.Abs

abbrev Tm := List (Option AV)
/-- what operations see -/
def soft : AV → AV
  | .sn b s => .sw b s
  | x => x
theorem soft_den {σ : Sg} {x : AV} (h : wf σ x) : den σ (soft x) = den σ x ∧ wf σ (soft x) := by
  cases x <;> first | exact ⟨rfl, h⟩ | exact ⟨rfl, h.1, h.2.1⟩
def evalA (tm : Tm) : Operand → Option AV
  | .tmp t => match tm[t]? with
    | some (some x) => some (soft x)
    | _ => none
  | .const v => some (ofVal v)
  | .func f => some (.fn (.func f) [])
  | .global _ => none

/-- what a function has put off: the marks of the loops over functions that it went through -/
def coll (D : Nat) : Deferred := { target := .collected D, args := #[] }
variable {dl : List Deferred}
structure TR (dl : List Deferred) (σ : Sg) (tm : Tm) (a : Act) : Prop where
  defers : a.defers = dl
  size : a.tmps.size = tm.length
  get : ∀ (t : Nat) (x : AV), tm[t]? = some (some x) → a.tmps[t]? = some (den σ x) ∧ wf σ x

theorem TR.eval {σ : Sg} {tm : Tm} {a : Act} (h : TR dl σ tm a) (x : Operand) (v : AV) (hv : evalA tm x = some v) : a.eval x = den σ v ∧ wf σ v := by
  cases x with
  | tmp t =>
    simp only [evalA] at hv
    split at hv <;> simp at hv
    rename_i y hy
    subst hv
    obtain ⟨h1, h2⟩ := h.get t y hy
    obtain ⟨k1, k2⟩ := soft_den h2
    exact ⟨by simp [Act.eval, h1, k1], k2⟩
  | const c => simp [evalA] at hv; subst hv; exact ⟨by simp [Act.eval], by simp⟩
  | global g => simp [evalA] at hv
  | func f => simp [evalA] at hv; subst hv; exact ⟨rfl, trivial⟩

theorem TR.put {σ σ' : Sg} {tm : Tm} {a : Act} (h : TR dl σ tm a) (he : Ext σ σ') {v : AV} (hv : wf σ' v) (dst : Option Tmp) :
    TR dl σ' (match dst with | some d => tm.set d (some v) | none => tm) (a.put dst (den σ' v)) := by
  have old : ∀ (t : Nat) (x : AV), tm[t]? = some (some x) → a.tmps[t]? = some (den σ' x) ∧ wf σ' x := fun t x hx => by
    obtain ⟨h1, h2⟩ := h.get t x hx
    exact ⟨by rw [den_ext he x h2]; exact h1, wf_ext he x h2⟩
  cases dst with
  | none => exact ⟨h.defers, h.size, old⟩
  | some d =>
    refine ⟨h.defers, by simp [Act.put, h.size], fun t x hx => ?_⟩
    simp only [Act.put]
    rw [List.getElem?_set] at hx
    split at hx
    · rename_i e; subst e
      split at hx <;> simp at hx
      subst hx
      rename_i hlt
      rw [Array.getElem?_setIfInBounds_self_of_lt (by rw [h.size]; exact hlt)]
      exact ⟨rfl, hv⟩
    · rename_i hne
      rw [Array.getElem?_setIfInBounds_ne hne]
      exact old t x hx

theorem TR.set_same {σ : Sg} {tm : Tm} {a : Act} (h : TR dl σ tm a) {d : Nat} {x y : AV} (hx : tm[d]? = some (some x)) (he : den σ y = den σ x) (hw : wf σ y) : TR dl σ (tm.set d (some y)) a := by
  refine ⟨h.defers, by simp [h.size], fun t z hz => ?_⟩
  rw [List.getElem?_set] at hz
  split at hz
  · rename_i e; subst e
    split at hz <;> simp at hz
    subst hz
    exact ⟨by rw [he]; exact (h.get _ _ hx).1, hw⟩
  · exact h.get t z hz

def Keeps (n : Nat) (σ σ' : Sg) : Prop := ∀ b, b < n → σ'.loc b = σ.loc b
theorem Keeps.refl (n : Nat) (σ : Sg) : Keeps n σ σ := fun _ _ => rfl
theorem Keeps.trans {n : Nat} {a b c : Sg} (h : Keeps n a b) (k : Keeps n b c) : Keeps n a c := fun x hx => (k x hx).trans (h x hx)
theorem Keeps.mono {n m : Nat} {a b : Sg} (h : Keeps n a b) (hm : m ≤ n) : Keeps m a b := fun x hx => h x (Nat.lt_of_lt_of_le hx hm)

theorem Went.refl {P : Program} {σ : Sg} {h : List AObj} {w : World} (hr : RelH P σ h w) (hf : Full σ h) : Went P σ h w σ h w :=
  ⟨hr, hf, Frm.refl _ _, fun r h => .inl h, fun r h => .inl h⟩
theorem Went.trans {P : Program} {σ σ1 σ2 : Sg} {h h1 h2 : List AObj} {w w1 w2 : World} (a : Went P σ h w σ1 h1 w1) (b : Went P σ1 h1 w1 σ2 h2 w2) : Went P σ h w σ2 h2 w2 :=
  ⟨b.rel, b.full, a.frm.trans b.frm a.wim, fun r hr => by
    rcases b.img r hr with h1 | h1
    · exact a.img r h1
    · exact .inr (Nat.le_trans a.frm.size h1), fun r hr => by
    rcases b.wim r hr with h1 | h1
    · exact a.wim r h1
    · exact .inr (Nat.le_trans a.frm.size h1)⟩

theorem relH_append {P : Program} {σ : Sg} {h : List AObj} {w : World} (hr : RelH P σ h w) (news : List AObj) : RelH P σ (h ++ news) w := by
  have old : ∀ {b o}, σ.dom b → (h ++ news)[b]? = some o → h[b]? = some o := fun hb ho => by
    rw [List.getElem?_append_left (hr.lt _ hb)] at ho; exact ho
  exact hr.step ⟨fun b hb => by have := hr.lt b hb; simp; omega, fun b o hb ho => hr.blk b o hb (old hb ho), fun b b' o o' h1 h2 h3 h4 => hr.inj b b' o o' h1 h2 (old h1 h3) (old h2 h4), fun b o hb ho => hr.wfo b o hb (old hb ho)⟩ (Frm.refl _ _) (fun r hi => .inl (by obtain ⟨b, o, h1, h2, h3⟩ := hi; exact ⟨b, o, h1, old h1 h2, h3⟩))
theorem img_append {σ : Sg} {h : List AObj} (hf : Full σ h) (news : List AObj) {r : Nat} (hi : img σ (h ++ news) r) : img σ h r := by
  obtain ⟨b, o, h1, h2, h3, hc, h4⟩ := hi
  rw [List.getElem?_append_left ((hf b).1 h1)] at h2
  exact ⟨b, o, h1, h2, h3, hc, h4⟩

theorem wimg_append {σ : Sg} {h : List AObj} (hf : Full σ h) (news : List AObj) {r : Nat} (hi : wimg σ (h ++ news) r) : wimg σ h r := by
  obtain ⟨b, o, h1, h2, h3, hc, h5, h4⟩ := hi
  rw [List.getElem?_append_left ((hf b).1 h1)] at h2
  exact ⟨b, o, h1, h2, h3, hc, h5, h4⟩

/-- one operation, over the whole heap -/
theorem op_went {P : Program} {σ : Sg} {h : List AObj} {w : World} {ρA : Operand → Option AV} {ρ : Operand → Value} {o : Oper} {r : Res} (hr : RelH P σ h w) (hf : Full σ h)
    (hρ : ∀ x v, ρA x = some v → ρ x = den σ v ∧ wf σ v) (hop : opA P ρA h o.op = some r) (hcs : All r.cs) :
    ∃ nx w' v' σ', (execOp ρ o).run P w = .ok nx w' ∧ (nx = .value v' ∨ (nx = .skip ∧ v' = undef)) ∧ v' = den σ' r.val ∧ wf σ' r.val ∧ Ext σ σ' ∧ Keeps h.length σ σ' ∧
      Went P σ h w σ' (applyUpd r.upd (h ++ r.news)) w' := by
  obtain ⟨nx, w', v', h1, h2, rs, p1, p2, p3, p4, p5, p6, p7⟩ := op_sound (g := h ++ r.news) (h := h) (relH_append hr r.news)
    (fun b o ho => by rw [List.getElem?_append_left (List.getElem?_eq_some_iff.1 ho).1]; exact ho) hρ hop hcs
    (fun j x hx => by rw [List.getElem?_append_right (by omega)]; simpa using hx) (fun j hj hd => by have := (hf _).1 hd; omega)
  refine ⟨nx, w', v', σ.more h.length rs, h1, h2, p2, p3, Sg.more_ext _ _ _ (fun b h1 h2 h3 => by have := (hf _).1 h3; omega),
    fun b hb => Sg.more_lt _ _ hb, ⟨p4, ?_, p5.mono (fun q hq => .inl (wimg_append hf _ hq)), ?_, ?_⟩⟩
  · intro b
    rw [applyUpd_length, List.length_append, ← p1]
    constructor
    · rintro (k | k)
      · have := (hf b).1 k; omega
      · omega
    · intro k
      by_cases hb : b < h.length
      · exact .inl ((hf b).2 hb)
      · exact .inr (by omega)
  · intro q hq
    rcases p6 q hq with k | k
    · exact .inl (img_append hf _ k)
    · exact .inr k
  · intro q hq
    rcases p7 q hq with k | k
    · exact .inl (wimg_append hf _ k)
    · exact .inr k

inductive AExit where
  | normal | exit (id : Nat) | ret
def AExit.out : AExit → Exit
  | .normal => .normal | .exit id => .exit id | .ret => .ret

def noRange : Code → Bool
  | .seq a b => noRange a && noRange b
  | .cond _ a b => noRange a && noRange b
  | .block _ c => noRange c
  | .loop c => noRange c
  | .scope c => noRange c
  | .rangeFunc .. => false
  | _ => true
/-- a loop over a function stands in a function's frame alone -/
def Fr (r : Option Nat) (c : Code) : Prop := r = none ∨ noRange c = true
theorem Fr.seq1 {r : Option Nat} {a b : Code} (h : Fr r (.seq a b)) : Fr r a := h.imp id (fun h => by simp only [noRange, Bool.and_eq_true] at h; exact h.1)
theorem Fr.seq2 {r : Option Nat} {a b : Code} (h : Fr r (.seq a b)) : Fr r b := h.imp id (fun h => by simp only [noRange, Bool.and_eq_true] at h; exact h.2)
theorem Fr.cond1 {r : Option Nat} {d : Operand} {a b : Code} (h : Fr r (.cond d a b)) : Fr r a := h.imp id (fun h => by simp only [noRange, Bool.and_eq_true] at h; exact h.1)
theorem Fr.cond2 {r : Option Nat} {d : Operand} {a b : Code} (h : Fr r (.cond d a b)) : Fr r b := h.imp id (fun h => by simp only [noRange, Bool.and_eq_true] at h; exact h.2)
theorem Fr.block {r : Option Nat} {i : Nat} {c : Code} (h : Fr r (.block i c)) : Fr r c := h
theorem Fr.scope {r : Option Nat} {c : Code} (h : Fr r (.scope c)) : Fr r c := h
theorem Fr.loop {r : Option Nat} {c : Code} (h : Fr r (.loop c)) : Fr r c := h
/-- no fence; a frame of a function (none), or of a loop's round -/
def wideR (r : Option Nat) : Fence := { Fence.wide with round := r }
theorem room_wideR (r : Option Nat) (n : Nat) : (wideR r).room n := fun _ h => by simp [wideR, Fence.wide] at h
def noDef : List Oper → Bool
  | [] => true
  | o :: l => match o.op with
    | .defer _ => false
    | _ => noDef l
theorem noDef_out : ∀ {l : List Oper}, noDef l = true → ∀ o ∈ l, ∀ c, o.op ≠ .defer c
  | [], _, o, ho, c => by simp at ho
  | x :: l, h, o, ho, c => by
    unfold noDef at h
    split at h
    · simp at h
    · rename_i hx
      rcases List.mem_cons.1 ho with rfl | ho
      · exact hx c
      · exact noDef_out h o ho c
theorem oper_in {P : Program} {o : Oper} {a : Act} {w : World} {K : Act → World → Prop} {Q : Exit → Act → World → Prop} (r : Option Nat) (hd : ∀ c, o.op ≠ .defer c) (h : o.wp P a w K Q) : o.wpIn (wideR r) 0 P a w K Q := by
  refine ⟨fun _ _ => trivial, ?_⟩
  rw [Oper.semAt_eq _ _ _ hd]
  unfold Oper.wp at h
  generalize (execOp a.eval o).run P w = x at h ⊢
  have nd : (wideR r).depth.isSome = true → 1 ≤ 0 := fun hh => by simp [wideR, Fence.wide] at hh
  cases x with
  | ok nx w' =>
    cases nx with
    | enter f args => exact ⟨nd, callsIn_wide.2 h⟩
    | row f args =>
      exact ⟨nd, fun c cs _ => let ⟨v, w', r, s⟩ := h c cs; ⟨v, w', r, stepsIn_wide.2 s⟩⟩
    | _ => first | exact h | exact h.elim
  | halt x w' => cases x <;> first | exact h | exact h.elim
theorem wpList_in {P : Program} {ops : Array Oper} {Q : Exit → Act → World → Prop} (r : Option Nat) (hL : ¬ LetsOut Q) : ∀ {l : List Oper} {a : Act} {w : World}, (∀ o ∈ l, ∀ c, o.op ≠ .defer c) → wpList P ops Q l a w → wpListIn (wideR r) 0 P ops Q l a w
  | [], a, w, _, h => h
  | o :: l, a, w, hd, h => by
    unfold wpList at h
    unfold wpListIn
    split at h
    · rename_i hw
      rw [if_pos hw]
      rcases h with h | ⟨-, h⟩
      · exact Oper.wpIn_mono (fun a w => wpList_in r hL (fun o ho => hd o (List.mem_cons_of_mem _ ho))) (oper_in r (hd o (List.mem_cons_self ..)) h)
      · exact absurd h hL
    · rename_i hw
      rw [if_neg hw]
      exact ⟨fun _ _ => trivial, wpList_in r hL (fun o ho => hd o (List.mem_cons_of_mem _ ho)) h⟩
theorem wpAny_in {P : Program} {ops : Array Oper} {Q : Exit → Act → World → Prop} {md : Region.Mode} (r : Option Nat) (hL : ¬ LetsOut Q) (hd : ∀ o ∈ ops.toList, ∀ c, o.op ≠ .defer c) : ∀ {fuel : Nat} {l : Array Bool} {a : Act} {w : World}, wpAny P md ops Q fuel l a w → wpAnyIn (wideR r) 0 P md ops Q fuel l a w
  | 0, l, a, w, h => h
  | fuel + 1, l, a, w, h => by
    refine ⟨h.1, fun i hi => ?_⟩
    have h1 := h.2 i hi
    unfold wpOp at h1
    unfold wpOpIn
    split
    · rename_i ho
      simp only [ho] at h1
      exact wpAny_in r hL hd h1
    · rename_i o ho
      simp only [ho] at h1
      split at h1
      · rename_i hw
        rw [if_pos hw]
        rcases h1 with h1 | ⟨-, h1⟩
        · exact Oper.wpIn_mono (fun a w => wpAny_in r hL hd) (oper_in r (hd o (by rw [Array.mem_toList_iff]; exact Array.mem_of_getElem? ho)) h1)
        · exact absurd h1 hL
      · rename_i hw
        rw [if_neg hw]
        exact ⟨fun _ _ => trivial, wpAny_in r hL hd h1⟩
/-- the slots, and the marks that were made since w0 -/
def TRW (dl : List Deferred) (w0 : World) (σ : Sg) (tm : Tm) (a : Act) (w : World) : Prop :=
  ∃ ds : List Nat, (ds.Nodup ∧ ∀ D ∈ ds, w0.heap.size ≤ D ∧ w.heap[D]? = some (.deferred (some []))) ∧ TR (ds.map coll ++ dl) σ tm a
theorem TRW.one {w0 w : World} {σ : Sg} {tm : Tm} {a : Act} (t : TR dl σ tm a) : TRW dl w0 σ tm a w := ⟨[], ⟨List.nodup_nil, fun _ h => by simp at h⟩, t⟩
theorem TRW.map {w0 w : World} {σ σ' : Sg} {tm tm' : Tm} {a : Act} (t : TRW dl w0 σ tm a w) (f : ∀ dl, TR dl σ tm a → TR dl σ' tm' a) : TRW dl w0 σ' tm' a w := by
  obtain ⟨ds, h, t⟩ := t
  exact ⟨ds, h, f _ t⟩
theorem mark_no {P : Program} {σ : Sg} {h : List AObj} {w : World} (hr : RelH P σ h w) {D : Nat} (hd : w.heap[D]? = some (.deferred (some []))) : ¬ img σ h D := by
  rintro ⟨b, o, h1, h2, h3, h4, rfl⟩
  obtain ⟨ob, k1, k2⟩ := (hr.blk b o h1 h2 h3).rep h4
  have k1 : w.heap[σ.at_ b]? = some ob := k1
  rw [hd] at k1
  obtain rfl := Option.some.inj k1
  cases o with
  | siter s p => simp [Rep] at k2
  | imap w l => obtain ⟨es, c, h, -⟩ := k2; cases h
  | _ =>
    obtain ⟨a, t, fr, k, -⟩ := k2
    cases k
theorem wimg_img {σ : Sg} {h : List AObj} {r : Nat} (hi : wimg σ h r) : img σ h r := by
  obtain ⟨b, o, h1, h2, h3, h4, -, h6⟩ := hi
  exact ⟨b, o, h1, h2, h3, h4, h6⟩
theorem TRW.join {P : Program} {ds : List Nat} {w w1 w2 : World} {σ1 σ2 : Sg} {h1 h2 : List AObj} {tm : Tm} {a : Act} (hds : ds.Nodup ∧ ∀ D ∈ ds, w.heap.size ≤ D ∧ w1.heap[D]? = some (.deferred (some []))) (hs : w.heap.size ≤ w1.heap.size)
    (hr : RelH P σ1 h1 w1) (q : Went P σ1 h1 w1 σ2 h2 w2) (t : TRW (ds.map coll ++ dl) w1 σ2 tm a w2) : TRW dl w σ2 tm a w2 := by
  obtain ⟨ds2, k2, t2⟩ := t
  refine ⟨ds2 ++ ds, ⟨List.nodup_append.2 ⟨k2.1, hds.1, fun x hx y hy e => ?_⟩, fun D hD => ?_⟩, by rw [List.map_append, List.append_assoc]; exact t2⟩
  · have := (k2.2 x hx).1
    have := (Array.getElem?_eq_some_iff.1 (hds.2 y hy).2).1
    omega
  rcases List.mem_append.1 hD with hD | hD
  · exact ⟨Nat.le_trans hs (k2.2 D hD).1, (k2.2 D hD).2⟩
  · obtain ⟨e1, e2⟩ := hds.2 D hD
    exact ⟨e1, (q.frm.block D (Array.getElem?_eq_some_iff.1 e2).1 (fun hi => mark_no hr e2 (wimg_img hi))).trans e2⟩
/-- What a piece of code comes to (n: the blocks that keep their names). -/
def ARun (P : Program) (n : Nat) (c : Code) (tm : Tm) (h : List AObj) (e : AExit) (tm' : Tm) (h' : List AObj) : Prop :=
  n ≤ h.length → n ≤ h'.length ∧ ∀ (r : Option Nat) (dl : List Deferred) σ w a, Fr r c → Full σ h → RelH P σ h w → TR dl σ tm a →
    c.wpIn (wideR r) 0 P (fun x a' w' => x = e.out ∧ ∃ σ', Went P σ h w σ' h' w' ∧ Keeps n σ σ' ∧ TRW dl w σ' tm' a' w') a w

/-- what is only told in another way -/
inductive Gh where
  /-- a slot's nil slice is an empty row -/
  | nil (t s : Nat) (o : AObj)
  /-- a cell's nil slice is an empty row -/
  | nilc (b i s : Nat) (o : AObj)
  /-- a block under a new name -/
  | move (b : Nat)
  /-- a row that is not written any more -/
  | freeze (b : Nat)
  /-- a row of cells, told as one of numbers .. -/
  | view (b s n : Nat)
  /-- a nil slice within a slot's value is an empty row -/
  | nila (t : Nat) (p : List Nat) (s : Nat) (o : AObj)

inductive Orc where
  | br (b : Bool)
  /-- an index is just this one -/
  | at (j : Int)
  /-- a number that is handed on is just this one -/
  | lit (j : Int)
  | gh (g : Gh)
  /-- the same, at the end -/
  | fin (g : Gh)
  /-- so many rounds ahead, one by one -/
  | peel (k : Nat)
  | call (ι : List Nat) (res : AV) (upd : List (Nat × AObj)) (news : List AObj)
  | loop (keep : List Nat) (κ : List Nat) (e : AExit) (tm : Tm) (h : List AObj)

/-- a slot's Bool, decided -/
def decideT (tm : Tm) (d : Nat) (orc : List Orc) : Option (Bool × Tm × List Orc × List Prop) :=
  match tm[d]? with
  | some (some (.b b)) => some (b, tm, orc, [])
  | some (some (.v (.bool t))) => match orc with
    | .br b :: r => some (b, tm.set d (some (.b b)), r, [isB t b])
    | _ => none
  | _ => none
theorem decideT_sound {σ : Sg} {tm tm' : Tm} {a : Act} {d : Nat} {orc orc' : List Orc} {b : Bool} {cs : List Prop} (h : decideT tm d orc = some (b, tm', orc', cs)) (hc : All cs) (ht : TR dl σ tm a) :
    TR dl σ tm' a ∧ a.tmps[d]? = some (.bool b) := by
  unfold decideT at h
  split at h <;> try simp at h
  · rename_i b' hb
    obtain ⟨rfl, rfl, rfl, rfl⟩ := h
    exact ⟨ht, (ht.get d _ hb).1⟩
  · rename_i t hb
    split at h <;> simp at h
    rename_i b' r
    obtain ⟨rfl, rfl, rfl, rfl⟩ := h
    have e : t = b' := hc.1
    subst e
    exact ⟨ht.set_same hb rfl trivial, (ht.get d _ hb).1⟩

def wantA (ops : List Oper) (tm : Tm) (o : Oper) (orc : List Orc) : Option (Bool × Tm × List Orc × List Prop) :=
  match o.guard with
  | none => some (true, tm, orc, [])
  | some (j, want) => match ops[j]? with
    | some oj => match oj.dst with
      | some d => match tm[d]? with
        | some (some (.tup _)) => some (false, tm, orc, [])
        | _ => match decideT tm d orc with
          | some (b, tm', orc', cs) => some (b == want, tm', orc', cs)
          | none => none
      | none => none
    | none => none
theorem wantA_sound {σ : Sg} {ops : Array Oper} {tm tm' : Tm} {a : Act} {o : Oper} {orc orc' : List Orc} {b : Bool} {cs : List Prop} (h : wantA ops.toList tm o orc = some (b, tm', orc', cs)) (hc : All cs) (ht : TR dl σ tm a) :
    TR dl σ tm' a ∧ Region.wanted o (yielded ops a.tmps) = b := by
  unfold wantA at h
  split at h
  · rename_i hg
    simp at h; obtain ⟨rfl, rfl, rfl, rfl⟩ := h
    exact ⟨ht, by simp [Region.wanted, hg]⟩
  · rename_i j want hg
    split at h <;> try simp at h
    rename_i oj hoj
    have hoj' : ops[j]? = some oj := by simpa using hoj
    split at h <;> try simp at h
    rename_i d hd
    split at h
    · rename_i l hl
      simp at h; obtain ⟨rfl, rfl, rfl, rfl⟩ := h
      have h1 := (ht.get d _ hl).1
      refine ⟨ht, ?_⟩
      have hy : yielded ops a.tmps j = none := by simp [yielded, hoj', hd, h1, den]
      simp [Region.wanted, hg, hy]
    · split at h <;> simp at h
      rename_i b' tm1 orc1 cs1 hdec
      obtain ⟨rfl, rfl, rfl, rfl⟩ := h
      obtain ⟨k1, k2⟩ := decideT_sound hdec hc ht
      refine ⟨k1, ?_⟩
      have hy : yielded ops a.tmps j = some b' := by simp [yielded, hoj', hd, k2]
      simp [Region.wanted, hg, hy]

def putT (tm : Tm) (dst : Option Tmp) (v : AV) : Tm :=
  match dst with
  | some d => tm.set d (some v)
  | none => tm

def eqZ (a b : Int) : Prop := a = b
def hasN (s : ByteArray) (p : Nat) : Bool := decide (p < s.size)
def runeAt (s : ByteArray) (p : Nat) : Int := (Utf8.decode s p).1
def runeW (s : ByteArray) (p : Nat) : Nat := (Utf8.decode s p).2
/-- an operation whose index may be told -/
def ixA (P : Program) (tm : Tm) (h : List AObj) (op : Op) (i : Nat) (orc : List Orc) : Option (AV × Tm × List AObj × List Orc × List Prop) :=
  match orc, tm[i]? with
  | .at j :: r, some (some (.v (.int k n))) => match opA P (evalA (tm.set i (some (.v (.int k j))))) h op with
    | some q => some (q.val, tm.set i (some (.v (.int k j))), applyUpd q.upd (h ++ q.news), r, eqZ n j :: q.cs)
    | none => none
  | _, _ => match opA P (evalA tm) h op with
    | some q => some (q.val, tm, applyUpd q.upd (h ++ q.news), orc, q.cs)
    | none => none
def movA (tm : Tm) (h : List AObj) (a : Nat) (orc : List Orc) : Option (AV × Tm × List AObj × List Orc × List Prop) :=
  match orc, tm[a]? with
  | .lit j :: r, some (some (.v (.int k n))) => some (.v (.int k j), tm, h, r, [eqZ n j])
  | _, some (some x) => some (x, tm, h, orc, [])
  | _, _ => none
/-- a slice that is known not to be nil, held against nil -/
def nilA (P : Program) (tm : Tm) (h : List AObj) (o : Oper) (t : TypeId) (a : Nat) (res : Bool) (orc : List Orc) : Option (AV × Tm × List AObj × List Orc × List Prop) :=
  match tm[a]?, P.underlying t with
  | some (some (.sn _ _)), some (.slice _) => some (.b res, tm, h, orc, [])
  | _, _ => match opA P (evalA tm) h o.op with
    | some r => some (r.val, tm, applyUpd r.upd (h ++ r.news), orc, r.cs)
    | none => none
/-- one operation's value, heap and conditions -/
def stepA (P : Program) (tm : Tm) (h : List AObj) (o : Oper) (orc : List Orc) : Option (AV × Tm × List AObj × List Orc × List Prop) :=
  match o.op with
  | .pick (.tmp c) x y => match decideT tm c orc with
    | some (b, tm1, orc1, cs) => match (match b with | true => evalA tm1 x | false => evalA tm1 y) with
      | some v => some (v, tm1, h, orc1, cs)
      | none => none
    | none => none
  | .call c => match c.callee with
    | .value f => match evalA tm f, evalsA (evalA tm) c.args.toList, orc with
      | some (.fn (.func fid) caps), some args, .call ι res upd news :: r => match callA P h fid (args ++ caps) ι res upd news with
        | some (v, h', cs) => some (v, tm, h', r, cs)
        | none => none
      | _, _, _ => none
    | _ => match opA P (evalA tm) h o.op with
      | some r => some (r.val, tm, applyUpd r.upd (h ++ r.news), orc, r.cs)
      | none => none
  | .index t x (.tmp i) => ixA P tm h (.index t x (.tmp i)) i orc
  | .indexAddr t x (.tmp i) => ixA P tm h (.indexAddr t x (.tmp i)) i orc
  | .move (.tmp a) => movA tm h a orc
  | .assign (.tmp a) => movA tm h a orc
  | .binOp .eql t (.tmp a) (.const (.slice none 0 0)) _ => nilA P tm h o t a false orc
  | .binOp .neq t (.tmp a) (.const (.slice none 0 0)) _ => nilA P tm h o t a true orc
  | .next (.tmp it) true => match evalA tm (.tmp it), orc with
    | some (.ptr b 0), .br true :: r => match h[b]? with
      | some (.siter s p) => some (.tup [.b true, .v (.int .i64 (nlen p)), .v (.int .i32 (runeAt s p))], tm, h.set b (.siter s (addN p (runeW s p))), r, [isB (hasN s p) true])
      | _ => none
    | some (.ptr b 0), .br false :: r => match h[b]? with
      | some (.siter s p) => some (.tup [.b false], tm, h, r, [isB (hasN s p) false])
      | _ => none
    | _, _ => none
  | _ => match opA P (evalA tm) h o.op with
    | some r => some (r.val, tm, applyUpd r.upd (h ++ r.news), orc, r.cs)
    | none => none

theorem wfL_append {σ : Sg} {l m : List AV} : wfL σ (l ++ m) ↔ wfL σ l ∧ wfL σ m := by
  simp [wfL_iff, or_imp, forall_and]
theorem denL_append {σ : Sg} {l m : List AV} : denL σ (l ++ m) = denL σ l ++ denL σ m := by simp [denL_map]

theorem nil_in {P : Program} {w : World} {t e : TypeId} {A : Addr} {n c : Nat} (hu : P.underlying t = some (.slice e)) (d : Nat) : (Op.equalIn (d + 1) t (.slice (some A) n c) (.slice none 0 0)).run P w = .ok false w := by
  simp [Op.equalIn, run_underlying hu]
theorem step_sound {P : Program} {σ : Sg} {tm tm' : Tm} {h h' : List AObj} {w : World} {a : Act} {o : Oper} {orc orc' : List Orc} {v : AV} {cs : List Prop}
    (hs : stepA P tm h o orc = some (v, tm', h', orc', cs)) (hcs : All cs) (hf : Full σ h) (hr : RelH P σ h w) (ht : TR dl σ tm a) {K : Act → World → Prop} {Q : Exit → Act → World → Prop}
    (hK : ∀ σ' w', TR dl σ tm' a → Went P σ h w σ' h' w' → Keeps h.length σ σ' → Ext σ σ' → wf σ' v → K (a.put o.dst (den σ' v)) w') : o.wp P a w K Q := by
  have plain2 : ∀ {tm2 : Tm} {r : Res}, TR dl σ tm2 a → opA P (evalA tm2) h o.op = some r → All r.cs → (∀ σ' w', TR dl σ tm2 a → Went P σ h w σ' (applyUpd r.upd (h ++ r.news)) w' → Keeps h.length σ σ' → Ext σ σ' → wf σ' r.val → K (a.put o.dst (den σ' r.val)) w') → o.wp P a w K Q := by
    intro tm2 r ht hop hc hK
    obtain ⟨nx, w', v', σ', h1, h2, rfl, h4, h5, h6, h7⟩ := op_went hr hf (fun x v => ht.eval x v) hop hc
    unfold Oper.wp
    rw [h1]
    rcases h2 with rfl | ⟨rfl, hu⟩
    · exact hK σ' w' ht h7 h6 h5 h4
    · rw [Oper.upon_skip, ← hu]; exact hK σ' w' ht h7 h6 h5 h4
  have plain := fun {r : Res} => plain2 (r := r) ht
  have ixs : ∀ {i : Nat} {op : Op}, o.op = op → ixA P tm h op i orc = some (v, tm', h', orc', cs) → o.wp P a w K Q := by
    intro i op hop hx
    unfold ixA at hx
    split at hx
    · rename_i j r k n hti
      split at hx <;> simp at hx
      rename_i q hq
      obtain ⟨rfl, rfl, rfl, rfl, rfl⟩ := hx
      obtain ⟨hn, hc⟩ := hcs
      have hn : n = j := hn
      subst hn
      have ht2 := ht.set_same (y := .v (.int k n)) hti rfl trivial
      exact plain2 ht2 (by rw [hop]; exact hq) hc (fun σ' w' h1 h2 h3 h4 h5 => hK σ' w' h1 h2 h3 h4 h5)
    · split at hx <;> simp at hx
      rename_i q hq
      obtain ⟨rfl, rfl, rfl, rfl, rfl⟩ := hx
      exact plain (by rw [hop]; exact hq) hcs hK
  have movs : ∀ {x : Nat}, o.op = .move (.tmp x) ∨ o.op = .assign (.tmp x) → movA tm h x orc = some (v, tm', h', orc', cs) → o.wp P a w K Q := by
    intro x hop hx
    unfold movA at hx
    have run : ∀ y, tm[x]? = some (some y) → (execOp a.eval o).run P w = .ok (.value (den σ y)) w ∧ wf σ y := fun y hy => by
      obtain ⟨g1, g2⟩ := ht.get _ _ hy
      have e : a.eval (.tmp x) = den σ y := by simp [Act.eval, g1]
      exact ⟨by rcases hop with hop | hop <;> simp [execOp, hop, e], g2⟩
    split at hx <;> simp at hx
    · rename_i j r k n hy
      obtain ⟨rfl, rfl, rfl, rfl, rfl⟩ := hx
      obtain ⟨hrun, g2⟩ := run _ hy
      have hn : n = j := hcs.1
      subst hn
      unfold Oper.wp
      rw [hrun]
      exact hK σ w ht (Went.refl hr hf) (Keeps.refl _ _) (Ext.refl σ) g2
    · obtain ⟨rfl, rfl, rfl, rfl, rfl⟩ := hx
      obtain ⟨hrun, g2⟩ := run _ (by assumption)
      unfold Oper.wp
      rw [hrun]
      exact hK σ w ht (Went.refl hr hf) (Keeps.refl _ _) (Ext.refl σ) g2
  have nils : ∀ {op : BinOp} {t yt : TypeId} {x : Nat} {b : Bool}, o.op = .binOp op t (.tmp x) (.const (.slice none 0 0)) yt → (op = .eql ∧ b = false) ∨ (op = .neq ∧ b = true) → nilA P tm h o t x b orc = some (v, tm', h', orc', cs) → o.wp P a w K Q := by
    intro op t yt x b hop hb hx
    unfold nilA at hx
    split at hx
    · rename_i bb s e hx1 hu
      simp at hx
      obtain ⟨rfl, rfl, rfl, rfl, rfl⟩ := hx
      obtain ⟨g1, g2⟩ := ht.get _ _ hx1
      have hev : a.eval (.tmp x) = .slice (some ⟨σ.at_ bb, (σ.loc bb).off + 0, none⟩) ((σ.loc bb).len / s) ((σ.loc bb).cap / s) := by
        simp [Act.eval, g1, den, Loc.base, g2.2.2]
      have hq : (Op.equal t (a.eval (.tmp x)) (.slice none 0 0)).run P w = .ok false w := by
        rw [hev]; exact nil_in hu 9999
      have hgd : ∀ op, eqGuard op t (.tmp x) (.const (.slice none 0 0)) (a.eval (.tmp x)) (.slice none 0 0) = pure () := fun op => by rw [hev]; exact eqGuard_at_slice ..
      have hrun : (execOp a.eval o).run P w = .ok (.value (.bool b)) w := by
        rcases hb with ⟨rfl, rfl⟩ | ⟨rfl, rfl⟩
        · have hbo : binOp .eql t (a.eval (.tmp x)) (.slice none 0 0) = (do pure (.bool (← Op.equal t (a.eval (.tmp x)) (.slice none 0 0)))) := by rw [hev]; rfl
          simp only [execOp, hop]
          show (Sem.run P (do let y ← (do eqGuard .eql t (.tmp x) (.const (.slice none 0 0)) (a.eval (.tmp x)) (.slice none 0 0); binOp .eql t (a.eval (.tmp x)) (.slice none 0 0)); pure (Next.value y)) w) = _
          rw [hgd, hbo]; simp [hq]
        · have hbo : binOp .neq t (a.eval (.tmp x)) (.slice none 0 0) = (do pure (.bool (!(← Op.equal t (a.eval (.tmp x)) (.slice none 0 0))))) := by rw [hev]; rfl
          simp only [execOp, hop]
          show (Sem.run P (do let y ← (do eqGuard .neq t (.tmp x) (.const (.slice none 0 0)) (a.eval (.tmp x)) (.slice none 0 0); binOp .neq t (a.eval (.tmp x)) (.slice none 0 0)); pure (Next.value y)) w) = _
          rw [hgd, hbo]; simp [hq]
      unfold Oper.wp
      rw [hrun]
      exact hK σ w ht (Went.refl hr hf) (Keeps.refl _ _) (Ext.refl σ) trivial
    · split at hx <;> simp at hx
      rename_i r hr'
      obtain ⟨rfl, rfl, rfl, rfl, rfl⟩ := hx
      exact plain hr' hcs hK
  unfold stepA at hs
  split at hs
  · rename_i c x y hop
    split at hs <;> try simp at hs
    rename_i b tm1 orc1 cs1 hdec
    split at hs <;> simp at hs
    rename_i v1 hv
    obtain ⟨rfl, rfl, rfl, rfl, rfl⟩ := hs
    obtain ⟨k1, k2⟩ := decideT_sound hdec hcs ht
    have hc : a.eval (.tmp c) = .bool b := by simp [Act.eval, k2]
    unfold Oper.wp
    cases b with
    | true =>
      obtain ⟨e1, d1⟩ := k1.eval x v1 hv
      have : (execOp a.eval o).run P w = .ok (.value (den σ v1)) w := by simp [execOp, hop, hc, asBool, e1]
      rw [this]
      exact hK σ w k1 (Went.refl hr hf) (Keeps.refl _ _) (Ext.refl σ) d1
    | false =>
      obtain ⟨e1, d1⟩ := k1.eval y v1 hv
      have : (execOp a.eval o).run P w = .ok (.value (den σ v1)) w := by simp [execOp, hop, hc, asBool, e1]
      rw [this]
      exact hK σ w k1 (Went.refl hr hf) (Keeps.refl _ _) (Ext.refl σ) d1
  · rename_i c hop
    split at hs
    · rename_i f hcal
      split at hs <;> try simp at hs
      rename_i fid caps args ι res upd news r hef hea
      split at hs <;> simp at hs
      rename_i v1 h1 cs1 hca
      obtain ⟨rfl, rfl, rfl, rfl, rfl⟩ := hs
      obtain ⟨e1, d1⟩ := ht.eval f _ hef
      obtain ⟨e2, d2⟩ := evalsA_den (fun x v => ht.eval x v) hea
      obtain ⟨⟨fn, c1, c2, c3⟩, hcalls⟩ := call_sound hca hcs hf hr (wfL_append.2 ⟨d2, d1⟩)
      have hargs : c.args.map a.eval = (denL σ args).toArray := by cases hh : c.args; simp_all
      have hrun : (execOp a.eval o).run P w = .ok (.enter fid (denL σ (args ++ caps)).toArray) w := by
        simp only [execOp, hop, resolve, hcal]
        rw [hargs, e1]
        have n1 : ¬ fn.name = "runtime.NumGoroutine" := by simpa using c3
        have n2 : ¬ fn.body = none := by intro hb; rw [hb] at c2; simp at c2
        simp [den, Deferred.ofValue, invoke, callFunc, program, Sem.run, c1, n1, n2, denL_append]
      unfold Oper.wp
      rw [hrun, Oper.upon_enter]
      refine hcalls.mono ?_
      rintro e w' ⟨rs, q1, rfl, q3, q4⟩
      exact hK _ w' ht q4 (fun b hb => Sg.more_lt _ _ hb) (Sg.more_ext _ _ _ (fun b h1 h2 h3 => by have := (hf _).1 h3; omega)) q3
    · split at hs <;> simp at hs
      rename_i r hop'
      obtain ⟨rfl, rfl, rfl, rfl, rfl⟩ := hs
      exact plain hop' hcs hK
  · rename_i t x i hop
    exact ixs hop hs
  · rename_i t x i hop
    exact ixs hop hs
  · rename_i x hop
    exact movs (.inl hop) hs
  · rename_i x hop
    exact movs (.inr hop) hs
  · rename_i t x yt hop
    exact nils hop (.inl ⟨rfl, rfl⟩) hs
  · rename_i t x yt hop
    exact nils hop (.inr ⟨rfl, rfl⟩) hs
  · rename_i it hop
    have next : ∀ {b : Nat} {s : ByteArray} {p : Nat}, evalA tm (.tmp it) = some (.ptr b 0) → h[b]? = some (.siter s p) → a.eval (.tmp it) = .pointer (some ⟨σ.at_ b, (σ.loc b).off + 0, none⟩) ∧ σ.dom b ∧ Blk σ (.siter s p) w (σ.loc b) := by
      intro b s p he hb
      obtain ⟨e1, d1⟩ := ht.eval _ _ he
      exact ⟨e1, d1, hr.blk b _ d1 hb rfl⟩
    split at hs <;> try simp at hs
    · rename_i b r he
      split at hs <;> simp at hs
      rename_i s p hb
      obtain ⟨rfl, rfl, rfl, rfl, rfl⟩ := hs
      obtain ⟨e1, d1, hblk⟩ := next he hb
      have hs0 := hblk.it rfl
      obtain ⟨ob, r1, r2⟩ := hblk.rep hs0.1
      have r2 : ob = .stringIter s p := r2
      subst r2
      have hp : p < s.size := by have : hasN s p = true := hcs.1; simpa [hasN] using this
      have hrun : (execOp a.eval o).run P w = .ok (.value (.tuple #[.bool true, .int .i64 p, .int .i32 (runeAt s p)])) { w with heap := w.heap.setIfInBounds (σ.at_ b) (.stringIter s (p + runeW s p)) } := by
        have hr1 : w.heap[(σ.loc b).at_]? = some (.stringIter s p) := r1
        simp [execOp, hop, e1, hs0.2, Instr.next, getObj, setObj, Sem.run, hr1, hp, goInt, runeAt, runeW, Sg.at_]
      unfold Oper.wp
      rw [hrun]
      have hlt : σ.at_ b < w.heap.size := (Array.getElem?_eq_some_iff.1 r1).1
      obtain ⟨rs, q1, q2, q3, q4, q5, q6, q7⟩ := post_write (P := P) (n := h.length) (w' := { w with heap := w.heap.setIfInBounds (σ.at_ b) (.stringIter s (p + runeW s p)) }) (val := .tup [.b true, .v (.int .i64 (nlen p)), .v (.int .i32 (runeAt s p))]) hr d1 hb rfl rfl
        (o' := .siter s (addN p (runeW s p))) ⟨rfl, rfl, rfl, rfl, rfl⟩ trivial hs0.1 ⟨_, by simp [hlt]; rfl, rfl⟩ (fun r hne => by simp [Array.getElem?_setIfInBounds, Ne.symm hne]) (by simp) rfl rfl rfl ⟨trivial, trivial, trivial, trivial⟩
      obtain rfl : rs = [] := List.length_eq_zero_iff.1 q1
      rw [Sg.more_nil] at q4 q6 q7
      exact hK σ _ ht ⟨q4, fun c => by simp only [applyUpd, List.length_set]; exact hf c, q5, q6, q7⟩ (Keeps.refl _ _) (Ext.refl σ) ⟨trivial, trivial, trivial, trivial⟩
    · rename_i b r he
      split at hs <;> simp at hs
      rename_i s p hb
      obtain ⟨rfl, rfl, rfl, rfl, rfl⟩ := hs
      obtain ⟨e1, d1, hblk⟩ := next he hb
      have hs0 := hblk.it rfl
      obtain ⟨ob, r1, r2⟩ := hblk.rep hs0.1
      have r2 : ob = .stringIter s p := r2
      subst r2
      have hp : ¬ p < s.size := by have : hasN s p = false := hcs.1; simpa [hasN] using this
      have hrun : (execOp a.eval o).run P w = .ok (.value (.tuple #[.bool false])) w := by
        have hr1 : w.heap[(σ.loc b).at_]? = some (.stringIter s p) := r1
        simp [execOp, hop, e1, hs0.2, Instr.next, getObj, Sem.run, hr1, hp, Sg.at_]
      unfold Oper.wp
      rw [hrun]
      exact hK σ w ht (Went.refl hr hf) (Keeps.refl _ _) (Ext.refl σ) ⟨trivial, trivial⟩
  · split at hs <;> simp at hs
    rename_i r hop'
    obtain ⟨rfl, rfl, rfl, rfl, rfl⟩ := hs
    exact plain hop' hcs hK

/-- a region in the order of its text -/
def seqA (P : Program) (ops : List Oper) : List Oper → Tm → List AObj → List Orc → Option (Tm × List AObj × List Orc × List Prop)
  | [], tm, h, orc => some (tm, h, orc, [])
  | o :: l, tm, h, orc => match wantA ops tm o orc with
    | some (true, tm1, orc1, cs1) => match stepA P tm1 h o orc1 with
      | some (v, tm2, h2, orc2, cs2) => match seqA P ops l (putT tm2 o.dst v) h2 orc2 with
        | some (tm3, h3, orc3, cs3) => some (tm3, h3, orc3, cs1 ++ (cs2 ++ cs3))
        | none => none
      | none => none
    | some (false, tm1, orc1, cs1) => match seqA P ops l (putT tm1 o.dst (.tup [])) h orc1 with
      | some (tm3, h3, orc3, cs3) => some (tm3, h3, orc3, cs1 ++ cs3)
      | none => none
    | none => none

theorem stepA_length {P : Program} {tm tm' : Tm} {h h' : List AObj} {o : Oper} {orc orc' : List Orc} {v : AV} {cs : List Prop} (hs : stepA P tm h o orc = some (v, tm', h', orc', cs)) : h.length ≤ h'.length := by
  have plain : ∀ {r : Res}, h.length ≤ (applyUpd r.upd (h ++ r.news)).length := fun {r} => by simp
  have movl : ∀ {x : Nat}, movA tm h x orc = some (v, tm', h', orc', cs) → h.length ≤ h'.length := by
    intro x hx
    unfold movA at hx
    split at hx <;> simp at hx <;> (obtain ⟨-, -, rfl, -⟩ := hx; exact Nat.le_refl _)
  have nill : ∀ {t : TypeId} {x : Nat} {b : Bool}, nilA P tm h o t x b orc = some (v, tm', h', orc', cs) → h.length ≤ h'.length := by
    intro t x b hx
    unfold nilA at hx
    split at hx
    · simp at hx; obtain ⟨-, -, rfl, -⟩ := hx; exact Nat.le_refl _
    · split at hx <;> simp at hx
      obtain ⟨-, -, rfl, -⟩ := hx; exact plain
  have ixl : ∀ {op : Op} {i : Nat}, ixA P tm h op i orc = some (v, tm', h', orc', cs) → h.length ≤ h'.length := by
    intro op i hx
    unfold ixA at hx
    split at hx
    · split at hx <;> simp at hx
      obtain ⟨-, -, rfl, -⟩ := hx; exact plain
    · split at hx <;> simp at hx
      obtain ⟨-, -, rfl, -⟩ := hx; exact plain
  unfold stepA at hs
  split at hs
  · split at hs <;> try simp at hs
    split at hs <;> simp at hs
    obtain ⟨-, -, rfl, -⟩ := hs
    exact Nat.le_refl _
  · split at hs
    · split at hs <;> try simp at hs
      split at hs <;> simp at hs
      rename_i v1 h1 cs1 hca
      obtain ⟨rfl, rfl, rfl, rfl, rfl⟩ := hs
      unfold callA at hca
      split at hca <;> try simp at hca
      obtain ⟨-, -, rfl, -⟩ := hca
      simp
    · split at hs <;> simp at hs
      obtain ⟨rfl, rfl, rfl, rfl, rfl⟩ := hs
      exact plain
  · exact ixl hs
  · exact ixl hs
  · exact movl hs
  · exact movl hs
  · exact nill hs
  · exact nill hs
  · split at hs <;> try simp at hs
    · split at hs <;> simp at hs
      obtain ⟨-, rfl, rfl, rfl, rfl⟩ := hs; simp
    · split at hs <;> simp at hs
      obtain ⟨-, rfl, rfl, rfl, rfl⟩ := hs; simp
  · split at hs <;> simp at hs
    obtain ⟨rfl, rfl, rfl, rfl, rfl⟩ := hs
    exact plain

theorem seq_sound {P : Program} {ops : Array Oper} {Q : Exit → Act → World → Prop} : ∀ {l : List Oper} {σ : Sg} {tm tm' : Tm} {h h' : List AObj} {w : World} {a : Act} {orc orc' : List Orc} {cs : List Prop},
    seqA P ops.toList l tm h orc = some (tm', h', orc', cs) → All cs → Full σ h → RelH P σ h w → TR dl σ tm a →
    (∀ σ' w' a', Went P σ h w σ' h' w' → Keeps h.length σ σ' → TR dl σ' tm' a' → Q .normal a' w') → wpList P ops Q l a w
  | [], σ, tm, tm', h, h', w, a, orc, orc', cs, hs, hc, hf, hr, ht, hQ => by
    simp [seqA] at hs
    obtain ⟨rfl, rfl, rfl, rfl⟩ := hs
    exact hQ σ w a (Went.refl hr hf) (Keeps.refl _ _) ht
  | o :: l, σ, tm, tm', h, h', w, a, orc, orc', cs, hs, hc, hf, hr, ht, hQ => by
    simp only [seqA] at hs
    split at hs <;> try simp at hs
    · rename_i tm1 orc1 cs1 hwant
      split at hs <;> try simp at hs
      rename_i v tm2 h2 orc2 cs2 hstep
      split at hs <;> simp at hs
      rename_i tm3 h3 orc3 cs3 hrest
      obtain ⟨rfl, rfl, rfl, rfl⟩ := hs
      rw [All_append, All_append] at hc
      obtain ⟨k1, k2⟩ := wantA_sound hwant hc.1 ht
      unfold wpList
      rw [if_pos k2]
      refine .inl (step_sound hstep hc.2.1 hf hr k1 (fun σ' w' q0 q1 q2 q3 q4 => ?_))
      refine seq_sound hrest hc.2.2 q1.full q1.rel (q0.put q3 q4 o.dst) (fun σ'' w'' a'' r1 r2 r3 => hQ σ'' w'' a'' (q1.trans r1) (q2.trans (r2.mono (stepA_length hstep))) r3)
    · rename_i tm1 orc1 cs1 hwant
      split at hs <;> simp at hs
      rename_i tm3 h3 orc3 cs3 hrest
      obtain ⟨rfl, rfl, rfl, rfl⟩ := hs
      rw [All_append] at hc
      obtain ⟨k1, k2⟩ := wantA_sound hwant hc.1 ht
      unfold wpList
      rw [if_neg (by simp [k2])]
      exact seq_sound hrest hc.2 hf hr (k1.put (Ext.refl σ) (v := .tup []) trivial o.dst) hQ
theorem seqA_length {P : Program} {ops : List Oper} : ∀ {l : List Oper} {tm tm' : Tm} {h h' : List AObj} {orc orc' : List Orc} {cs : List Prop},
    seqA P ops l tm h orc = some (tm', h', orc', cs) → h.length ≤ h'.length
  | [], tm, tm', h, h', orc, orc', cs, hs => by
    simp [seqA] at hs
    obtain ⟨-, rfl, -⟩ := hs
    exact Nat.le_refl _
  | o :: l, tm, tm', h, h', orc, orc', cs, hs => by
    simp only [seqA] at hs
    split at hs <;> try simp at hs
    · split at hs <;> try simp at hs
      rename_i v tm2 h2 orc2 cs2 hstep
      split at hs <;> simp at hs
      rename_i tm3 h3 orc3 cs3 hrest
      obtain ⟨rfl, rfl, rfl, rfl⟩ := hs
      exact Nat.le_trans (stepA_length hstep) (seqA_length hrest)
    · split at hs <;> simp at hs
      rename_i tm3 h3 orc3 cs3 hrest
      obtain ⟨rfl, rfl, rfl, rfl⟩ := hs
      exact seqA_length hrest
end Go.Abs
