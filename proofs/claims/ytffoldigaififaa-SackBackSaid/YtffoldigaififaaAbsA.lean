import Derived.WalkKit
import Derived.MapKept
import Derived.Orders
import Derived.KernelRfl
import Derived.Laws.BytesArg
import Derived.Lib.ConvBytes
import Derived.Lib.FrozenHead
import Derived.Laws.OwnMore
import Derived.Laws.RangeString
import Derived.Laws.Runes
/- The abstract machine: values with block names of their own, a heap as a list, and what both denote. -/
set_option linter.unusedVariables false
namespace Go.Abs

inductive AV where
  | b (x : Bool)
  | v (x : Value)
  | ptr (b off : Nat)
  /-- cell j of element i of a row whose elements have s cells -/
  | pe (b i s j : Nat)
  /-- a slice that is all of its block's row -/
  | sw (b s : Nat)
  /-- the same, known not to be nil -/
  | sn (b s : Nat)
  /-- a slice of a block's row: from element off on, len elements; cap: as many, or up to the row's end; z: where it lies if there is no room -/
  | sl (b s z off len : Nat) (cap : Option Nat)
  | fn (f : Fn) (cs : List AV)
  | agg (l : List AV)
  | tup (l : List AV)
  | ifc (t : TypeId) (x : AV)
  /-- a map -/
  | mp (b : Nat)
  /-- a method value: a function and what it is bound to -/
  | mv (f : Fn) (cs : List AV)

/-- where an object lies: the block, its first cell, how many cells are known, how many there are; is nothing there (slices of it are nil)? -/
structure Loc where
  at_ : Nat
  off : Nat
  len : Nat
  cap : Nat
  nil : Bool
structure Sg where
  loc : Nat → Loc
  dom : Nat → Prop
abbrev Sg.at_ (σ : Sg) (b : Nat) : Nat := (σ.loc b).at_

/-- how many elements a slice has room for -/
def Loc.room (L : Loc) (s off : Nat) : Option Nat → Nat
  | some k => k
  | none => L.cap / s - off
def Loc.base (L : Loc) (i : Nat) : Option Addr := cond L.nil none (some ⟨L.at_, L.off + i, none⟩)
def slV (L : Loc) (s z off n r : Nat) : Value := .slice (L.base (cond (r == 0) z off * s)) n r

mutual
def den (σ : Sg) : AV → Value
  | .b x => .bool x
  | .v x => x
  | .ptr b o => .pointer (some ⟨σ.at_ b, (σ.loc b).off + o, none⟩)
  | .pe b i s j => .pointer (some ⟨σ.at_ b, (σ.loc b).off + (i * s + j), none⟩)
  | .sw b s => .slice ((σ.loc b).base 0) ((σ.loc b).len / s) ((σ.loc b).cap / s)
  | .sn b s => .slice ((σ.loc b).base 0) ((σ.loc b).len / s) ((σ.loc b).cap / s)
  | .sl b s z o n c => slV (σ.loc b) s z o n ((σ.loc b).room s o c)
  | .fn f cs => .func f #[] (denL σ cs).toArray
  | .agg l => .agg (denL σ l).toArray
  | .tup l => .tuple (denL σ l).toArray
  | .ifc t x => .iface t (den σ x)
  | .mp b => .map (some (σ.at_ b))
  | .mv f cs => .func f (denL σ cs).toArray #[]
def denL (σ : Sg) : List AV → List Value
  | [] => []
  | x :: l => den σ x :: denL σ l
end

/-- a slice lies in its row -/
def slOk (L : Loc) (s off n r : Nat) : Prop := 0 < s ∧ n ≤ r ∧ (off + r) * s ≤ L.cap
mutual
def wf (σ : Sg) : AV → Prop
  | .b _ => True
  | .v _ => True
  | .ptr b _ => σ.dom b
  | .pe b _ _ _ => σ.dom b
  | .sw b s => σ.dom b ∧ 0 < s
  | .sn b s => σ.dom b ∧ 0 < s ∧ (σ.loc b).nil = false
  | .sl b s _ o n c => σ.dom b ∧ slOk (σ.loc b) s o n ((σ.loc b).room s o c)
  | .fn _ cs => wfL σ cs
  | .agg l => wfL σ l
  | .tup l => wfL σ l
  | .ifc _ x => wf σ x
  | .mp b => σ.dom b
  | .mv _ cs => wfL σ cs
def wfL (σ : Sg) : List AV → Prop
  | [] => True
  | x :: l => wf σ x ∧ wfL σ l
end

theorem denL_map (σ : Sg) (l : List AV) : denL σ l = l.map (den σ) := by
  induction l with
  | nil => rfl
  | cons x l ih => simp [denL, ih]
@[simp] theorem denL_length (σ : Sg) (l : List AV) : (denL σ l).length = l.length := by simp [denL_map]
theorem wfL_iff (σ : Sg) (l : List AV) : wfL σ l ↔ ∀ x ∈ l, wf σ x := by
  induction l with
  | nil => simp [wfL]
  | cons x l ih => simp [wfL, ih]
theorem denL_getElem? (σ : Sg) (l : List AV) (i : Nat) : (denL σ l)[i]? = (l[i]?).map (den σ) := by simp [denL_map]

/-- σ' knows all that σ knows. -/
def Ext (σ σ' : Sg) : Prop := ∀ b, σ.dom b → σ'.dom b ∧ σ'.loc b = σ.loc b
theorem Ext.refl (σ : Sg) : Ext σ σ := fun _ h => ⟨h, rfl⟩
theorem Ext.trans {a b c : Sg} (h : Ext a b) (k : Ext b c) : Ext a c := fun x hx =>
  let ⟨h1, h2⟩ := h x hx; let ⟨k1, k2⟩ := k x h1; ⟨k1, k2.trans h2⟩

mutual
theorem den_ext {σ σ' : Sg} (h : Ext σ σ') : ∀ x, wf σ x → den σ' x = den σ x
  | .b _, _ => rfl
  | .v _, _ => rfl
  | .ptr b o, hx => by simp only [den, Sg.at_]; rw [(h b hx).2]
  | .pe b i s j, hx => by simp only [den, Sg.at_]; rw [(h b hx).2]
  | .sw b s, hx => by simp only [den]; rw [(h b hx.1).2]
  | .sn b s, hx => by simp only [den]; rw [(h b hx.1).2]
  | .sl b s z o n c, hx => by simp only [den]; rw [(h b hx.1).2]
  | .fn f cs, hx => by simp only [den]; rw [denL_ext h cs hx]
  | .agg l, hx => by simp only [den]; rw [denL_ext h l hx]
  | .tup l, hx => by simp only [den]; rw [denL_ext h l hx]
  | .ifc t x, hx => by simp only [den]; rw [den_ext h x hx]
  | .mp b, hx => by simp only [den, Sg.at_]; rw [(h b hx).2]
  | .mv f cs, hx => by simp only [den]; rw [denL_ext h cs hx]
theorem denL_ext {σ σ' : Sg} (h : Ext σ σ') : ∀ l, wfL σ l → denL σ' l = denL σ l
  | [], _ => rfl
  | x :: l, hx => by simp only [denL]; rw [den_ext h x hx.1, denL_ext h l hx.2]
end
mutual
theorem wf_ext {σ σ' : Sg} (h : Ext σ σ') : ∀ x, wf σ x → wf σ' x
  | .b _, _ => trivial
  | .v _, _ => trivial
  | .ptr b o, hx => (h b hx).1
  | .pe b _ _ _, hx => (h b hx).1
  | .sw b s, hx => ⟨(h b hx.1).1, hx.2⟩
  | .sn b s, hx => ⟨(h b hx.1).1, hx.2.1, by rw [(h b hx.1).2]; exact hx.2.2⟩
  | .sl b s z o n c, hx => ⟨(h b hx.1).1, by rw [(h b hx.1).2]; exact hx.2⟩
  | .fn f cs, hx => wfL_ext h cs hx
  | .agg l, hx => wfL_ext h l hx
  | .tup l, hx => wfL_ext h l hx
  | .ifc t x, hx => wf_ext h x hx
  | .mp b, hx => (h b hx).1
  | .mv f cs, hx => wfL_ext h cs hx
theorem wfL_ext {σ σ' : Sg} (h : Ext σ σ') : ∀ l, wfL σ l → wfL σ' l
  | [], _ => trivial
  | x :: l, hx => ⟨wf_ext h x hx.1, wfL_ext h l hx.2⟩
end

/-- a cell's kind; an element is a tuple of cells -/
inductive CK where
  | int (k : IntKind) | bool | str
  deriving DecidableEq
@[reducible] def CK.ty : CK → Type
  | .int _ => Int | .bool => Bool | .str => ByteArray
def CK.val : (c : CK) → c.ty → Value
  | .int k, x => .int k x
  | .bool, x => .bool x
  | .str, x => .string x
def CK.dflt : (c : CK) → c.ty
  | .int _ => (0 : Int) | .bool => false | .str => ByteArray.empty
@[reducible] def El : List CK → Type
  | [] => Unit
  | [c] => c.ty
  | c :: d :: r => c.ty × El (d :: r)
def El.vals : (s : List CK) → El s → List Value
  | [], _ => []
  | [c], x => [c.val x]
  | c :: d :: r, x => c.val x.1 :: El.vals (d :: r) x.2
def El.dflt : (s : List CK) → El s
  | [] => ()
  | [c] => c.dflt
  | c :: d :: r => (c.dflt, El.dflt (d :: r))
@[simp] theorem El.vals_length : ∀ (s : List CK) (x : El s), (El.vals s x).length = s.length
  | [], _ => rfl
  | [c], x => rfl
  | c :: d :: r, x => by simp [El.vals, El.vals_length (d :: r)]

/-- One object of the abstract heap: of no use any more; whole numbers of one kind; any values; rows of structs; a text that is gone over. -/
inductive AObj where
  | dead
  | ints (t : TypeId) (wr : Bool) (k : IntKind) (l : List Int)
  | bools (t : TypeId) (wr : Bool) (l : List Bool)
  | strs (t : TypeId) (wr : Bool) (l : List ByteArray)
  | rows (wr : Bool) (s : List CK) (l : List (El s))
  | cells (t : TypeId) (wr : Bool) (l : List AV)
  | siter (s : ByteArray) (pos : Nat)
  /-- a map: which whole numbers it has (with true) -/
  | imap (wr : Bool) (l : List Int)

def AObj.wr : AObj → Bool
  | .dead => false | .ints _ w .. => w | .bools _ w .. => w | .strs _ w .. => w | .rows w .. => w | .cells _ w .. => w | .siter .. => true | .imap w _ => w
def AObj.live : AObj → Bool
  | .dead => false | _ => true
/-- is it a row of cells? -/
def AObj.row : AObj → Bool
  | .siter .. => false | .imap .. => false | _ => true
def AObj.len : AObj → Nat
  | .dead => 0 | .ints _ _ _ l => l.length | .bools _ _ l => l.length | .strs _ _ l => l.length | .rows _ s l => l.length * s.length | .cells _ _ l => l.length | .siter .. => 0 | .imap .. => 0
def denO (σ : Sg) : AObj → List Value
  | .dead => []
  | .ints _ _ k l => l.map (.int k)
  | .bools _ _ l => l.map .bool
  | .strs _ _ l => l.map .string
  | .rows _ s l => l.flatMap (El.vals s)
  | .cells _ _ l => denL σ l
  | .siter .. => []
  | .imap .. => []
def wfO (σ : Sg) : AObj → Prop
  | .cells _ _ l => wfL σ l
  | _ => True
theorem flat_length {α β : Type} (f : α → List β) (s : Nat) (h : ∀ x, (f x).length = s) (l : List α) : (l.flatMap f).length = l.length * s := by
  induction l with
  | nil => simp
  | cons x l ih => simp only [List.flatMap_cons, List.length_append, h, ih, List.length_cons, Nat.succ_mul]; omega
theorem flat_get {α β : Type} (f : α → List β) (s : Nat) (h : ∀ x, (f x).length = s) (l : List α) (i j : Nat) (hj : j < s) : (l.flatMap f)[i * s + j]? = (l[i]?).bind fun x => (f x)[j]? := by
  induction l generalizing i with
  | nil => simp
  | cons x l ih =>
    cases i with
    | zero => simp [List.getElem?_append, h, hj]
    | succ i =>
      have e : (i + 1) * s + j - s = i * s + j := by rw [Nat.succ_mul]; omega
      rw [List.flatMap_cons, List.getElem?_append_right (by rw [h, Nat.succ_mul]; omega), h, e, ih]
      simp
@[simp] theorem denO_length (σ : Sg) (o : AObj) : (denO σ o).length = o.len := by
  cases o with
  | rows w s l => exact flat_length _ _ (El.vals_length _) _
  | _ => simp [denO, AObj.len]
theorem denO_ext {σ σ' : Sg} (h : Ext σ σ') (o : AObj) (ho : wfO σ o) : denO σ' o = denO σ o := by
  cases o <;> first | rfl | exact denL_ext h _ ho
theorem wfO_ext {σ σ' : Sg} (h : Ext σ σ') (o : AObj) (ho : wfO σ o) : wfO σ' o := by
  cases o <;> first | trivial | exact wfL_ext h _ ho

/-- what is known of the block's type (0: nothing); true: the block is just this object -/
def AObj.tag : AObj → TypeId × Bool
  | .ints t _ _ _ => (t, false) | .cells t _ _ => (t, true) | _ => (0, false)
def Tag (g : TypeId × Bool) (t : TypeId) (n : Nat) (L : Loc) : Prop := g.1 = 0 ∨ (t = g.1 ∧ (g.2 = true → L.off = 0 ∧ n = L.len))
theorem Tag.none {g : TypeId × Bool} {t : TypeId} {n : Nat} {L : Loc} (h : g.1 = 0) : Tag g t n L := .inl h
/-- none of these cells is frozen -/
def Unf (fr : Nat × Nat) (off cap : Nat) : Prop := ∀ i, i < cap → ¬ (fr.1 ≤ off + i ∧ off + i < fr.2)
/-- a row is no text's iterator -/
theorem rowNo {o : AObj} {p : Prop} (h : o.row = true) (k : o.row = false) : p := by rw [h] at k; simp at k
/-- a map of whole numbers: which ones it has, each with true -/
def MapI (l : List Int) (ob : Obj) : Prop := ∃ es clock, ob = .map es clock ∧ es.size ≤ l.length ∧ l.length ≤ 1000000 ∧ Go.MapKept.Stamped es clock ∧ (∀ x ∈ es.toList, ∃ a, x.key = .int .i64 a ∧ (Lit.int .i64 a).wf = true ∧ x.val = .bool true) ∧ (∀ a : Int, a ∈ l ↔ ∃ x ∈ es.toList, x.key = .int .i64 a)
def Rep (σ : Sg) (o : AObj) (L : Loc) (ob : Obj) : Prop := match o with
  | .siter s p => ob = .stringIter s p
  | .imap _ l => MapI l ob
  | o => ∃ a t fr, ob = .cells a t fr ∧ (o.wr = true → Unf fr L.off L.cap) ∧ (L.off + L.cap ≤ a.size ∧ Tag o.tag t a.size L) ∧ ∀ (i : Nat) (v : Value), (denO σ o)[i]? = some v → a[L.off + i]? = some v
theorem Rep.row {σ : Sg} {o : AObj} {L : Loc} {ob : Obj} (h : o.row = true) : Rep σ o L ob ↔
    ∃ a t fr, ob = .cells a t fr ∧ (o.wr = true → Unf fr L.off L.cap) ∧ (L.off + L.cap ≤ a.size ∧ Tag o.tag t a.size L) ∧ ∀ (i : Nat) (v : Value), (denO σ o)[i]? = some v → a[L.off + i]? = some v := by
  cases o <;> first | exact Iff.rfl | simp [AObj.row] at h
theorem Rep.ext {σ σ' : Sg} (h : Ext σ σ') {o : AObj} (ho : wfO σ o) {L : Loc} {ob : Obj} : Rep σ' o L ob ↔ Rep σ o L ob := by
  have := denO_ext h o ho
  cases o <;> first | exact Iff.rfl | (simp only [Rep]; rw [this])
structure Blk (σ : Sg) (o : AObj) (w : World) (L : Loc) : Prop where
  len : o.len = L.len
  le : L.len ≤ L.cap
  nil : L.nil = true → L.cap = 0
  rep : 0 < L.cap → ∃ ob, w.heap[L.at_]? = some ob ∧ Rep σ o L ob
  it : o.row = false → 0 < L.cap ∧ L.off = 0

structure RelC (P : Program) (σ : Sg) (h : List AObj) (w : World) : Prop where
  lt : ∀ b, σ.dom b → b < h.length
  blk : ∀ b o, σ.dom b → h[b]? = some o → o.live = true → Blk σ o w (σ.loc b)
  inj : ∀ b b' o o', σ.dom b → σ.dom b' → h[b]? = some o → h[b']? = some o' → o.live = true → o'.live = true → 0 < (σ.loc b).cap → 0 < (σ.loc b').cap → o.wr = true ∨ o'.wr = true → σ.at_ b = σ.at_ b' → b = b'
  wfo : ∀ b o, σ.dom b → h[b]? = some o → wfO σ o

/-- The real blocks that live objects stand for. -/
def img (σ : Sg) (h : List AObj) (r : Nat) : Prop := ∃ b o, σ.dom b ∧ h[b]? = some o ∧ o.live = true ∧ 0 < (σ.loc b).cap ∧ σ.at_ b = r

/-- The real blocks of live objects that may be written. -/
def wimg (σ : Sg) (h : List AObj) (r : Nat) : Prop := ∃ b o, σ.dom b ∧ h[b]? = some o ∧ o.live = true ∧ 0 < (σ.loc b).cap ∧ o.wr = true ∧ σ.at_ b = r

/-- What stays of the real world. -/
structure Frm (M : Nat → Prop) (w w' : World) : Prop where
  os : w'.os = w.os
  tape : w'.tape = w.tape
  output : w'.output = w.output
  size : w.heap.size ≤ w'.heap.size
  block : ∀ r, r < w.heap.size → ¬ M r → w'.heap[r]? = w.heap[r]?
theorem Frm.refl (M : Nat → Prop) (w : World) : Frm M w w := ⟨rfl, rfl, rfl, Nat.le_refl _, fun _ _ _ => rfl⟩
theorem Frm.trans {M M' : Nat → Prop} {a b c : World} (h : Frm M a b) (k : Frm M' b c) (hm : ∀ r, M' r → M r ∨ a.heap.size ≤ r) : Frm M a c :=
  ⟨k.os.trans h.os, k.tape.trans h.tape, k.output.trans h.output, Nat.le_trans h.size k.size, fun r hr hn =>
    (k.block r (Nat.lt_of_lt_of_le hr h.size) (fun hM => by rcases hm r hM with h1 | h1; exact hn h1; omega)).trans (h.block r hr hn)⟩
theorem Frm.mono {M M' : Nat → Prop} {a b : World} (h : Frm M a b) (hm : ∀ r, M r → M' r ∨ a.heap.size ≤ r) : Frm M' a b :=
  ⟨h.os, h.tape, h.output, h.size, fun r hr hn => h.block r hr (fun hM => by rcases hm r hM with h1 | h1; exact hn h1; omega)⟩

/-- what lies in the program's own variables (block, cells): a seat whose laws read such ones tells them here -/
def amb (P : Program) : List (Nat × List Value) := []
def Lies (w : World) (b : Nat) (cs : List Value) : Prop := ∃ t fz, w.heap[b]? = some (.cells cs.toArray t fz)
theorem Lies.heap {w w' : World} {b : Nat} {cs : List Value} (h : w'.heap[b]? = w.heap[b]?) : Lies w b cs → Lies w' b cs := fun ⟨t, f, e⟩ => ⟨t, f, h.trans e⟩
/-- it lies there, and nothing that may be written is there -/
def AmbOk (P : Program) (M : Nat → Prop) (w : World) : Prop := ∀ x ∈ amb P, Lies w x.1 x.2 ∧ ¬ M x.1
theorem AmbOk.lt {P : Program} {M : Nat → Prop} {w : World} (h : AmbOk P M w) {x : Nat × List Value} (hx : x ∈ amb P) : x.1 < w.heap.size := by
  obtain ⟨⟨t, f, e⟩, -⟩ := h x hx
  exact (Array.getElem?_eq_some_iff.1 e).1
theorem AmbOk.step {P : Program} {M M' : Nat → Prop} {w w' : World} (h : AmbOk P M w) (f : Frm M w w') (g : ∀ r, M' r → M r ∨ w.heap.size ≤ r) : AmbOk P M' w' := fun x hx => by
  have hl := h.lt hx
  obtain ⟨h1, h2⟩ := h x hx
  refine ⟨h1.heap (f.block _ hl h2), fun hm => ?_⟩
  rcases g _ hm with k | k
  · exact h2 k
  · omega
structure RelH (P : Program) (σ : Sg) (h : List AObj) (w : World) : Prop extends RelC P σ h w where
  amb : AmbOk P (wimg σ h) w
theorem RelH.step {P : Program} {σ σ' : Sg} {h h' : List AObj} {w w' : World} (hr : RelH P σ h w) (c : RelC P σ' h' w') (f : Frm (wimg σ h) w w') (g : ∀ r, wimg σ' h' r → wimg σ h r ∨ w.heap.size ≤ r) : RelH P σ' h' w' := ⟨c, hr.amb.step f g⟩

theorem RelH.img_lt {P : Program} {σ : Sg} {h : List AObj} {w : World} (hr : RelH P σ h w) {r : Nat} (hi : img σ h r) : r < w.heap.size := by
  obtain ⟨b, o, hd, ho, hl, hc, rfl⟩ := hi
  obtain ⟨ob, h1, -⟩ := (hr.blk b o hd ho hl).rep hc
  exact (Array.getElem?_eq_some_iff.1 h1).1

/-- A draw changes nothing that is told. -/
theorem Blk.heap_eq {σ : Sg} {o : AObj} {w w' : World} {L : Loc} (h : Blk σ o w L) (hw : 0 < L.cap → w'.heap[L.at_]? = w.heap[L.at_]?) : Blk σ o w' L :=
  ⟨h.len, h.le, h.nil, fun hc => by rw [hw hc]; exact h.rep hc, h.it⟩
theorem RelH.heap_eq {P : Program} {σ : Sg} {h : List AObj} {w w' : World} (hr : RelH P σ h w) (hw : w'.heap = w.heap) : RelH P σ h w' :=
  ⟨⟨hr.lt, fun b o hd ho hl => (hr.blk b o hd ho hl).heap_eq (fun _ => by rw [hw]), hr.inj, hr.wfo⟩, fun x hx => ⟨(hr.amb x hx).1.heap (by rw [hw]), (hr.amb x hx).2⟩⟩
theorem Blk.ext {σ σ' : Sg} (h : Ext σ σ') {o : AObj} (ho : wfO σ o) {w : World} {L : Loc} (hb : Blk σ o w L) : Blk σ' o w L :=
  ⟨hb.len, hb.le, hb.nil, fun hc => by obtain ⟨ob, h1, h2⟩ := hb.rep hc; exact ⟨ob, h1, (Rep.ext h ho).2 h2⟩, hb.it⟩

/-- σ with the blocks n, n+1, .. at these places. -/
def Sg.more (σ : Sg) (n : Nat) (rs : List Loc) : Sg where
  loc b := if b < n then σ.loc b else (rs[b - n]?).getD (σ.loc b)
  dom b := σ.dom b ∨ (n ≤ b ∧ b < n + rs.length)

theorem Sg.more_ext (σ : Sg) (n : Nat) (rs : List Loc) (hf : ∀ b, n ≤ b → b < n + rs.length → ¬ σ.dom b) : Ext σ (σ.more n rs) := by
  intro b hb
  refine ⟨.inl hb, ?_⟩
  simp only [Sg.more]
  by_cases h1 : b < n
  · rw [if_pos h1]
  · rw [if_neg h1]
    have : ¬ b < n + rs.length := fun h2 => hf b (by omega) h2 hb
    rw [List.getElem?_eq_none (by omega)]; rfl
end Go.Abs
