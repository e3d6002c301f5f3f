import Derived.WalkKit
import Derived.Orders
import Derived.KernelRfl
/- The abstract machine: values with block names of their own, a heap as a list, and what both denote. -/
set_option linter.unusedVariables false
namespace Go.Abs

inductive AV where
  | b (x : Bool)
  | v (x : Value)
  | ptr (b off : Nat)
  | sl (b off len cap : Nat)
  | fn (f : Fn) (cs : List AV)
  | agg (l : List AV)
  | tup (l : List AV)
  | ifc (t : TypeId) (x : AV)

structure Sg where
  at_ : Nat → Nat
  ext : Nat → Nat
  dom : Nat → Prop

mutual
def den (σ : Sg) : AV → Value
  | .b x => .bool x
  | .v x => x
  | .ptr b o => .pointer (some ⟨σ.at_ b, o, none⟩)
  | .sl b o n c => .slice (some ⟨σ.at_ b, o, none⟩) n (c + σ.ext b)
  | .fn f cs => .func f #[] (denL σ cs).toArray
  | .agg l => .agg (denL σ l).toArray
  | .tup l => .tuple (denL σ l).toArray
  | .ifc t x => .iface t (den σ x)
def denL (σ : Sg) : List AV → List Value
  | [] => []
  | x :: l => den σ x :: denL σ l
end

mutual
def wf (σ : Sg) : AV → Prop
  | .b _ => True
  | .v _ => True
  | .ptr b _ => σ.dom b
  | .sl b _ _ _ => σ.dom b
  | .fn _ cs => wfL σ cs
  | .agg l => wfL σ l
  | .tup l => wfL σ l
  | .ifc _ x => wf σ x
def wfL (σ : Sg) : List AV → Prop
  | [] => True
  | x :: l => wf σ x ∧ wfL σ l
end

theorem denL_map (σ : Sg) (l : List AV) : denL σ l = l.map (den σ) := by
  induction l with
  | nil => rfl
  | cons x l ih => simp [denL, ih]
@[simp] theorem denL_length (σ : Sg) (l : List AV) : (denL σ l).length = l.length := by simp [denL_map]
theorem wfL_iff (σ : Sg) (l : List AV) : wfL σ l ↔ ∀ x ∈ l, wf σ x := by
  induction l with
  | nil => simp [wfL]
  | cons x l ih => simp [wfL, ih]
theorem denL_getElem? (σ : Sg) (l : List AV) (i : Nat) : (denL σ l)[i]? = (l[i]?).map (den σ) := by simp [denL_map]

/-- σ' knows all that σ knows. -/
def Ext (σ σ' : Sg) : Prop := ∀ b, σ.dom b → σ'.dom b ∧ σ'.at_ b = σ.at_ b ∧ σ'.ext b = σ.ext b
theorem Ext.refl (σ : Sg) : Ext σ σ := fun _ h => ⟨h, rfl, rfl⟩
theorem Ext.trans {a b c : Sg} (h : Ext a b) (k : Ext b c) : Ext a c := fun x hx =>
  let ⟨h1, h2, h3⟩ := h x hx; let ⟨k1, k2, k3⟩ := k x h1; ⟨k1, k2.trans h2, k3.trans h3⟩

mutual
theorem den_ext {σ σ' : Sg} (h : Ext σ σ') : ∀ x, wf σ x → den σ' x = den σ x
  | .b _, _ => rfl
  | .v _, _ => rfl
  | .ptr b o, hx => by simp only [den]; rw [(h b hx).2.1]
  | .sl b o n c, hx => by simp only [den]; rw [(h b hx).2.1, (h b hx).2.2]
  | .fn f cs, hx => by simp only [den]; rw [denL_ext h cs hx]
  | .agg l, hx => by simp only [den]; rw [denL_ext h l hx]
  | .tup l, hx => by simp only [den]; rw [denL_ext h l hx]
  | .ifc t x, hx => by simp only [den]; rw [den_ext h x hx]
theorem denL_ext {σ σ' : Sg} (h : Ext σ σ') : ∀ l, wfL σ l → denL σ' l = denL σ l
  | [], _ => rfl
  | x :: l, hx => by simp only [denL]; rw [den_ext h x hx.1, denL_ext h l hx.2]
end
mutual
theorem wf_ext {σ σ' : Sg} (h : Ext σ σ') : ∀ x, wf σ x → wf σ' x
  | .b _, _ => trivial
  | .v _, _ => trivial
  | .ptr b o, hx => (h b hx).1
  | .sl b o n c, hx => (h b hx).1
  | .fn f cs, hx => wfL_ext h cs hx
  | .agg l, hx => wfL_ext h l hx
  | .tup l, hx => wfL_ext h l hx
  | .ifc t x, hx => wf_ext h x hx
theorem wfL_ext {σ σ' : Sg} (h : Ext σ σ') : ∀ l, wfL σ l → wfL σ' l
  | [], _ => trivial
  | x :: l, hx => ⟨wf_ext h x hx.1, wfL_ext h l hx.2⟩
end

/-- One object of the abstract heap: of no use any more; whole numbers of one kind; any values. -/
inductive AObj where
  | dead
  | ints (t : TypeId) (wr : Bool) (k : IntKind) (l : List Int)
  | bools (t : TypeId) (wr : Bool) (l : List Bool)
  | strs (t : TypeId) (wr : Bool) (l : List ByteArray)
  | cells (t : TypeId) (wr : Bool) (l : List AV)

def AObj.ty : AObj → TypeId
  | .dead => 0 | .ints t .. => t | .bools t .. => t | .strs t .. => t | .cells t .. => t
def AObj.wr : AObj → Bool
  | .dead => false | .ints _ w .. => w | .bools _ w .. => w | .strs _ w .. => w | .cells _ w .. => w
def AObj.live : AObj → Bool
  | .dead => false | _ => true
def AObj.len : AObj → Nat
  | .dead => 0 | .ints _ _ _ l => l.length | .bools _ _ l => l.length | .strs _ _ l => l.length | .cells _ _ l => l.length
def denO (σ : Sg) : AObj → List Value
  | .dead => []
  | .ints _ _ k l => l.map (.int k)
  | .bools _ _ l => l.map .bool
  | .strs _ _ l => l.map .string
  | .cells _ _ l => denL σ l
def wfO (σ : Sg) : AObj → Prop
  | .cells _ _ l => wfL σ l
  | _ => True
@[simp] theorem denO_length (σ : Sg) (o : AObj) : (denO σ o).length = o.len := by cases o <;> simp [denO, AObj.len]
theorem denO_ext {σ σ' : Sg} (h : Ext σ σ') (o : AObj) (ho : wfO σ o) : denO σ' o = denO σ o := by
  cases o <;> first | rfl | exact denL_ext h _ ho
theorem wfO_ext {σ σ' : Sg} (h : Ext σ σ') (o : AObj) (ho : wfO σ o) : wfO σ' o := by
  cases o <;> first | trivial | exact wfL_ext h _ ho

/-- What an object says of the block r of the real heap (e: how many elements more it has). -/
def Blk (P : Program) (σ : Sg) (o : AObj) (w : World) (r e : Nat) : Prop :=
  o.live = true → ∃ c fr, w.heap[r]? = some (.cells c o.ty fr) ∧ (o.wr = true → fr = (0, 0)) ∧ o.len + e * P.cellsOf o.ty ≤ c.size ∧
    ∀ (i : Nat) (v : Value), (denO σ o)[i]? = some v → c[i]? = some v

structure RelH (P : Program) (σ : Sg) (h : List AObj) (w : World) : Prop where
  lt : ∀ b, σ.dom b → b < h.length
  blk : ∀ b o, σ.dom b → h[b]? = some o → Blk P σ o w (σ.at_ b) (σ.ext b)
  inj : ∀ b b' o o', σ.dom b → σ.dom b' → h[b]? = some o → h[b']? = some o' → o.live = true → o'.live = true → σ.at_ b = σ.at_ b' → b = b'
  wfo : ∀ b o, σ.dom b → h[b]? = some o → wfO σ o

/-- The real blocks that live objects stand for. -/
def img (σ : Sg) (h : List AObj) (r : Nat) : Prop := ∃ b o, σ.dom b ∧ h[b]? = some o ∧ o.live = true ∧ σ.at_ b = r

/-- The real blocks of live objects that may be written. -/
def wimg (σ : Sg) (h : List AObj) (r : Nat) : Prop := ∃ b o, σ.dom b ∧ h[b]? = some o ∧ o.live = true ∧ o.wr = true ∧ σ.at_ b = r

/-- What stays of the real world. -/
structure Frm (M : Nat → Prop) (w w' : World) : Prop where
  os : w'.os = w.os
  tape : w'.tape = w.tape
  output : w'.output = w.output
  size : w.heap.size ≤ w'.heap.size
  block : ∀ r, r < w.heap.size → ¬ M r → w'.heap[r]? = w.heap[r]?
theorem Frm.refl (M : Nat → Prop) (w : World) : Frm M w w := ⟨rfl, rfl, rfl, Nat.le_refl _, fun _ _ _ => rfl⟩
theorem Frm.trans {M M' : Nat → Prop} {a b c : World} (h : Frm M a b) (k : Frm M' b c) (hm : ∀ r, M' r → M r ∨ a.heap.size ≤ r) : Frm M a c :=
  ⟨k.os.trans h.os, k.tape.trans h.tape, k.output.trans h.output, Nat.le_trans h.size k.size, fun r hr hn =>
    (k.block r (Nat.lt_of_lt_of_le hr h.size) (fun hM => by rcases hm r hM with h1 | h1; exact hn h1; omega)).trans (h.block r hr hn)⟩
theorem Frm.mono {M M' : Nat → Prop} {a b : World} (h : Frm M a b) (hm : ∀ r, M r → M' r ∨ a.heap.size ≤ r) : Frm M' a b :=
  ⟨h.os, h.tape, h.output, h.size, fun r hr hn => h.block r hr (fun hM => by rcases hm r hM with h1 | h1; exact hn h1; omega)⟩

theorem RelH.img_lt {P : Program} {σ : Sg} {h : List AObj} {w : World} (hr : RelH P σ h w) {r : Nat} (hi : img σ h r) : r < w.heap.size := by
  obtain ⟨b, o, hd, ho, hl, rfl⟩ := hi
  obtain ⟨c, fr, hc, _⟩ := hr.blk b o hd ho hl
  exact (Array.getElem?_eq_some_iff.1 hc).1

/-- A draw changes nothing that is told. -/
theorem RelH.heap_eq {P : Program} {σ : Sg} {h : List AObj} {w w' : World} (hr : RelH P σ h w) (hw : w'.heap = w.heap) : RelH P σ h w' :=
  ⟨hr.lt, fun b o hd ho hl => by rw [hw]; exact hr.blk b o hd ho hl, hr.inj, hr.wfo⟩

/-- σ with the blocks n, n+1, .. of a list of real ones. -/
def Sg.more (σ : Sg) (n : Nat) (rs : List (Nat × Nat)) : Sg where
  at_ b := if b < n then σ.at_ b else ((rs[b - n]?).map (·.1)).getD (σ.at_ b)
  ext b := if b < n then σ.ext b else ((rs[b - n]?).map (·.2)).getD (σ.ext b)
  dom b := σ.dom b ∨ (n ≤ b ∧ b < n + rs.length)

theorem Sg.more_ext (σ : Sg) (n : Nat) (rs : List (Nat × Nat)) (hf : ∀ b, n ≤ b → b < n + rs.length → ¬ σ.dom b) : Ext σ (σ.more n rs) := by
  intro b hb
  refine ⟨.inl hb, ?_, ?_⟩
  · simp only [Sg.more]
    by_cases h1 : b < n
    · rw [if_pos h1]
    · rw [if_neg h1]
      have : ¬ b < n + rs.length := fun h2 => hf b (by omega) h2 hb
      rw [List.getElem?_eq_none (by omega)]; rfl
  · simp only [Sg.more]
    by_cases h1 : b < n
    · rw [if_pos h1]
    · rw [if_neg h1]
      have : ¬ b < n + rs.length := fun h2 => hf b (by omega) h2 hb
      rw [List.getElem?_eq_none (by omega)]; rfl
end Go.Abs
