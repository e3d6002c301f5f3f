import Derived.Test.YtffoldigaififaaAbsA
set_option linter.unusedVariables false
set_option linter.unusedSimpArgs false
/- The abstract machine's operations. -/
namespace Go.Abs

-- the words in which values are told
def iadd (k : IntKind) (a b : Int) : Int := k.wrap (a + b)
def isub (k : IntKind) (a b : Int) : Int := k.wrap (a - b)
def imul (k : IntKind) (a b : Int) : Int := k.wrap (a * b)
def iquo (k : IntKind) (a b : Int) : Int := k.wrap (a.tdiv b)
def irem (a b : Int) : Int := a.tmod b
def iand (k : IntKind) (a b : Int) : Int := bits .and k a b
def ior (k : IntKind) (a b : Int) : Int := bits .or k a b
def ixor (k : IntKind) (a b : Int) : Int := bits .xor k a b
def iandn (k : IntKind) (a b : Int) : Int := bits .andNot k a b
def ishl (k : IntKind) (a b : Int) : Int := k.wrap (a * 2 ^ (min b.toNat k.bits))
def ishr (k : IntKind) (a b : Int) : Int := a / 2 ^ (min b.toNat k.bits)
def icv (k : IntKind) (a : Int) : Int := k.wrap a
def imax (a b : Int) : Int := max a b
def imin (a b : Int) : Int := min a b
def ieq (a b : Int) : Bool := a == b
def ine (a b : Int) : Bool := a != b
def ilt (a b : Int) : Bool := decide (a < b)
def ile (a b : Int) : Bool := decide (a ≤ b)
def beqB (a b : Bool) : Bool := a == b
def notB (a : Bool) : Bool := !a
def seqS (a b : ByteArray) : Bool := a == b
def sadd (a b : ByteArray) : ByteArray := a ++ b
def slen (a : ByteArray) : Int := a.size
def sget (a : ByteArray) (i : Int) : Int := (a.data.toList.getD i.toNat 0).toNat
def nlen (n : Nat) : Int := n
def idxN (o : Nat) (i : Int) : Nat := o + i.toNat
def offN (o : Nat) (i : Int) (s : Nat) : Nat := o + i.toNat * s
def addN (o n : Nat) : Nat := o + n
def inB (i : Int) (n : Nat) : Prop := 0 ≤ i ∧ i < (n : Int)
def ltN (i n : Nat) : Prop := i < n
def nz (a : Int) : Prop := a ≠ 0
def nn (a : Int) : Prop := 0 ≤ a
def isB (a b : Bool) : Prop := a = b
def sfit (a b : ByteArray) : Prop := a.size + b.size ≤ 9223372036854775807
def lenI (l : List Int) : Nat := l.length
def getI (l : List Int) (i : Nat) : Int := l.getD i 0
def setI (l : List Int) (i : Nat) (n : Int) : List Int := l.set i n
def lenB (l : List Bool) : Nat := l.length
def getB (l : List Bool) (i : Nat) : Bool := l.getD i false
def setB (l : List Bool) (i : Nat) (n : Bool) : List Bool := l.set i n
def lenS (l : List ByteArray) : Nat := l.length
def getS (l : List ByteArray) (i : Nat) : ByteArray := l.getD i .empty
def setS (l : List ByteArray) (i : Nat) (n : ByteArray) : List ByteArray := l.set i n
def lenR (s : List CK) (l : List (El s)) : Nat := l.length
def getR (s : List CK) (l : List (El s)) (i : Nat) : El s := l.getD i (El.dflt s)
def setR (s : List CK) (l : List (El s)) (i : Nat) (n : El s) : List (El s) := l.set i n

def All : List Prop → Prop
  | [] => True
  | p :: l => p ∧ All l
theorem All_append {l m : List Prop} : All (l ++ m) ↔ All l ∧ All m := by
  induction l with
  | nil => simp [All]
  | cons p l ih => simp [All, ih, and_assoc]

def ofCell : Value → AV
  | x => .v x
def ofVal : Value → AV
  | .agg cs => .agg (cs.toList.map ofCell)
  | .tuple vs => .tup (vs.toList.map ofCell)
  | x => .v x
@[simp] theorem den_ofCell (σ : Sg) (x : Value) : den σ (ofCell x) = x := by cases x <;> rfl
@[simp] theorem wf_ofCell (σ : Sg) (x : Value) : wf σ (ofCell x) := by cases x <;> trivial
@[simp] theorem denL_ofCells (σ : Sg) (l : List Value) : denL σ (l.map ofCell) = l := by
  induction l with
  | nil => rfl
  | cons x l ih => simp [denL, ih]
@[simp] theorem wfL_ofCells (σ : Sg) (l : List Value) : wfL σ (l.map ofCell) := by
  induction l with
  | nil => trivial
  | cons x l ih => exact ⟨wf_ofCell σ x, ih⟩
@[simp] theorem den_ofVal (σ : Sg) (x : Value) : den σ (ofVal x) = x := by
  cases x <;> simp [ofVal, den]
@[simp] theorem wf_ofVal (σ : Sg) (x : Value) : wf σ (ofVal x) := by
  cases x <;> simp [ofVal, wf]

/-- a value of one cell -/
def AV.one : AV → Bool
  | .agg _ => false
  | .tup _ => false
  | .v (.agg _) => false
  | .v (.tuple _) => false
  | _ => true
/-- a value's cells -/
def AV.cs : AV → Option (List AV)
  | .agg l => if l.all AV.one then some l else none
  | .tup _ => none
  | .v (.agg _) => none
  | .v (.tuple _) => none
  | x => some [x]
theorem one_den {σ : Sg} {x : AV} (h : x.one = true) : (den σ x).oneCell' = true := by
  cases x with
  | v y => cases y <;> first | rfl | simp [AV.one] at h
  | _ => first | rfl | simp [AV.one] at h
theorem cs_one {x : AV} {l : List AV} (h : x.cs = some l) : ∀ y ∈ l, y.one = true := by
  have one1 : ∀ z : AV, z.one = true → ∀ y ∈ [z], y.one = true := fun z hz y hy => by simp at hy; exact hy ▸ hz
  cases x with
  | agg m => simp only [AV.cs] at h; split at h <;> simp at h; subst h; rename_i hh; simpa using hh
  | tup m => simp [AV.cs] at h
  | v y => cases y <;> simp [AV.cs] at h <;> subst h <;> exact one1 _ rfl
  | _ => simp [AV.cs] at h; subst h; exact one1 _ rfl
theorem cs_den {σ : Sg} {x : AV} {l : List AV} (h : x.cs = some l) : (den σ x).cells = (denL σ l).toArray := by
  cases x with
  | agg m => simp only [AV.cs] at h; split at h <;> simp at h; subst h; rfl
  | tup m => simp [AV.cs] at h
  | v y => cases y <;> simp [AV.cs] at h <;> subst h <;> rfl
  | _ => simp [AV.cs] at h; subst h; rfl
theorem cs_wf {σ : Sg} {x : AV} {l : List AV} (h : x.cs = some l) (hx : wf σ x) : wfL σ l := by
  cases x with
  | agg m => simp only [AV.cs] at h; split at h <;> simp at h; subst h; exact hx
  | tup m => simp [AV.cs] at h
  | v y => cases y <;> simp [AV.cs] at h <;> subst h <;> exact ⟨trivial, trivial⟩
  | _ => simp [AV.cs] at h; subst h; exact ⟨hx, trivial⟩

/-- one cell of an object -/
def AObj.get : AObj → Nat → Option (AV × List Prop)
  | .dead, _ => none
  | .rows .., _ => none
  | .siter .., _ => none
  | .imap .., _ => none
  | .ints _ _ k l, i => some (.v (.int k (getI l i)), [ltN i (lenI l)])
  | .bools _ _ l, i => some (.v (.bool (getB l i)), [ltN i (lenB l)])
  | .strs _ _ l, i => some (.v (.string (getS l i)), [ltN i (lenS l)])
  | .cells _ _ l, i => match l[i]? with
    | some x => some (x, [])
    | none => none
theorem get_den {σ : Sg} {o : AObj} {i : Nat} {x : AV} {cs : List Prop} (h : o.get i = some (x, cs)) (hc : All cs) :
    o.live = true ∧ o.row = true ∧ (denO σ o)[i]? = some (den σ x) ∧ (wfO σ o → wf σ x) := by
  cases o with
  | dead => simp [AObj.get] at h
  | rows w s l => simp [AObj.get] at h
  | siter s p => simp [AObj.get] at h
  | imap w l => simp [AObj.get] at h
  | ints t w k l =>
    simp only [AObj.get, Option.some.injEq, Prod.mk.injEq] at h
    obtain ⟨rfl, rfl⟩ := h
    have hi : i < l.length := hc.1
    exact ⟨rfl, rfl, by simp [denO, den, hi, getI, getB, getS], fun _ => trivial⟩
  | bools t w l =>
    simp only [AObj.get, Option.some.injEq, Prod.mk.injEq] at h
    obtain ⟨rfl, rfl⟩ := h
    have hi : i < l.length := hc.1
    exact ⟨rfl, rfl, by simp [denO, den, hi, getI, getB, getS], fun _ => trivial⟩
  | strs t w l =>
    simp only [AObj.get, Option.some.injEq, Prod.mk.injEq] at h
    obtain ⟨rfl, rfl⟩ := h
    have hi : i < l.length := hc.1
    exact ⟨rfl, rfl, by simp [denO, den, hi, getI, getB, getS], fun _ => trivial⟩
  | cells t w l =>
    simp only [AObj.get] at h
    split at h <;> simp at h
    rename_i y hy
    obtain ⟨rfl, rfl⟩ := h
    refine ⟨rfl, rfl, by simp [denO, denL_getElem?, hy], fun hw => ?_⟩
    exact (wfL_iff σ l).1 hw y (List.mem_of_getElem? hy)

/-- cells of an element -/
def CK.of : (c : CK) → AV → Option c.ty
  | .int k, .v (.int k' n) => if k' = k then some n else none
  | .bool, .b x => some x
  | .bool, .v (.bool x) => some x
  | .str, .v (.string x) => some x
  | _, _ => none
def El.of : (s : List CK) → List AV → Option (El s)
  | [], [] => some ()
  | [c], [x] => c.of x
  | c :: d :: r, x :: l => match c.of x, El.of (d :: r) l with
    | some a, some b => some (a, b)
    | _, _ => none
  | _, _ => none
theorem CK.of_den {σ : Sg} {c : CK} {x : AV} {y : c.ty} (h : c.of x = some y) : c.val y = den σ x := by
  unfold CK.of at h
  split at h
  · split at h <;> simp at h
    subst h; rename_i hk; subst hk; rfl
  all_goals (simp at h; try subst h; try rfl)
theorem El.of_den {σ : Sg} : ∀ {s : List CK} {l : List AV} {y : El s}, El.of s l = some y → El.vals s y = denL σ l
  | [], [], y, h => rfl
  | [], _ :: _, y, h => by simp [El.of] at h
  | [c], [], y, h => by simp [El.of] at h
  | [c], [x], y, h => by
    have := CK.of_den (σ := σ) (c := c) (x := x) (y := y) h
    simp only [El.vals, denL]; rw [this]
  | [c], _ :: _ :: _, y, h => by simp [El.of] at h
  | c :: d :: r, [], y, h => by simp [El.of] at h
  | c :: d :: r, x :: l, y, h => by
    simp only [El.of] at h
    split at h <;> simp at h
    rename_i a b h1 h2
    subst h
    simp only [El.vals, denL]; rw [CK.of_den (σ := σ) h1, El.of_den (σ := σ) h2]
/-- cells of an element of a row -/
def AObj.getE (o : AObj) (i s j n : Nat) : Option (List AV × List Prop) := match o with
  | .rows _ sh l => if sh.length = s ∧ j + n ≤ s then some (((((El.vals sh (getR sh l i)).map ofCell).drop j).take n), [ltN i (lenR sh l)]) else none
  | _ => none
theorem getE_den {σ : Sg} {o : AObj} {i s j n : Nat} {l : List AV} {cs : List Prop} (h : o.getE i s j n = some (l, cs)) (hc : All cs) :
    o.live = true ∧ o.row = true ∧ l.length = n ∧ (∀ k, k < n → (denO σ o)[i * s + j + k]? = (denL σ l)[k]?) ∧ wfL σ l := by
  unfold AObj.getE at h
  split at h <;> try simp at h
  rename_i w sh m
  obtain ⟨⟨h1, h2⟩, rfl, rfl⟩ := h
  have hi : i < m.length := hc.1
  subst h1
  refine ⟨rfl, rfl, by simp; omega, fun k hk => ?_, ?_⟩
  · have := flat_get (El.vals sh) sh.length (El.vals_length sh) m i (j + k) (by omega)
    rw [Nat.add_assoc]
    simp only [denO]
    rw [this]
    simp only [getR, List.getD, hi, List.getElem?_eq_getElem, Option.bind_some, Option.getD_some]
    rw [denL_map, List.getElem?_map, List.getElem?_take, if_pos hk, List.getElem?_drop, List.getElem?_map, Option.map_map]
    cases (El.vals sh m[i])[j + k]? <;> simp
  · have h3 := wfL_ofCells σ (El.vals sh (getR sh m i))
    rw [wfL_iff] at h3 ⊢
    intro x hx
    exact h3 x (List.mem_of_mem_drop (List.mem_of_mem_take hx))
def AObj.setE (o : AObj) (i s j : Nat) (vs : List AV) : Option (AObj × List Prop) := match o with
  | .rows w sh l => if sh.length = s ∧ j + vs.length ≤ s then
      match El.of sh (((El.vals sh (getR sh l i)).map ofCell).take j ++ vs ++ ((El.vals sh (getR sh l i)).map ofCell).drop (j + vs.length)) with
      | some e => some (.rows w sh (setR sh l i e), [ltN i (lenR sh l)])
      | none => none
    else none
  | _ => none

def AObj.getN (o : AObj) : Nat → Nat → Option (List AV × List Prop)
  | _, 0 => some ([], [])
  | i, n + 1 => match o.get i with
    | some (x, cs) => match AObj.getN o (i + 1) n with
      | some (l, ds) => some (x :: l, cs ++ ds)
      | none => none
    | none => none
theorem getN_den {σ : Sg} {o : AObj} : ∀ {n i : Nat} {l : List AV} {cs : List Prop}, o.getN i n = some (l, cs) → All cs →
    l.length = n ∧ (∀ j, j < n → (denO σ o)[i + j]? = (denL σ l)[j]?) ∧ (wfO σ o → wfL σ l)
  | 0, i, l, cs, h, hc => by
    simp only [AObj.getN, Option.some.injEq, Prod.mk.injEq] at h
    obtain ⟨rfl, rfl⟩ := h
    exact ⟨rfl, fun j hj => by omega, fun _ => trivial⟩
  | n + 1, i, l, cs, h, hc => by
    simp only [AObj.getN] at h
    split at h <;> try simp at h
    rename_i x cs1 hx
    split at h <;> simp at h
    rename_i l1 ds hl
    obtain ⟨rfl, rfl⟩ := h
    rw [All_append] at hc
    obtain ⟨-, -, h2, h3⟩ := get_den (σ := σ) hx hc.1
    obtain ⟨k1, k2, k3⟩ := getN_den (σ := σ) hl hc.2
    refine ⟨by simp [k1], fun j hj => ?_, fun hw => ⟨h3 hw, k3 hw⟩⟩
    cases j with
    | zero => simp [denL, h2]
    | succ j => have := k2 j (by omega); simp only [denL, List.getElem?_cons_succ]; rw [← this]; congr 1; omega

/-- one cell written -/
def AObj.set : AObj → Nat → AV → Option (AObj × List Prop)
  | .ints t w k l, i, .v (.int k' n) => if k' = k then some (.ints t w k (setI l i n), [ltN i (lenI l)]) else none
  | .bools t w l, i, .b x => some (.bools t w (setB l i x), [ltN i (lenB l)])
  | .bools t w l, i, .v (.bool x) => some (.bools t w (setB l i x), [ltN i (lenB l)])
  | .strs t w l, i, .v (.string x) => some (.strs t w (setS l i x), [ltN i (lenS l)])
  | .cells t w l, i, x => if i < l.length then some (.cells t w (l.set i x), []) else none
  | _, _, _ => none
/-- what a changed object keeps -/
structure Like (o o' : AObj) : Prop where
  row : o'.row = o.row
  wr : o'.wr = o.wr
  live : o'.live = o.live
  len : o'.len = o.len
  tag : o'.tag = o.tag
theorem Like.refl (o : AObj) : Like o o := ⟨rfl, rfl, rfl, rfl, rfl⟩
theorem Like.trans {a b c : AObj} (h : Like a b) (k : Like b c) : Like a c := ⟨k.row.trans h.row, k.wr.trans h.wr, k.live.trans h.live, k.len.trans h.len, k.tag.trans h.tag⟩
theorem denL_set (σ : Sg) (l : List AV) (i : Nat) (x : AV) : denL σ (l.set i x) = (denL σ l).set i (den σ x) := by
  simp [denL_map, List.map_set]
theorem set_den {σ : Sg} {o o' : AObj} {i : Nat} {x : AV} {cs : List Prop} (h : o.set i x = some (o', cs)) (hc : All cs) :
    Like o o' ∧ o.live = true ∧ i < o.len ∧ denO σ o' = (denO σ o).set i (den σ x) ∧ (wfO σ o → wf σ x → wfO σ o') := by
  unfold AObj.set at h
  split at h
  · split at h <;> simp at h
    rename_i hk; subst hk
    obtain ⟨rfl, rfl⟩ := h
    exact ⟨⟨rfl, rfl, rfl, by simp [AObj.len, setI, setB, setS], rfl⟩, rfl, hc.1, by simp [denO, den, List.map_set, setI, setB, setS], fun _ _ => trivial⟩
  · simp at h; obtain ⟨rfl, rfl⟩ := h
    exact ⟨⟨rfl, rfl, rfl, by simp [AObj.len, setI, setB, setS], rfl⟩, rfl, hc.1, by simp [denO, den, List.map_set, setI, setB, setS], fun _ _ => trivial⟩
  · simp at h; obtain ⟨rfl, rfl⟩ := h
    exact ⟨⟨rfl, rfl, rfl, by simp [AObj.len, setI, setB, setS], rfl⟩, rfl, hc.1, by simp [denO, den, List.map_set, setI, setB, setS], fun _ _ => trivial⟩
  · simp at h; obtain ⟨rfl, rfl⟩ := h
    exact ⟨⟨rfl, rfl, rfl, by simp [AObj.len, setI, setB, setS], rfl⟩, rfl, hc.1, by simp [denO, den, List.map_set, setI, setB, setS], fun _ _ => trivial⟩
  · split at h <;> simp at h
    obtain ⟨rfl, rfl⟩ := h
    rename_i hi
    refine ⟨⟨rfl, rfl, rfl, by simp [AObj.len], rfl⟩, rfl, hi, by simp [denO, denL_set], fun hw hx => ?_⟩
    rw [wfO, wfL_iff] at *
    intro y hy
    rcases List.mem_or_eq_of_mem_set hy with h1 | h1
    · exact hw y h1
    · exact h1 ▸ hx
  · simp at h

def AObj.setN (o : AObj) : Nat → List AV → Option (AObj × List Prop)
  | _, [] => some (o, [])
  | i, x :: l => match o.set i x with
    | some (o1, cs) => match AObj.setN o1 (i + 1) l with
      | some (o2, ds) => some (o2, cs ++ ds)
      | none => none
    | none => none
theorem setN_den {σ : Sg} : ∀ {l : List AV} {o o' : AObj} {i : Nat} {cs : List Prop}, o.setN i l = some (o', cs) → All cs →
    Like o o' ∧ (l ≠ [] → o.live = true ∧ i + l.length ≤ o.len) ∧
    denO σ o' = (denO σ o).take i ++ denL σ l ++ (denO σ o).drop (i + l.length) ∧ (wfO σ o → wfL σ l → wfO σ o')
  | [], o, o', i, cs, h, hc => by
    simp only [AObj.setN, Option.some.injEq, Prod.mk.injEq] at h
    obtain ⟨rfl, rfl⟩ := h
    exact ⟨Like.refl _, fun h => absurd rfl h, by simp [denL], fun h _ => h⟩
  | x :: l, o, o', i, cs, h, hc => by
    simp only [AObj.setN] at h
    split at h <;> try simp at h
    rename_i o1 cs1 h1
    split at h <;> simp at h
    rename_i o2 ds h2
    obtain ⟨rfl, rfl⟩ := h
    rw [All_append] at hc
    obtain ⟨a1, a2, a3, a4, a5⟩ := set_den (σ := σ) h1 hc.1
    obtain ⟨b1, b2, b3, b4⟩ := setN_den (σ := σ) h2 hc.2
    refine ⟨a1.trans b1, fun _ => ⟨a2, ?_⟩, ?_, fun hw hx => b4 (a5 hw hx.1) hx.2⟩
    · by_cases hl : l = []
      · subst hl; simp; omega
      · have := (b2 hl).2; rw [a1.len] at this; simp; omega
    · rw [b3, a4]
      have hlen : i < (denO σ o).length := by simpa using a3
      apply List.ext_getElem?
      intro j
      simp only [denL, List.append_assoc, List.length_cons, List.getElem?_append, List.length_take, List.length_set, List.getElem?_take, List.getElem?_drop, List.length_cons, denL_length, List.getElem?_set]
      by_cases hj : j < i
      · have e1 : j < min (i + 1) (denO σ o).length := by omega
        have e2 : j < min i (denO σ o).length := by omega
        simp only [e1, e2, if_true]
        rw [if_pos (by omega), if_neg (by omega), if_pos hj]
      · have e2 : ¬ j < min i (denO σ o).length := by omega
        rw [if_neg e2]
        by_cases hj2 : j = i
        · subst hj2
          have e1 : j < min (j + 1) (denO σ o).length := by omega
          rw [if_pos e1, if_pos (by omega), if_pos rfl, if_pos hlen]
          have m0 : min j o.len = j := by omega
          simp [m0]
        · have e1 : ¬ j < min (i + 1) (denO σ o).length := by omega
          rw [if_neg e1]
          have m1 : min (i + 1) (denO σ o).length = i + 1 := by omega
          have m2 : min i (denO σ o).length = i := by omega
          rw [m1, m2]
          have : j - i = (j - (i + 1)) + 1 := by omega
          rw [this]
          simp only [List.getElem?_cons_succ]
          by_cases hj3 : j - (i + 1) < l.length
          · rw [if_pos hj3, if_pos (by omega)]
          · rw [if_neg hj3, if_neg (by omega), if_neg (by omega)]
            congr 1; omega
theorem flat_set {α β : Type} (f : α → List β) (s : Nat) (h : ∀ x, (f x).length = s) (l : List α) (i : Nat) (x : α) (hi : i < l.length) :
    (l.set i x).flatMap f = (l.flatMap f).take (i * s) ++ f x ++ (l.flatMap f).drop (i * s + s) := by
  induction l generalizing i with
  | nil => simp at hi
  | cons y l ih =>
    cases i with
    | zero => simp [List.drop_append, h]
    | succ i =>
      rw [List.set_cons_succ, List.flatMap_cons, ih i (by simpa using hi), List.flatMap_cons]
      have e : (i + 1) * s = s + i * s := by rw [Nat.succ_mul]; omega
      have e2 : List.take (s + i * s) (f y ++ List.flatMap f l) = f y ++ List.take (i * s) (List.flatMap f l) := by
        rw [List.take_append, h, List.take_of_length_le (by rw [h]; omega)]
        congr 2; omega
      have e3 : List.drop (s + i * s + s) (f y ++ List.flatMap f l) = List.drop (i * s + s) (List.flatMap f l) := by
        rw [List.drop_append, h, List.drop_eq_nil_of_le (by rw [h]; omega)]
        simp only [List.nil_append]
        congr 1; omega
      rw [e, e2, e3]; simp
/-- part of an element written -/
theorem setE_den {σ : Sg} {o o' : AObj} {i s j : Nat} {vs : List AV} {cs : List Prop} (h : o.setE i s j vs = some (o', cs)) (hc : All cs) :
    Like o o' ∧ o.live = true ∧ o.row = true ∧ i * s + j + vs.length ≤ o.len ∧
    denO σ o' = (denO σ o).take (i * s + j) ++ denL σ vs ++ (denO σ o).drop (i * s + j + vs.length) ∧ wfO σ o' := by
  unfold AObj.setE at h
  split at h <;> try simp at h
  rename_i w sh m
  obtain ⟨⟨h1, h2⟩, h⟩ := h
  split at h <;> simp at h
  rename_i e he
  obtain ⟨rfl, rfl⟩ := h
  have hi : i < m.length := hc.1
  subst h1
  have hlt : i * sh.length + sh.length ≤ m.length * sh.length := by
    rw [← Nat.succ_mul]; exact Nat.mul_le_mul_right _ hi
  refine ⟨⟨rfl, rfl, rfl, by simp [AObj.len, setR], rfl⟩, rfl, rfl, by simp only [AObj.len]; omega, ?_, trivial⟩
  have hv := El.of_den (σ := σ) he
  have hfl : (m.flatMap (El.vals sh)).length = m.length * sh.length := flat_length _ _ (El.vals_length _) _
  have hg : ∀ k, k < sh.length → (m.flatMap (El.vals sh))[i * sh.length + k]? = (El.vals sh (getR sh m i))[k]? := fun k hk => by
    rw [flat_get (El.vals sh) sh.length (El.vals_length sh) m i k hk]
    simp [getR, List.getD, hi]
  simp only [denO, setR]
  rw [flat_set (El.vals sh) sh.length (El.vals_length sh) m i e hi, hv]
  apply List.ext_getElem?
  intro k
  have hvl : ((List.map ofCell (El.vals sh (getR sh m i))).take j ++ (vs ++ (List.map ofCell (El.vals sh (getR sh m i))).drop (j + vs.length))).length = sh.length := by
    simp; omega
  simp only [List.append_assoc, List.getElem?_append, List.length_take, hfl, List.getElem?_take, List.getElem?_drop, hvl, denL_length]
  have m1 : min (i * sh.length) (m.length * sh.length) = i * sh.length := by omega
  have m2 : min (i * sh.length + j) (m.length * sh.length) = i * sh.length + j := by omega
  rw [m1, m2]
  by_cases c1 : k < i * sh.length
  · rw [if_pos c1, if_pos c1, if_pos (by omega), if_pos (by omega)]
  rw [if_neg c1]
  by_cases c2 : k - i * sh.length < sh.length
  · rw [if_pos c2]
    rw [denL_map, List.getElem?_map]
    simp only [List.getElem?_append, List.length_take, List.length_map, El.vals_length, List.getElem?_take, List.getElem?_map, List.getElem?_drop]
    have m3 : min j sh.length = j := by omega
    rw [m3]
    by_cases c3 : k - i * sh.length < j
    · rw [if_pos c3, if_pos c3, if_pos (by omega), if_pos (by omega)]
      have := hg (k - i * sh.length) c2
      rw [show i * sh.length + (k - i * sh.length) = k by omega] at this
      rw [this, Option.map_map]; cases (El.vals sh (getR sh m i))[k - i * sh.length]? <;> simp
    · rw [if_neg c3, if_neg (show ¬ k < i * sh.length + j by omega)]
      by_cases c4 : k - i * sh.length - j < vs.length
      · rw [if_pos c4, if_pos (by omega), denL_map, List.getElem?_map, show k - (i * sh.length + j) = k - i * sh.length - j by omega]
      · rw [if_neg c4, if_neg (by omega)]
        have e1 : j + vs.length + (k - i * sh.length - j - vs.length) = k - i * sh.length := by omega
        have e2 : i * sh.length + j + vs.length + (k - (i * sh.length + j) - vs.length) = k := by omega
        rw [e1, e2]
        have := hg (k - i * sh.length) c2
        rw [show i * sh.length + (k - i * sh.length) = k by omega] at this
        rw [this, Option.map_map]; cases (El.vals sh (getR sh m i))[k - i * sh.length]? <;> simp
  · rw [if_neg c2, if_neg (by omega), if_neg (by omega)]
    congr 1; omega
end Go.Abs
