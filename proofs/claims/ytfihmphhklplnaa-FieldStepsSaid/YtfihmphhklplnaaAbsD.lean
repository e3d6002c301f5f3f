import Derived.Test.YtfihmphhklplnaaAbsT
set_option linter.unusedVariables false
/- The operations of the abstract machine, and that the real ones follow. -/
namespace Go.Abs

structure Res where
  val : AV
  news : List AObj := []
  upd : List (Nat × AObj) := []
  cs : List Prop := []

def sizeT (P : Program) (t : TypeId) : Option Nat := (P.info? t).map (·.size)
def aggT (P : Program) (t : TypeId) : Option Bool :=
  match P.underlying t with
  | some (.struct _) => some true
  | some (.array _ _) => some true
  | some _ => some false
  | none => none
/-- a type's zero value, cell by cell -/
def zeroT (P : Program) (t : TypeId) : Option (List AV) :=
  match P.info? t with
  | some i => match i.zero with
    | some z => (ofVal z).cs
    | none => none
  | none => none

/-- elements of which kind? -/
inductive EK where
  | ints (k : IntKind) | bools | strs | cells
def ekOf : List AV → EK
  | .v (.int k _) :: r => if r.all (fun x => match x with | .v (.int k' _) => k = k' | _ => false) then .ints k else .cells
  | .b _ :: r => if r.all (fun x => match x with | .b _ => true | _ => false) then .bools else .cells
  | .v (.bool _) :: r => if r.all (fun x => match x with | .b _ => true | .v (.bool _) => true | _ => false) then .bools else .cells
  | .v (.string _) :: r => if r.all (fun x => match x with | .v (.string _) => true | _ => false) then .strs else .cells
  | _ => .cells
def intsOf (k : IntKind) : List AV → Option (List Int)
  | [] => some []
  | .v (.int k' n) :: r => if k' = k then (intsOf k r).map (n :: ·) else none
  | _ :: _ => none
def boolsOf : List AV → Option (List Bool)
  | [] => some []
  | .b n :: r => (boolsOf r).map (n :: ·)
  | .v (.bool n) :: r => (boolsOf r).map (n :: ·)
  | _ :: _ => none
def strsOf : List AV → Option (List ByteArray)
  | [] => some []
  | .v (.string n) :: r => (strsOf r).map (n :: ·)
  | _ :: _ => none
/-- a row of elements of type elem, its cells told -/
def mkRow (elem : TypeId) (ek : EK) (l : List AV) : Option AObj :=
  match ek with
  | .ints k => (intsOf k l).map (.ints elem true k)
  | .bools => (boolsOf l).map (.bools elem true)
  | .strs => (strsOf l).map (.strs elem true)
  | .cells => some (.cells elem true l)

theorem intsOf_den {σ : Sg} {k : IntKind} : ∀ {l : List AV} {m : List Int}, intsOf k l = some m → m.map (Value.int k) = denL σ l
  | [], m, h => by simp [intsOf] at h; subst h; rfl
  | x :: r, m, h => by
    unfold intsOf at h
    split at h
    · simp at *
    · rename_i heq
      obtain ⟨rfl, rfl⟩ := heq
      split at h <;> simp at h
      obtain ⟨m', h1, rfl⟩ := h
      rename_i hk; subst hk
      simp [denL, den, intsOf_den (σ := σ) h1]
    · simp at h
theorem boolsOf_den {σ : Sg} : ∀ {l : List AV} {m : List Bool}, boolsOf l = some m → m.map Value.bool = denL σ l
  | [], m, h => by simp [boolsOf] at h; subst h; rfl
  | x :: r, m, h => by
    unfold boolsOf at h
    split at h
    · simp at *
    · rename_i heq; obtain ⟨rfl, rfl⟩ := heq
      simp at h; obtain ⟨m', h1, rfl⟩ := h
      simp [denL, den, boolsOf_den (σ := σ) h1]
    · rename_i heq; obtain ⟨rfl, rfl⟩ := heq
      simp at h; obtain ⟨m', h1, rfl⟩ := h
      simp [denL, den, boolsOf_den (σ := σ) h1]
    · simp at h
theorem strsOf_den {σ : Sg} : ∀ {l : List AV} {m : List ByteArray}, strsOf l = some m → m.map Value.string = denL σ l
  | [], m, h => by simp [strsOf] at h; subst h; rfl
  | x :: r, m, h => by
    unfold strsOf at h
    split at h
    · simp at *
    · rename_i heq; obtain ⟨rfl, rfl⟩ := heq
      simp at h; obtain ⟨m', h1, rfl⟩ := h
      simp [denL, den, strsOf_den (σ := σ) h1]
    · simp at h
theorem mkRow_den {σ : Sg} {elem : TypeId} {ek : EK} {l : List AV} {o : AObj} (h : mkRow elem ek l = some o) :
    denO σ o = denL σ l ∧ o.ty = elem ∧ o.wr = true ∧ o.live = true ∧ (wfL σ l → wfO σ o) := by
  cases ek <;> simp [mkRow] at h
  · obtain ⟨m, h1, rfl⟩ := h; exact ⟨intsOf_den h1, rfl, rfl, rfl, fun _ => trivial⟩
  · obtain ⟨m, h1, rfl⟩ := h; exact ⟨boolsOf_den h1, rfl, rfl, rfl, fun _ => trivial⟩
  · obtain ⟨m, h1, rfl⟩ := h; exact ⟨strsOf_den h1, rfl, rfl, rfl, fun _ => trivial⟩
  · subst h; exact ⟨rfl, rfl, rfl, rfl, id⟩

def intA (op : BinOp) (k : IntKind) (a b : Int) : Option (AV × List Prop) :=
  match op with
  | .add => some (.v (.int k (iadd k a b)), [])
  | .sub => some (.v (.int k (isub k a b)), [])
  | .mul => some (.v (.int k (imul k a b)), [])
  | .quo => some (.v (.int k (iquo k a b)), [nz b])
  | .rem => some (.v (.int k (irem a b)), [nz b])
  | .and => some (.v (.int k (iand k a b)), [])
  | .or => some (.v (.int k (ior k a b)), [])
  | .xor => some (.v (.int k (ixor k a b)), [])
  | .andNot => some (.v (.int k (iandn k a b)), [])
  | .eql => some (.v (.bool (ieq a b)), [])
  | .neq => some (.v (.bool (ine a b)), [])
  | .lss => some (.v (.bool (ilt a b)), [])
  | .leq => some (.v (.bool (ile a b)), [])
  | .gtr => some (.v (.bool (ilt b a)), [])
  | .geq => some (.v (.bool (ile b a)), [])
  | _ => none
def strA (op : BinOp) (a b : ByteArray) : Option (AV × List Prop) :=
  match op with
  | .add => some (.v (.string (sadd a b)), [sfit a b])
  | .eql => some (.v (.bool (seqS a b)), [])
  | .neq => some (.v (.bool (notB (seqS a b))), [])
  | _ => none
/-- '==' of what is no number -/
def eqA (P : Program) (t : TypeId) (x y : AV) : Option Bool :=
  match P.underlying t with
  | some (.pointer _) => match x, y with
    | .ptr _ _, .v (.pointer none) => some false
    | .v (.pointer none), .ptr _ _ => some false
    | .v (.pointer none), .v (.pointer none) => some true
    | _, _ => none
  | some (.slice _) => match x, y with
    | .sl _ _ _ _, .v (.slice none _ _) => some false
    | .v (.slice none _ _), .sl _ _ _ _ => some false
    | .v (.slice none _ _), .v (.slice none _ _) => some true
    | _, _ => none
  | some (.func _ _ _) => match x, y with
    | .fn _ _, .v .nilFunc => some false
    | .v .nilFunc, .fn _ _ => some false
    | .v .nilFunc, .v .nilFunc => some true
    | _, _ => none
  | _ => none
/-- the Bool of a value -/
def boolOf : AV → Option Bool
  | .b x => some x
  | .v (.bool x) => some x
  | _ => none
def binA (P : Program) (op : BinOp) (t : TypeId) (x y : AV) : Option (AV × List Prop) :=
  match x, y with
  | .v (.int k a), .v (.int k' b) =>
    match op with
    | .shl => some (.v (.int k (ishl k a b)), [nn b])
    | .shr => some (.v (.int k (ishr k a b)), [nn b])
    | _ => if k = k' then intA op k a b else none
  | .v (.string a), .v (.string b) => strA op a b
  | .agg l, .agg m => match op with
    | .eql => (aggEqA P t l m).map fun b => (.v (.bool b), [])
    | .neq => (aggEqA P t l m).map fun b => (.v (.bool (notB b)), [])
    | _ => none
  | x, y =>
    match P.underlying t with
    | some .bool => match boolOf x, boolOf y with
      | some a, some b => match op with
        | .eql => some (.v (.bool (beqB a b)), [])
        | .neq => some (.v (.bool (notB (beqB a b))), [])
        | _ => none
      | _, _ => none
    | _ => match op with
      | .eql => (eqA P t x y).map fun b => (.b b, [])
      | .neq => (eqA P t x y).map fun b => (.b (!b), [])
      | _ => none

/-- parts laid into cells -/
def fillA (place : Nat → Option (Nat × Nat)) (cells : List AV) : List (Nat × AV) → Option (List AV)
  | [] => some cells
  | (i, x) :: rest =>
    match place i, x.cs with
    | some (off, size), some xs =>
      if xs.length = size ∧ off + xs.length ≤ cells.length then fillA place (cells.take off ++ xs ++ cells.drop (off + xs.length)) rest else none
    | _, _ => none

def fieldT (P : Program) (s : TypeId) (f : Nat) : Option (Nat × Nat × TypeId) :=
  match P.underlying s with
  | some (.struct fields) => match fields[f]? with
    | some fd => match sizeT P fd.type with
      | some n => some (fd.offset, n, fd.type)
      | none => none
    | none => none
  | _ => none

def evalsA (ρ : Operand → Option AV) : List Operand → Option (List AV)
  | [] => some []
  | x :: l => match ρ x, evalsA ρ l with
    | some v, some vs => some (v :: vs)
    | _, _ => none
def partsA (ρ : Operand → Option AV) : List (Nat × Operand) → Option (List (Nat × AV))
  | [] => some []
  | (i, x) :: l => match ρ x, partsA ρ l with
    | some v, some vs => some ((i, v) :: vs)
    | _, _ => none

def repL (zs : List AV) : Nat → List AV
  | 0 => []
  | n + 1 => zs ++ repL zs n

/-- the builtins that are served -/
def builtA (P : Program) (h : List AObj) (b : Builtin) (ts : List TypeId) (args : List AV) : Option Res :=
  match b, args with
  | .len, [x] => match ts with
    | [t] => match P.underlying t, x with
      | some .string, .v (.string s) => some { val := .v (.int .i64 (slen s)) }
      | some (.slice _), .sl _ _ n _ => some { val := .v (.int .i64 (nlen n)) }
      | some (.slice _), .v (.slice _ n _) => some { val := .v (.int .i64 (nlen n)) }
      | some (.array n _), _ => some { val := .v (.int .i64 (nlen n)) }
      | _, _ => none
    | _ => none
  | .max, [.v (.int k x), .v (.int _ y)] => some { val := .v (.int k (imax x y)) }
  | .min, [.v (.int k x), .v (.int _ y)] => some { val := .v (.int k (imin x y)) }
  | _, _ => none

def placeT (P : Program) (fields : Array Field) (i : Nat) : Option (Nat × Nat) :=
  match fields[i]? with
  | some f => some (f.offset, P.cellsOf f.type)
  | none => none

def opA (P : Program) (ρ : Operand → Option AV) (h : List AObj) (op : Op) : Option Res :=
  match op with
  | .move x => (ρ x).map fun v => { val := v }
  | .assign x => (ρ x).map fun v => { val := v }
  | .pick c a b => match ρ c with
    | some (.b true) => (ρ a).map fun v => { val := v }
    | some (.b false) => (ρ b).map fun v => { val := v }
    | _ => none
  | .alloc elem => match zeroT P elem with
    | some zs => some { val := .ptr h.length 0, news := [.cells elem true zs] }
    | none => none
  | .box elem x => match ρ x with
    | some v => match v.cs with
      | some l => some { val := .ptr h.length 0, news := [.cells elem true l] }
      | none => none
    | none => none
  | .load t a => match ρ a, aggT P t, sizeT P t with
    | some (.ptr b off), some true, some n => match h[b]? with
      | some o => match o.getN off n with
        | some (l, cs) => if o.live then some { val := .agg l, cs := cs } else none
        | none => none
      | none => none
    | some (.ptr b off), some false, some _ => match h[b]? with
      | some o => match o.get off with
        | some (x, cs) => some { val := x, cs := cs }
        | none => none
      | none => none
    | _, _, _ => none
  | .store t a x => match ρ a, ρ x, sizeT P t with
    | some (.ptr b off), some v, some n => match h[b]?, v.cs with
      | some o, some l => if l.length = n ∧ l ≠ [] ∧ o.wr = true then match o.setN off l with
          | some (o', cs) => some { val := .tup [], upd := [(b, o')], cs := cs }
          | none => none
        else none
      | _, _ => none
    | _, _, _ => none
  | .nilCheck x => match ρ x with
    | some (.ptr b o) => some { val := .ptr b o }
    | some (.fn (.func f) cs) => some { val := .fn (.func f) cs }
    | _ => none
  | .binOp op t x y _ => match ρ x, ρ y with
    | some a, some b => (binA P op t a b).map fun r => { val := r.1, cs := r.2 }
    | _, _ => none
  | .unOp op _ x => match op, ρ x with
    | .not, some (.b b) => some { val := .b (!b) }
    | .not, some (.v (.bool b)) => some { val := .v (.bool (notB b)) }
    | .neg, some (.v (.int k n)) => some { val := .v (.int k (isub k 0 n)) }
    | .xor, some (.v (.int k n)) => some { val := .v (.int k (ixor k (if k.signed then -1 else k.max) n)) }
    | _, _ => none
  | .convert src dst x => match P.underlying src, P.underlying dst, ρ x with
    | some _, some (.int k), some (.v (.int _ n)) => some { val := .v (.int k (icv k n)) }
    | some .string, some .string, some (.v (.string s)) => some { val := .v (.string s) }
    | _, _, _ => none
  | .makeInterface t x => if P.concrete t then (ρ x).map fun v => { val := .ifc t v } else none
  | .makeFunc fn first captured => match first.toList, evalsA ρ captured.toList with
    | [], some cs => some { val := .fn fn cs }
    | _, _ => none
  | .fieldAddr s x f => match ρ x, fieldT P s f with
    | some (.ptr b o), some (off, n + 1, _) => some { val := .ptr b (addN o off) }
    | _, _ => none
  | .field t x f => match ρ x, fieldT P t f with
    | some (.agg l), some (off, n, ft) => match aggT P ft with
      | some true => if off + n ≤ l.length then some { val := .agg ((l.drop off).take n) } else none
      | some false => match l[off]? with
        | some v => some { val := v }
        | none => none
      | none => none
    | _, _ => none
  | .indexAddr t x i => match P.underlying t, ρ x, ρ i with
    | some (.array len e), some (.ptr b o), some (.v (.int _ n)) => match sizeT P e with
      | some s => some { val := .ptr b (offN o n s), cs := [inB n len] }
      | none => none
    | some (.slice e), some (.sl b o len _), some (.v (.int _ n)) => match sizeT P e with
      | some s => some { val := .ptr b (offN o n s), cs := [inB n len] }
      | none => none
    | _, _, _ => none
  | .index t x i => match P.underlying t, ρ x, ρ i with
    | some .string, some (.v (.string s)), some (.v (.int _ n)) => some { val := .v (.int .u8 (sget s n)), cs := [inB n s.size] }
    | some (.array len e), some (.agg l), some (.v (.int _ n)) => match sizeT P e, aggT P e with
      | some 1, some false => match l[n.toNat]? with
        | some v => some { val := v, cs := [inB n len] }
        | none => none
      | _, _ => none
    | _, _, _ => none
  | .extract x i => match ρ x with
    | some (.tup l) => match l[i]? with
      | some v => some { val := v }
      | none => none
    | _ => none
  | .build t parts => match P.underlying t, zeroT P t, partsA ρ parts.toList with
    | some (.struct fields), some zs, some ps => match fields.toList.all (fun f => (sizeT P f.type).isSome) with
      | true => match fillA (placeT P fields) zs ps with
        | some l => some { val := .agg l }
        | none => none
      | false => none
    | some (.array _ e), some zs, some ps => match sizeT P e with
      | some s => match fillA (fun i => some (i * s, s)) zs ps with
        | some l => some { val := .agg l }
        | none => none
      | none => none
    | _, _, _ => none
  | .buildSlice t len parts => match P.underlying t, partsA ρ parts.toList with
    | some (.slice e), some ps => match zeroT P e, sizeT P e with
      | some zs, some s =>
        if zs.length = s ∧ 0 < s ∧ len * s ≤ 2 ^ 24 then match fillA (fun i => some (i * s, s)) (repL zs len) ps with
          | some l => match mkRow e (ekOf zs) l with
            | some o => some { val := .sl h.length 0 len len, news := [o] }
            | none => none
          | none => none
        else none
      | _, _ => none
    | _, _ => none
  | .call c => match c.callee, evalsA ρ c.args.toList with
    | .builtin b, some args => builtA P h b c.argTypes.toList args
    | _, _ => none
  | _ => none
end Go.Abs
