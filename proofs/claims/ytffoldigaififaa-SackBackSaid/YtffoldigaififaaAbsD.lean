import Derived.Test.YtffoldigaififaaAbsT
import Derived.Test.YtffoldigaififaaAbsU
set_option linter.unusedVariables false
/- The operations of the abstract machine, and that the real ones follow. -/
namespace Go.Abs

def sltS (a b : ByteArray) : Bool := Op.bytesLess a.toList b.toList
def runeS (n : Int) : ByteArray := Utf8.encode n
def sameT (P : Program) (src dst : TypeId) : Bool := false
structure Res where
  val : AV
  news : List AObj := []
  upd : List (Nat × AObj) := []
  cs : List Prop := []

def sizeT (P : Program) (t : TypeId) : Option Nat := (P.info? t).map (·.size)
def aggT (P : Program) (t : TypeId) : Option Bool :=
  match P.underlying t with
  | some (.struct _) => some true
  | some (.array _ _) => some true
  | some _ => some false
  | none => none
/-- a type's zero value, cell by cell -/
def zeroT (P : Program) (t : TypeId) : Option (List AV) :=
  match P.info? t with
  | some i => match i.zero with
    | some z => (ofVal z).cs
    | none => none
  | none => none

def intA (op : BinOp) (k : IntKind) (a b : Int) : Option (AV × List Prop) :=
  match op with
  | .add => some (.v (.int k (iadd k a b)), [])
  | .sub => some (.v (.int k (isub k a b)), [])
  | .mul => some (.v (.int k (imul k a b)), [])
  | .quo => some (.v (.int k (iquo k a b)), [nz b])
  | .rem => some (.v (.int k (irem a b)), [nz b])
  | .and => some (.v (.int k (iand k a b)), [])
  | .or => some (.v (.int k (ior k a b)), [])
  | .xor => some (.v (.int k (ixor k a b)), [])
  | .andNot => some (.v (.int k (iandn k a b)), [])
  | .eql => some (.v (.bool (ieq a b)), [])
  | .neq => some (.v (.bool (ine a b)), [])
  | .lss => some (.v (.bool (ilt a b)), [])
  | .leq => some (.v (.bool (ile a b)), [])
  | .gtr => some (.v (.bool (ilt b a)), [])
  | .geq => some (.v (.bool (ile b a)), [])
  | _ => none
def strA (op : BinOp) (a b : ByteArray) : Option (AV × List Prop) :=
  match op with
  | .add => some (.v (.string (sadd a b)), [sfit a b])
  | .eql => some (.v (.bool (seqS a b)), [])
  | .neq => some (.v (.bool (notB (seqS a b))), [])
  | .lss => some (.v (.bool (sltS a b)), [])
  | .leq => some (.v (.bool (notB (sltS b a))), [])
  | .gtr => some (.v (.bool (sltS b a)), [])
  | .geq => some (.v (.bool (notB (sltS a b))), [])
  | _ => none
/-- '==' of what is no number -/
def eqA (P : Program) (t : TypeId) (x y : AV) : Option Bool :=
  match P.underlying t with
  | some (.pointer te) => match x, y with
    | .ptr b i, .ptr c j => match P.info? te with
      | some _ => if b = c ∧ i = j then some true else none
      | none => none
    | .ptr _ _, .v (.pointer none) => some false
    | .v (.pointer none), .ptr _ _ => some false
    | .pe _ _ _ _, .v (.pointer none) => some false
    | .v (.pointer none), .pe _ _ _ _ => some false
    | .v (.pointer none), .v (.pointer none) => some true
    | _, _ => none
  | some (.slice _) => match x, y with
    | .v (.slice none _ _), .v (.slice none _ _) => some true
    | _, _ => none
  | some (.func _ _ _) => match x, y with
    | .fn _ _, .v .nilFunc => some false
    | .v .nilFunc, .fn _ _ => some false
    | .v .nilFunc, .v .nilFunc => some true
    | _, _ => none
  | _ => none
/-- the Bool of a value -/
def boolOf : AV → Option Bool
  | .b x => some x
  | .v (.bool x) => some x
  | _ => none
def binA (P : Program) (op : BinOp) (t : TypeId) (x y : AV) : Option (AV × List Prop) :=
  match x, y with
  | .v (.int k a), .v (.int k' b) =>
    match op with
    | .shl => some (.v (.int k (ishl k a b)), [nn b])
    | .shr => some (.v (.int k (ishr k a b)), [nn b])
    | _ => if k = k' then intA op k a b else none
  | .v (.string a), .v (.string b) => strA op a b
  | .agg l, .agg m => match op with
    | .eql => (aggEqA P t l m).map fun b => (.v (.bool b), [])
    | .neq => (aggEqA P t l m).map fun b => (.v (.bool (notB b)), [])
    | _ => none
  | x, y =>
    match P.underlying t with
    | some .bool => match boolOf x, boolOf y with
      | some a, some b => match op with
        | .eql => some (.v (.bool (beqB a b)), [])
        | .neq => some (.v (.bool (notB (beqB a b))), [])
        | _ => none
      | _, _ => none
    | _ => match op with
      | .eql => (eqA P t x y).map fun b => (.b b, [])
      | .neq => (eqA P t x y).map fun b => (.b (!b), [])
      | _ => none

/-- parts laid into cells -/
def fillA (place : Nat → Option (Nat × Nat)) (cells : List AV) : List (Nat × AV) → Option (List AV)
  | [] => some cells
  | (i, x) :: rest =>
    match place i, x.cs with
    | some (off, size), some xs =>
      if xs.length = size ∧ off + xs.length ≤ cells.length then fillA place (cells.take off ++ xs ++ cells.drop (off + xs.length)) rest else none
    | _, _ => none

def fieldT (P : Program) (s : TypeId) (f : Nat) : Option (Nat × Nat × TypeId) :=
  match P.underlying s with
  | some (.struct fields) => match fields[f]? with
    | some fd => match sizeT P fd.type with
      | some n => some (fd.offset, n, fd.type)
      | none => none
    | none => none
  | _ => none

def evalsA (ρ : Operand → Option AV) : List Operand → Option (List AV)
  | [] => some []
  | x :: l => match ρ x, evalsA ρ l with
    | some v, some vs => some (v :: vs)
    | _, _ => none
def partsA (ρ : Operand → Option AV) : List (Nat × Operand) → Option (List (Nat × AV))
  | [] => some []
  | (i, x) :: l => match ρ x, partsA ρ l with
    | some v, some vs => some ((i, v) :: vs)
    | _, _ => none

def repL (zs : List AV) : Nat → List AV
  | 0 => []
  | n + 1 => zs ++ repL zs n

/-- the same row, to be written or not -/
def AObj.setW (w : Bool) : AObj → AObj
  | .ints t _ k l => .ints t w k l
  | .bools t _ l => .bools t w l
  | .strs t _ l => .strs t w l
  | .rows _ s l => .rows w s l
  | .cells t _ l => .cells t w l
  | .imap _ l => .imap w l
  | o => o
@[simp] theorem setW_tag (w : Bool) (o : AObj) : (o.setW w).tag = o.tag := by cases o <;> rfl
def AObj.ones : AObj → Bool
  | .cells _ _ l => l.all AV.one
  | _ => true
def bytesI (s : ByteArray) : List Int := s.data.toList.map fun b => (b.toNat : Int)
def slenN (s : ByteArray) : Nat := s.size
def strI (l : List Int) : ByteArray := strOfNums l
def ssub (s : ByteArray) (i j : Int) : ByteArray := s.extract i.toNat j.toNat
def fitN (n bytes : Nat) : Prop := n * bytes ≤ 140737488355328
def growN (k n : Nat) : Prop := k = 0 ∨ k < n
def inC (i j n : Int) : Prop := 0 ≤ i ∧ i ≤ j ∧ j ≤ n
def zOk (z off : Nat) (m l : Int) : Prop := z = off ∨ l < m
def zN (l : Int) (z off : Nat) : Nat := bif l == 0 then z else off
def subN (h l : Int) : Nat := (h - l).toNat

/-- the tag of a row of e's -/
def tagE (P : Program) (e : TypeId) : TypeId := match P.underlying e with
  | some (.int .u8) => e
  | _ => 0
/-- the same row, its block's type told -/
def AObj.reTag (t : TypeId) : AObj → AObj
  | .ints _ w k l => .ints t w k l
  | .cells _ w l => .cells 0 w l
  | o => o
/-- may it lie in a new block of type e? -/
def AObj.tagOk (o : AObj) (e : TypeId) : Bool := o.tag.1 == 0 || (o.tag.1 == e && !o.tag.2)
@[simp] theorem reTag_den (σ : Sg) (t : TypeId) (o : AObj) : denO σ (o.reTag t) = denO σ o := by cases o <;> rfl
@[simp] theorem reTag_row (t : TypeId) (o : AObj) : (o.reTag t).row = o.row := by cases o <;> rfl
@[simp] theorem reTag_wr (t : TypeId) (o : AObj) : (o.reTag t).wr = o.wr := by cases o <;> rfl
theorem reTag_wf (σ : Sg) (t : TypeId) (o : AObj) (h : wfO σ o) : wfO σ (o.reTag t) := by cases o <;> exact h
theorem reTag_ok (t e : TypeId) (o : AObj) (h : t = 0 ∨ t = e) : (o.reTag t).tagOk e = true := by
  unfold AObj.tagOk
  cases o <;> rcases h with rfl | rfl <;> simp [AObj.reTag, AObj.tag]
theorem tagOk_spec {o : AObj} {e : TypeId} (h : o.tagOk e = true) : o.tag.1 = 0 ∨ (o.tag.1 = e ∧ o.tag.2 = false) := by
  unfold AObj.tagOk at h
  simp at h; exact h
theorem tagE_or (P : Program) (e : TypeId) : tagE P e = 0 ∨ tagE P e = e := by
  unfold tagE; split
  · exact .inr rfl
  · exact .inl rfl
/-- a struct whose first field points to just such a struct (strings.Builder) -/
def selfT (P : Program) (e : TypeId) : Bool := match P.underlying e with
  | some (.struct fs) => match fs[0]? with
    | some f => match P.underlying f.type with
      | some (.pointer u) => u == e
      | _ => false
    | none => false
  | _ => false
/-- the tag of a struct's block: such a struct, or one that begins with it -/
def tagS (P : Program) (e : TypeId) : TypeId := match P.underlying e with
  | some (.struct fs) => match fs[0]? with
    | some f => match selfT P e || selfT P f.type with
      | true => e
      | false => 0
    | none => 0
  | _ => 0
theorem tagS_or (P : Program) (e : TypeId) : tagS P e = 0 ∨ tagS P e = e := by
  unfold tagS
  split
  · split
    · split
      · exact .inr rfl
      · exact .inl rfl
    · exact .inl rfl
  · exact .inl rfl
/-- what a slice holds, as a row of its own; how many elements -/
def contA (h : List AObj) (s : Nat) (w : Bool) : AV → Option (AObj × Nat × List Prop)
  | .sw b s' => if s' = s then match h[b]? with
      | some o => match o.cnt s with
        | some m => some (o.setW w, m, [])
        | none => none
      | none => none
    else none
  | .sl b s' _ off n _ => if s' = s then match h[b]? with
      | some o => match o.win s off n w with
        | some (o', cs) => some (o', n, cs)
        | none => none
      | none => none
    else none
  | .v (.string str) => if s = 1 then some (.ints 0 w .u8 (bytesI str), slenN str, []) else none
  | _ => none
def appA (P : Program) (h : List AObj) (t : TypeId) (x y : AV) : Option Res :=
  match P.underlying t with
  | some (.slice e) => match P.info? e, zeroT P e with
    | some i, some zs => if zs.length = i.size ∧ 0 < i.size ∧ 0 < i.bytes then match contA h i.size true y with
      | some (o', m, cs) => if o'.ones = false then none else match x with
        | .v (.slice none 0 0) => some { val := .sw h.length i.size, news := [o'.reTag (tagE P e)], cs := cs ++ [fitN m i.bytes] }
        | .sw b s => if s = i.size then match h[b]? with
            | some o => match o.wr, o.cnt s, o.app o', o.tagOk e with
              | true, some n, some p, true => some { val := .sw h.length s, news := [p], upd := [(b, .dead)], cs := cs ++ [fitN (addN n m) i.bytes] }
              | _, _, _, _ => none
            | none => none
          else none
        | .sl b s z off n none => if s = i.size then match h[b]? with
            | some o => match o.wr, o.win s off n true with
              | true, some (q, ds) => match q.app o' with
                | some p => some { val := .sw h.length s, news := [p], upd := [(b, .dead)], cs := cs ++ (ds ++ [fitN (addN n m) i.bytes]) }
                | none => none
              | _, _ => none
            | none => none
          else none
        | .sl b s z off n (some k) => if s = i.size then match h[b]? with
            | some o => match o.win s off n true with
              | some (q, ds) => match q.app o' with
                | some p => some { val := .sw h.length s, news := [p], cs := cs ++ (ds ++ [growN k (addN n m), fitN (addN n m) i.bytes]) }
                | none => none
              | none => none
            | none => none
          else none
        | _ => none
      | none => match x, y with
        | .v (.slice none 0 0), .v (.slice none 0 0) => some { val := x }
        | .sw b s, .v (.slice none 0 0) => match h[b]? with
          | some o => match o.cnt s with
            | some _ => some { val := x }
            | none => none
          | none => none
        | .sl b s z off n c, .v (.slice none 0 0) => some { val := x }
        | _, _ => none
      else none
    | _, _ => none
  | _ => none
def copyA (P : Program) (h : List AObj) (t : TypeId) (x y : AV) : Option Res :=
  match P.underlying t with
  | some (.slice e) => match P.info? e with
    | some i => if 0 < i.size then match x, contA h i.size true y with
      | .sw b s, some (o', m, cs) => if s = i.size then match h[b]? with
          | some o => match o.wr, o.cnt s with
            | true, some n => match o'.win s 0 (minN m n) true with
              | some (q, ds) => match o.lay s 0 q with
                | some (p, es) => if q.ones = true then some { val := .v (.int .i64 (nlen (minN m n))), upd := [(b, p)], cs := cs ++ (ds ++ es) } else none
                | none => none
              | none => none
            | _, _ => none
          | none => none
        else none
      | .sl b s z off n c, some (o', m, cs) => if s = i.size then match h[b]? with
          | some o => match o.wr with
            | true => match o.win s off n true with
              | some (_, ds0) => match o'.win s 0 (minN m n) true with
                | some (q, ds) => match o.lay s off q with
                  | some (p, es) => if q.ones = true then some { val := .v (.int .i64 (nlen (minN m n))), upd := [(b, p)], cs := cs ++ (ds0 ++ (ds ++ es)) } else none
                  | none => none
                | none => none
              | none => none
            | _ => none
          | none => none
        else none
      | _, _ => none
      else none
    | none => none
  | _ => none
/-- the builtins that are served -/
def builtA (P : Program) (h : List AObj) (b : Builtin) (ts : List TypeId) (args : List AV) : Option Res :=
  match b, args with
  | .len, [x] => match ts with
    | [t] => match P.underlying t, x with
      | some .string, .v (.string s) => some { val := .v (.int .i64 (slen s)) }
      | some (.slice _), .sw b s => match h[b]? with
        | some o => match o.cnt s with
          | some m => some { val := .v (.int .i64 (nlen m)) }
          | none => none
        | none => none
      | some (.slice _), .sl _ _ _ _ n _ => some { val := .v (.int .i64 (nlen n)) }
      | some (.slice _), .v (.slice _ n _) => some { val := .v (.int .i64 (nlen n)) }
      | some (.array n _), _ => some { val := .v (.int .i64 (nlen n)) }
      | _, _ => none
    | _ => none
  | .cap, [.sl _ _ _ _ _ (some k)] => match ts with
    | [t] => match P.underlying t with
      | some (.slice _) => some { val := .v (.int .i64 (nlen k)) }
      | _ => none
    | _ => none
  | .max, [.v (.int k x), .v (.int _ y)] => some { val := .v (.int k (imax x y)) }
  | .min, [.v (.int k x), .v (.int _ y)] => some { val := .v (.int k (imin x y)) }
  | .append, [x, y] => match ts with
    | [t, u] => match P.underlying u with
      | some (.slice _) => appA P h t x y
      | some .string => appA P h t x y
      | _ => none
    | _ => none
  | .copy, [x, y] => match ts with
    | [t, _] => copyA P h t x y
    | _ => none
  | _, _ => none

def optA (ρ : Operand → Option AV) : Option Operand → Option (Option Int)
  | none => some none
  | some x => match ρ x with
    | some (.v (.int _ n)) => some (some n)
    | _ => none
/-- x[l:h:m] of a slice: from off, n elements, room c -/
def cutA (h : List AObj) (kp : Bool) (b s z off n : Nat) (c : Option Nat) (lo hi mx : Option Int) : Option Res :=
  match h[b]? with
  | some o => match o.cnt s, mx with
    | some _, none => match kp || o.wr with
      | false => match o.win s (idxN off (lo.getD 0)) (subN (hi.getD (nlen n)) (lo.getD 0)) false with
        | some (q, ds) => some { val := .sw h.length s, news := [q], cs := inC (lo.getD 0) (hi.getD (nlen n)) (nlen n) :: ds }
        | none => none
      | true => some { val := .sl b s (zN (lo.getD 0) z off) (idxN off (lo.getD 0)) (subN (hi.getD (nlen n)) (lo.getD 0)) (c.map fun k => subN (nlen k) (lo.getD 0)), cs := [inC (lo.getD 0) (hi.getD (nlen n)) (nlen n)] }
    | some _, some m => match hi with
      | some hi => some { val := .sl b s (zN (lo.getD 0) z off) (idxN off (lo.getD 0)) (subN hi (lo.getD 0)) (some (subN m (lo.getD 0))), cs := [inC (lo.getD 0) hi m, inC hi m (nlen n), zOk z off m (lo.getD 0)] }
      | none => none
    | _, _ => none
  | none => none
def sliceA (P : Program) (h : List AObj) (t : TypeId) (x : AV) (lo hi mx : Option Int) : Option Res :=
  match P.underlying t, x with
  | some .string, .v (.string s) => match mx with
    | none => some { val := .v (.string (ssub s (lo.getD 0) (hi.getD (slen s)))), cs := [inC (lo.getD 0) (hi.getD (slen s)) (slen s)] }
    | some _ => none
  | some (.slice e), .sw b s => if sizeT P e = some s then match h[b]? with
      | some o => match o.cnt s with
        | some n => cutA h false b s 0 0 n none lo hi mx
        | none => none
      | none => none
    else none
  | some (.slice e), .sl b s z off n c => if sizeT P e = some s then cutA h true b s z off n c lo hi mx else none
  | some (.slice e), .v (.slice none 0 0) => match mx with
    | none => if (sizeT P e).isSome then some { val := .v (.slice none 0 0), cs := [inC (lo.getD 0) (hi.getD 0) 0] } else none
    | some m => match hi with
      | some hi => if (sizeT P e).isSome then some { val := .v (.slice none 0 0), cs := [inC (lo.getD 0) hi m, inC hi m 0] } else none
      | none => none
  | some (.array n e), .ptr b off => match h[b]?, sizeT P e with
    | some o, some s => if 0 < s ∧ off / s * s = off ∧ off + n * s ≤ o.len ∧ o.live = true ∧ n ≠ 0 then
        match hi, mx with
        | hi, none => some { val := .sl b s (off / s) (idxN (off / s) (lo.getD 0)) (subN (hi.getD (nlen n)) (lo.getD 0)) (some (subN (nlen n) (lo.getD 0))), cs := [inC (lo.getD 0) (hi.getD (nlen n)) (nlen n)] }
        | _, _ => none
      else none
    | _, _ => none
  | _, _ => none
def makeA (P : Program) (h : List AObj) (t : TypeId) (l c : Int) : Option Res :=
  match P.underlying t with
  | some (.slice e) => match P.info? e, zeroT P e with
    | some i, some zs => if zs.length = i.size ∧ 0 < i.size ∧ 0 < i.bytes then match mkRep l.toNat zs with
      | some o => some { val := .sw h.length i.size, news := [o], cs := [inC 0 l c, fitN c.toNat i.bytes] }
      | none => none
      else none
    | _, _ => none
  | _ => none
def oneN (s k : Nat) : Nat := match s with
  | 1 => k
  | s => k * s
/-- &x[n] -/
def elemA (h : List AObj) (s : Nat) (x : AV) (n : Int) : Option Res :=
  match x with
  | .sw b s' => if s' = s then match h[b]? with
      | some o => match o.cnt s, o with
        | some m, .rows .. => some { val := .pe b (idxN 0 n) s 0, cs := [inB n m] }
        | some m, _ => some { val := .ptr b (oneN s (idxN 0 n)), cs := [inB n m] }
        | _, _ => none
      | none => none
    else none
  | .sl b s' _ off m _ => if s' = s then match h[b]? with
      | some o => match o.cnt s, o with
        | some _, .rows .. => some { val := .pe b (idxN off n) s 0, cs := [inB n m] }
        | some _, _ => some { val := .ptr b (oneN s (idxN off n)), cs := [inB n m] }
        | _, _ => none
      | none => none
    else none
  | _ => none
def convA (P : Program) (h : List AObj) (src dst : TypeId) (x : AV) : Option Res :=
  match P.underlying src, P.underlying dst with
  | some (.int _), some (.int k) => match x with
    | .v (.int _ n) => some { val := .v (.int k (icv k n)) }
    | _ => none
  | some .string, some .string => match x with
    | .v (.string s) => some { val := .v (.string s) }
    | _ => none
  | some (.int _), some .string => match x with
    | .v (.int _ n) => some { val := .v (.string (runeS n)) }
    | _ => none
  | some .string, some (.slice e) => match P.underlying e, sizeT P e, x with
    | some (.int .u8), some 1, .v (.string s) => some { val := .sw h.length 1, news := [.ints 0 true .u8 (bytesI s)] }
    | _, _, _ => none
  | some (.slice e), some .string => match P.underlying e, sizeT P e with
    | some (.int .u8), some 1 => match x with
      | .v (.slice none _ _) => some { val := .v (.string .empty) }
      | x => match contA h 1 true x with
        | some (.ints _ _ .u8 l, _, cs) => match x with
          | .v _ => none
          | _ => some { val := .v (.string (strI l)), cs := cs }
        | _ => none
    | _, _ => none
  | some (.slice e), some (.slice _) => match P.underlying e, sizeT P e, x with
    | some (.int .u8), some 1, .sw b 1 => match h[b]? with
      | some (.ints t true .u8 (c :: l)) => if src = dst then some { val := .sw b 1, upd := [(b, .ints t false .u8 (c :: l))] } else none
      | _ => none
    | _, _, _ => none
  | some (.pointer t), some .unsafePointer => match x, P.info? t with
    | .ptr b 0, some j => match h[b]? with
      | some (.cells T _ (_ :: _)) => if T ≠ 0 ∧ j.size ≠ 0 then some { val := .ptr b 0 } else none
      | _ => none
    | _, _ => none
  | some .unsafePointer, some (.pointer u) => match x, P.info? u with
    | .ptr b 0, some _ => match h[b]? with
      | some (.cells T _ (c :: l)) => if T ≠ 0 ∧ liesAt P P.depth T ((l.length + 1) / P.cellsOf T) 0 u 1 = true then some { val := .ptr b 0 } else none
      | _ => none
    | _, _ => none
  | _, _ => none
def placeT (P : Program) (fields : Array Field) (i : Nat) : Option (Nat × Nat) :=
  match fields[i]? with
  | some f => some (f.offset, P.cellsOf f.type)
  | none => none

def memI (a : Int) (l : List Int) : Bool := l.contains a
def insI (a : Int) (l : List Int) : List Int := l ++ [a]
def i64P (a : Int) : Prop := (Lit.int .i64 a).wf = true
def fitM (l : List Int) : Prop := l.length < 1000000
/-- a type's zero value is false -/
def zeB (P : Program) (e : TypeId) : Bool := match P.info? e with
  | some i => match i.zero with
    | some (.bool false) => true
    | _ => false
  | none => false
def opA (P : Program) (ρ : Operand → Option AV) (h : List AObj) (op : Op) : Option Res :=
  match op with
  | .move x => (ρ x).map fun v => { val := v }
  | .assign x => (ρ x).map fun v => { val := v }
  | .pick c a b => match ρ c with
    | some (.b true) => (ρ a).map fun v => { val := v }
    | some (.b false) => (ρ b).map fun v => { val := v }
    | _ => none
  | .alloc elem => match zeroT P elem with
    | some zs => some { val := .ptr h.length 0, news := [.cells (tagS P elem) true zs] }
    | none => none
  | .box elem x => match ρ x with
    | some v => match v.cs with
      | some l => some { val := .ptr h.length 0, news := [.cells (tagS P elem) true l] }
      | none => none
    | none => none
  | .load t a => match ρ a, aggT P t, sizeT P t with
    | some (.ptr b off), some true, some n => match h[b]? with
      | some o => match o.getN off n with
        | some (l, cs) => if o.live = true ∧ o.row = true then some { val := .agg l, cs := cs } else none
        | none => none
      | none => none
    | some (.ptr b off), some false, some _ => match h[b]? with
      | some o => match o.get off with
        | some (x, cs) => some { val := x, cs := cs }
        | none => none
      | none => none
    | some (.pe b i s j), some true, some n => match h[b]? with
      | some o => match o.getE i s j n with
        | some (l, cs) => some { val := .agg l, cs := cs }
        | none => none
      | none => none
    | some (.pe b i s j), some false, some _ => match h[b]? with
      | some o => match o.getE i s j 1 with
        | some ([x], cs) => some { val := x, cs := cs }
        | _ => none
      | none => none
    | _, _, _ => none
  | .store t a x => match ρ a, ρ x, sizeT P t with
    | some (.ptr b off), some v, some n => match h[b]?, v.cs with
      | some o, some l => if l.length = n ∧ l ≠ [] ∧ o.wr = true ∧ o.row = true then match o.setN off l with
          | some (o', cs) => some { val := .tup [], upd := [(b, o')], cs := cs }
          | none => none
        else none
      | _, _ => none
    | some (.pe b i s j), some v, some n => match h[b]?, v.cs with
      | some o, some l => if l.length = n ∧ l ≠ [] ∧ o.wr = true then match o.setE i s j l with
          | some (o', cs) => some { val := .tup [], upd := [(b, o')], cs := cs }
          | none => none
        else none
      | _, _ => none
    | _, _, _ => none
  | .makeMap t none => match P.underlying t with
    | some (.map _ _) => some { val := .mp h.length, news := [.imap true []] }
    | _ => none
  | .lookup t m k false => match P.underlying t, ρ m, ρ k with
    | some (.map kt et), some (.mp b), some (.v (.int .i64 a)) => match P.underlying kt, P.underlying et, zeB P et, h[b]? with
      | some (.int .i64), some .bool, true, some (.imap _ l) => some { val := .v (.bool (memI a l)), cs := [i64P a] }
      | _, _, _, _ => none
    | _, _, _ => none
  | .mapUpdate t m k x => match P.underlying t, ρ m, ρ k, ρ x with
    | some (.map kt et), some (.mp b), some (.v (.int .i64 a)), some (.v (.bool true)) => match P.underlying kt, P.underlying et, h[b]? with
      | some (.int .i64), some .bool, some (.imap true l) => some { val := .tup [], upd := [(b, .imap true (insI a l))], cs := [i64P a, fitM l] }
      | _, _, _ => none
    | _, _, _, _ => none
  | .nilCheck x => match ρ x with
    | some (.ptr b o) => some { val := .ptr b o }
    | some (.pe b i s j) => some { val := .pe b i s j }
    | some (.fn (.func f) cs) => some { val := .fn (.func f) cs }
    | _ => none
  | .binOp op t x y _ => match ρ x, ρ y with
    | some a, some b => (binA P op t a b).map fun r => { val := r.1, cs := r.2 }
    | _, _ => none
  | .unOp op _ x => match op, ρ x with
    | .not, some (.b b) => some { val := .b (!b) }
    | .not, some (.v (.bool b)) => some { val := .v (.bool (notB b)) }
    | .neg, some (.v (.int k n)) => some { val := .v (.int k (isub k 0 n)) }
    | .xor, some (.v (.int k n)) => some { val := .v (.int k (ixor k (if k.signed then -1 else k.max) n)) }
    | _, _ => none
  | .convert src dst x => match ρ x with
    | some v => convA P h src dst v
    | none => none
  | .slice t x lo hi mx => match ρ x, optA ρ lo, optA ρ hi, optA ρ mx with
    | some v, some lo, some hi, some mx => sliceA P h t v lo hi mx
    | _, _, _, _ => none
  | .makeSlice t l c => match ρ l, ρ c with
    | some (.v (.int _ l)), some (.v (.int _ c)) => makeA P h t l c
    | _, _ => none
  | .makeInterface t x => if P.concrete t then (ρ x).map fun v => { val := .ifc t v } else none
  | .makeFunc fn first captured => match first.toList, evalsA ρ captured.toList with
    | [], some cs => some { val := .fn fn cs }
    | _ :: _, some [] => match evalsA ρ first.toList with
      | some cs => some { val := .mv fn cs }
      | none => none
    | _, _ => none
  | .fieldAddr s x f => match ρ x, fieldT P s f with
    | some (.ptr b o), some (off, n + 1, _) => some { val := .ptr b (addN o off) }
    | some (.pe b i s j), some (off, n + 1, _) => some { val := .pe b i s (addN j off) }
    | _, _ => none
  | .field t x f => match ρ x, fieldT P t f with
    | some (.agg l), some (off, n, ft) => match aggT P ft with
      | some true => if off + n ≤ l.length then some { val := .agg ((l.drop off).take n) } else none
      | some false => match l[off]? with
        | some v => some { val := v }
        | none => none
      | none => none
    | _, _ => none
  | .indexAddr t x i => match P.underlying t, ρ x, ρ i with
    | some (.array len e), some (.ptr b o), some (.v (.int _ n)) => match sizeT P e with
      | some s => some { val := .ptr b (offN o n s), cs := [inB n len] }
      | none => none
    | some (.array len e), some (.pe b r s j), some (.v (.int _ n)) => match sizeT P e with
      | some s' => some { val := .pe b r s (offN j n s'), cs := [inB n len] }
      | none => none
    | some (.slice e), some x, some (.v (.int _ n)) => match sizeT P e with
      | some s => elemA h s x n
      | none => none
    | _, _, _ => none
  | .index t x i => match P.underlying t, ρ x, ρ i with
    | some .string, some (.v (.string s)), some (.v (.int _ n)) => some { val := .v (.int .u8 (sget s n)), cs := [inB n s.size] }
    | some (.array len e), some (.agg l), some (.v (.int _ n)) => match sizeT P e, aggT P e with
      | some 1, some false => match l[n.toNat]? with
        | some v => some { val := v, cs := [inB n len] }
        | none => none
      | _, _ => none
    | _, _, _ => none
  | .extract x i => match ρ x with
    | some (.tup l) => match l[i]? with
      | some v => some { val := v }
      | none => none
    | _ => none
  | .build t parts => match P.underlying t, zeroT P t, partsA ρ parts.toList with
    | some (.struct fields), some zs, some ps => match fields.toList.all (fun f => (sizeT P f.type).isSome) with
      | true => match fillA (placeT P fields) zs ps with
        | some l => some { val := .agg l }
        | none => none
      | false => none
    | some (.array _ e), some zs, some ps => match sizeT P e with
      | some s => match fillA (fun i => some (i * s, s)) zs ps with
        | some l => some { val := .agg l }
        | none => none
      | none => none
    | _, _, _ => none
  | .buildSlice t len parts => match P.underlying t, partsA ρ parts.toList with
    | some (.slice e), some ps => match zeroT P e, sizeT P e with
      | some zs, some s =>
        if zs.length = s ∧ 0 < s ∧ len * s ≤ 2 ^ 24 then match fillA (fun i => some (i * s, s)) (repL zs len) ps with
          | some l => match mkRow (ekOf zs) len l with
            | some o => some { val := .sw h.length s, news := [o] }
            | none => none
          | none => none
        else none
      | _, _ => none
    | _, _ => none
  | .call c => match c.callee, evalsA ρ c.args.toList with
    | .builtin b, some args => builtA P h b c.argTypes.toList args
    | _, _ => none
  | _ => none
end Go.Abs
