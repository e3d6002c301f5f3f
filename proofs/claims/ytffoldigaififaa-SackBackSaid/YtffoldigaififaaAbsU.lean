import Derived.Test.YtffoldigaififaaAbsC
set_option linter.unusedVariables false
set_option linter.unusedSimpArgs false
/- Windows of rows, rows joined, rows made. -/
namespace Go.Abs
def leN (i n : Nat) : Prop := i ≤ n
def eqN (i n : Nat) : Prop := i = n
def subI (l : List Int) (off n : Nat) : List Int := (l.drop off).take n
def subB (l : List Bool) (off n : Nat) : List Bool := (l.drop off).take n
def subS (l : List ByteArray) (off n : Nat) : List ByteArray := (l.drop off).take n
def subR (s : List CK) (l : List (El s)) (off n : Nat) : List (El s) := (l.drop off).take n
def appI (l m : List Int) : List Int := l ++ m
def appB (l m : List Bool) : List Bool := l ++ m
def appS (l m : List ByteArray) : List ByteArray := l ++ m
def appR (s : List CK) (l m : List (El s)) : List (El s) := l ++ m
/-- laid over l from place off on -/
def layI (l : List Int) (off : Nat) (m : List Int) : List Int := l.take off ++ m ++ l.drop (off + m.length)
def layB (l : List Bool) (off : Nat) (m : List Bool) : List Bool := l.take off ++ m ++ l.drop (off + m.length)
def layS (l : List ByteArray) (off : Nat) (m : List ByteArray) : List ByteArray := l.take off ++ m ++ l.drop (off + m.length)
def layR (s : List CK) (l : List (El s)) (off : Nat) (m : List (El s)) : List (El s) := l.take off ++ m ++ l.drop (off + m.length)
def minN (a b : Nat) : Nat := min a b

/-- how many elements of s cells -/
def AObj.cnt (o : AObj) (s : Nat) : Option Nat := match o with
  | .ints _ _ _ l => if s = 1 then some (lenI l) else none
  | .bools _ _ l => if s = 1 then some (lenB l) else none
  | .strs _ _ l => if s = 1 then some (lenS l) else none
  | .rows _ sh l => if sh.length = s then some (lenR sh l) else none
  | .cells _ _ l => if l.length = l.length / s * s then some (l.length / s) else none
  | _ => none
theorem cnt_spec {o : AObj} {s m : Nat} (h : o.cnt s = some m) : o.live = true ∧ o.row = true ∧ o.len = m * s := by
  unfold AObj.cnt at h
  split at h <;> try (split at h <;> simp at h)
  all_goals first
    | (subst h; rename_i hs; subst hs; refine ⟨rfl, rfl, ?_⟩; first | exact (Nat.mul_one _).symm | rfl)
    | (subst h; rename_i hs; exact ⟨rfl, rfl, hs⟩)
    | simp at h

/-- elements off .. off + n, as a row of their own -/
def AObj.win (o : AObj) (s off n : Nat) (w : Bool) : Option (AObj × List Prop) := match o with
  | .ints _ _ k l => if s = 1 then some (.ints 0 w k (subI l off n), [leN (off + n) (lenI l)]) else none
  | .bools _ _ l => if s = 1 then some (.bools 0 w (subB l off n), [leN (off + n) (lenB l)]) else none
  | .strs _ _ l => if s = 1 then some (.strs 0 w (subS l off n), [leN (off + n) (lenS l)]) else none
  | .rows _ sh l => if sh.length = s then some (.rows w sh (subR sh l off n), [leN (off + n) (lenR sh l)]) else none
  | .cells _ _ l => if (off + n) * s ≤ l.length then some (.cells 0 w ((l.drop (off * s)).take (n * s)), []) else none
  | _ => none
theorem flat_take {α β : Type} (f : α → List β) (s : Nat) (h : ∀ x, (f x).length = s) (l : List α) (n : Nat) : (l.take n).flatMap f = (l.flatMap f).take (n * s) := by
  induction l generalizing n with
  | nil => simp
  | cons x l ih =>
    cases n with
    | zero => simp
    | succ n =>
      have e1 : List.take ((n + 1) * s) (f x) = f x := List.take_of_length_le (by rw [h, Nat.succ_mul]; omega)
      have e2 : (n + 1) * s - s = n * s := by rw [Nat.succ_mul]; omega
      rw [List.take_succ_cons, List.flatMap_cons, List.flatMap_cons, ih, List.take_append, h, e1, e2]
theorem flat_drop {α β : Type} (f : α → List β) (s : Nat) (h : ∀ x, (f x).length = s) (l : List α) (n : Nat) : (l.drop n).flatMap f = (l.flatMap f).drop (n * s) := by
  induction l generalizing n with
  | nil => simp
  | cons x l ih =>
    cases n with
    | zero => simp
    | succ n =>
      have e1 : List.drop ((n + 1) * s) (f x) = [] := List.drop_eq_nil_of_le (by rw [h, Nat.succ_mul]; omega)
      have e2 : (n + 1) * s - s = n * s := by rw [Nat.succ_mul]; omega
      rw [List.drop_succ_cons, ih, List.flatMap_cons, List.drop_append, h, e1, e2]; simp
structure Win (σ : Sg) (o o' : AObj) (s off n : Nat) (w : Bool) : Prop where
  live : o.live = true
  row : o.row = true
  live' : o'.live = true
  row' : o'.row = true
  wr : o'.wr = w
  den : denO σ o' = ((denO σ o).drop (off * s)).take (n * s)
  le : (off + n) * s ≤ o.len
  len : o'.len = n * s
  wf : wfO σ o → wfO σ o'
theorem win_den {σ : Sg} {o o' : AObj} {s off n : Nat} {w : Bool} {cs : List Prop} (h : o.win s off n w = some (o', cs)) (hc : All cs) : Win σ o o' s off n w := by
  unfold AObj.win at h
  split at h <;> try (split at h <;> simp at h)
  any_goals simp at h
  · rename_i k l hs
    obtain ⟨rfl, rfl⟩ := h
    have hle : off + n ≤ l.length := hc.1
    subst hs
    exact ⟨rfl, rfl, rfl, rfl, rfl, by simp [denO, subI, List.map_take, List.map_drop], by simp [AObj.len]; omega, by simp [AObj.len, subI]; omega, fun _ => trivial⟩
  · rename_i l hs
    obtain ⟨rfl, rfl⟩ := h
    have hle : off + n ≤ l.length := hc.1
    subst hs
    exact ⟨rfl, rfl, rfl, rfl, rfl, by simp [denO, subB, List.map_take, List.map_drop], by simp [AObj.len]; omega, by simp [AObj.len, subB]; omega, fun _ => trivial⟩
  · rename_i l hs
    obtain ⟨rfl, rfl⟩ := h
    have hle : off + n ≤ l.length := hc.1
    subst hs
    exact ⟨rfl, rfl, rfl, rfl, rfl, by simp [denO, subS, List.map_take, List.map_drop], by simp [AObj.len]; omega, by simp [AObj.len, subS]; omega, fun _ => trivial⟩
  · rename_i sh l hs
    obtain ⟨rfl, rfl⟩ := h
    have hle : off + n ≤ l.length := hc.1
    subst hs
    refine ⟨rfl, rfl, rfl, rfl, rfl, ?_, Nat.mul_le_mul_right _ hle, ?_, fun _ => trivial⟩
    · simp only [denO, subR]
      rw [flat_take _ _ (El.vals_length sh), flat_drop _ _ (El.vals_length sh)]
    · simp only [AObj.len, subR, List.length_take, List.length_drop]; congr 1; omega
  · rename_i l hs
    obtain ⟨rfl, rfl⟩ := h
    have e : off * s + n * s ≤ l.length := by rw [← Nat.add_mul]; exact hs
    refine ⟨rfl, rfl, rfl, rfl, rfl, by simp [denO, denL_map, List.map_take, List.map_drop], hs, by simp [AObj.len]; omega, fun hw => ?_⟩
    rw [wfO, wfL_iff] at *
    exact fun x hx => hw x (List.mem_of_mem_drop (List.mem_of_mem_take hx))

theorem win_tag {o o' : AObj} {s off n : Nat} {w : Bool} {cs : List Prop} (h : o.win s off n w = some (o', cs)) : o'.tag.1 = 0 := by
  unfold AObj.win at h
  split at h <;> try (split at h <;> simp at h)
  all_goals first
    | (obtain ⟨rfl, rfl⟩ := h; rfl)
    | simp at h
def intsOf (k : IntKind) : List AV → Option (List Int)
  | [] => some []
  | .v (.int k' n) :: l => if k' = k then (intsOf k l).map (n :: ·) else none
  | _ :: _ => none
theorem intsOf_den {σ : Sg} {k : IntKind} : ∀ {l : List AV} {m : List Int}, intsOf k l = some m → m.map (Value.int k) = denL σ l
  | [], m, h => by simp [intsOf] at h; subst h; rfl
  | x :: r, m, h => by
    unfold intsOf at h
    split at h
    · simp at *
    · rename_i heq
      obtain ⟨rfl, rfl⟩ := List.cons.inj heq
      split at h <;> simp at h
      obtain ⟨m', h1, rfl⟩ := h
      rename_i hk; subst hk
      simp [denL, den, intsOf_den (σ := σ) h1]
    · simp at h
def boolsOf : List AV → Option (List Bool)
  | [] => some []
  | .b n :: r => (boolsOf r).map (n :: ·)
  | .v (.bool n) :: r => (boolsOf r).map (n :: ·)
  | _ :: _ => none
theorem boolsOf_den {σ : Sg} : ∀ {l : List AV} {m : List Bool}, boolsOf l = some m → m.map Value.bool = denL σ l
  | [], m, h => by simp [boolsOf] at h; subst h; rfl
  | x :: r, m, h => by
    unfold boolsOf at h
    split at h
    · simp at *
    · rename_i heq; obtain ⟨rfl, rfl⟩ := List.cons.inj heq
      simp at h; obtain ⟨m', h1, rfl⟩ := h
      simp [denL, den, boolsOf_den (σ := σ) h1]
    · rename_i heq; obtain ⟨rfl, rfl⟩ := List.cons.inj heq
      simp at h; obtain ⟨m', h1, rfl⟩ := h
      simp [denL, den, boolsOf_den (σ := σ) h1]
    · simp at h
def strsOf : List AV → Option (List ByteArray)
  | [] => some []
  | .v (.string n) :: r => (strsOf r).map (n :: ·)
  | _ :: _ => none
theorem strsOf_den {σ : Sg} : ∀ {l : List AV} {m : List ByteArray}, strsOf l = some m → m.map Value.string = denL σ l
  | [], m, h => by simp [strsOf] at h; subst h; rfl
  | x :: r, m, h => by
    unfold strsOf at h
    split at h
    · simp at *
    · rename_i heq; obtain ⟨rfl, rfl⟩ := List.cons.inj heq
      simp at h; obtain ⟨m', h1, rfl⟩ := h
      simp [denL, den, strsOf_den (σ := σ) h1]
    · simp at h
/-- cells grouped to elements -/
def rowsOf (sh : List CK) : Nat → List AV → Option (List (El sh))
  | 0, [] => some []
  | n + 1, l => match El.of sh (l.take sh.length), rowsOf sh n (l.drop sh.length) with
    | some e, some r => some (e :: r)
    | _, _ => none
  | _, _ => none
theorem rowsOf_den {σ : Sg} {sh : List CK} : ∀ {n : Nat} {l : List AV} {m : List (El sh)}, rowsOf sh n l = some m → m.flatMap (El.vals sh) = denL σ l ∧ m.length = n
  | 0, [], m, h => by simp [rowsOf] at h; subst h; exact ⟨rfl, rfl⟩
  | 0, _ :: _, m, h => by simp [rowsOf] at h
  | n + 1, l, m, h => by
    simp only [rowsOf] at h
    split at h <;> simp at h
    rename_i e r h1 h2
    subst h
    obtain ⟨k1, k2⟩ := rowsOf_den (σ := σ) h2
    refine ⟨?_, by simp [k2]⟩
    rw [List.flatMap_cons, k1, El.of_den (σ := σ) h1]
    simp only [denL_map, ← List.map_append, List.take_append_drop]

/-- elements of which kind? -/
inductive EK where
  | ints (k : IntKind) | bools | strs | rows (sh : List CK) | cells
def ckOf : AV → Option CK
  | .v (.int k _) => some (.int k)
  | .b _ => some .bool
  | .v (.bool _) => some .bool
  | .v (.string _) => some .str
  | _ => none
def ckL : List AV → Option (List CK)
  | [] => some []
  | x :: l => match ckOf x, ckL l with
    | some c, some r => some (c :: r)
    | _, _ => none
/-- by an element's zero value -/
def ekOf (zs : List AV) : EK := match ckL zs with
  | some [.int k] => .ints k
  | some [.bool] => .bools
  | some [.str] => .strs
  | some (c :: d :: r) => .rows (c :: d :: r)
  | _ => .cells
/-- a row of n elements, its cells told -/
def mkRow (ek : EK) (n : Nat) (l : List AV) : Option AObj :=
  match ek with
  | .ints k => (intsOf k l).map (.ints 0 true k)
  | .bools => (boolsOf l).map (.bools 0 true)
  | .strs => (strsOf l).map (.strs 0 true)
  | .rows sh => (rowsOf sh n l).map (.rows true sh)
  | .cells => some (.cells 0 true l)
structure Mk (σ : Sg) (o : AObj) (l : List AV) : Prop where
  den : denO σ o = denL σ l
  wr : o.wr = true
  live : o.live = true
  row : o.row = true
  tag : o.tag.1 = 0
  wf : wfL σ l → wfO σ o
theorem mkRow_den {σ : Sg} {n : Nat} {ek : EK} {l : List AV} {o : AObj} (h : mkRow ek n l = some o) : Mk σ o l := by
  unfold mkRow at h
  split at h <;> simp only [Option.map_eq_some_iff, Option.some.injEq] at h
  · obtain ⟨m, h1, rfl⟩ := h; exact ⟨intsOf_den h1, rfl, rfl, rfl, rfl, fun _ => trivial⟩
  · obtain ⟨m, h1, rfl⟩ := h; exact ⟨boolsOf_den h1, rfl, rfl, rfl, rfl, fun _ => trivial⟩
  · obtain ⟨m, h1, rfl⟩ := h; exact ⟨strsOf_den h1, rfl, rfl, rfl, rfl, fun _ => trivial⟩
  · obtain ⟨m, h1, rfl⟩ := h; exact ⟨(rowsOf_den h1).1, rfl, rfl, rfl, rfl, fun _ => trivial⟩
  · subst h; exact ⟨rfl, rfl, rfl, rfl, rfl, id⟩
theorem Mk.len {σ : Sg} {o : AObj} {l : List AV} (h : Mk σ o l) : o.len = l.length := by
  have := congrArg List.length h.den; simpa using this
/-- n zero values -/
def repI (z : Int) (n : Nat) : List Int := List.replicate n z
def repB (z : Bool) (n : Nat) : List Bool := List.replicate n z
def repS (z : ByteArray) (n : Nat) : List ByteArray := List.replicate n z
def repR (s : List CK) (z : El s) (n : Nat) : List (El s) := List.replicate n z
def mkRep (n : Nat) (zs : List AV) : Option AObj := match ekOf zs, zs with
  | .ints k, [.v (.int k' z)] => if k' = k then some (.ints 0 true k (repI z n)) else none
  | .bools, [.v (.bool z)] => some (.bools 0 true (repB z n))
  | .strs, [.v (.string z)] => some (.strs 0 true (repS z n))
  | .rows sh, zs => (El.of sh zs).map fun e => .rows true sh (repR sh e n)
  | _, _ => none
theorem mkRep_tag {n : Nat} {zs : List AV} {o : AObj} (h : mkRep n zs = some o) : o.tag.1 = 0 := by
  unfold mkRep at h
  split at h
  · split at h <;> simp at h
    subst h; rfl
  · simp at h; subst h; rfl
  · simp at h; subst h; rfl
  · simp only [Option.map_eq_some_iff] at h
    obtain ⟨e, he, rfl⟩ := h; rfl
  · simp at h
theorem rep_flat {α β : Type} (f : α → List β) (x : α) (n : Nat) : (List.replicate n x).flatMap f = (List.replicate n (f x)).flatten := by
  induction n with
  | zero => rfl
  | succ n ih => simp [List.replicate_succ, ih]
theorem mkRep_den {σ : Sg} {n : Nat} {zs : List AV} {o : AObj} (h : mkRep n zs = some o) : denO σ o = (List.replicate n (denL σ zs)).flatten ∧ o.wr = true ∧ o.live = true ∧ o.row = true ∧ wfO σ o := by
  have e1 : ∀ v : Value, (List.replicate n [v]).flatten = List.replicate n v := fun v => by
    induction n with
    | zero => rfl
    | succ n ih => simp [List.replicate_succ, ih]
  unfold mkRep at h
  split at h
  · split at h <;> simp at h
    subst h; rename_i hk; subst hk
    exact ⟨by simp [denO, denL, den, repI, e1], rfl, rfl, rfl, trivial⟩
  · simp at h; subst h; exact ⟨by simp [denO, denL, den, repB, e1], rfl, rfl, rfl, trivial⟩
  · simp at h; subst h; exact ⟨by simp [denO, denL, den, repS, e1], rfl, rfl, rfl, trivial⟩
  · simp only [Option.map_eq_some_iff] at h
    obtain ⟨e, he, rfl⟩ := h
    refine ⟨?_, rfl, rfl, rfl, trivial⟩
    simp only [denO, repR]
    rw [rep_flat, El.of_den (σ := σ) he]
  · simp at h

/-- two rows of one kind joined -/
def AObj.app (o o' : AObj) : Option AObj := match o, o' with
  | .ints t _ k l, .ints _ _ k' l' => if k' = k then some (.ints t true k (appI l l')) else none
  | .ints t _ k l, .cells _ _ m => (intsOf k m).map fun l' => .ints t true k (appI l l')
  | .bools _ _ l, .bools _ _ l' => some (.bools 0 true (appB l l'))
  | .strs _ _ l, .strs _ _ l' => some (.strs 0 true (appS l l'))
  | .rows _ s l, .rows _ s' l' => if h : s' = s then some (.rows true s (appR s l (h ▸ l'))) else none
  | .cells _ _ l, .cells _ _ l' => some (.cells 0 true (l ++ l'))
  | _, _ => none
structure App (σ : Sg) (o o' p : AObj) : Prop where
  den : denO σ p = denO σ o ++ denO σ o'
  wr : p.wr = true
  live : p.live = true
  row : p.row = true
  wf : wfO σ o → wfO σ o' → wfO σ p
  tag : p.tag.1 = 0 ∨ (p.tag = o.tag ∧ p.tag.2 = false)
theorem app_den {σ : Sg} {o o' p : AObj} (h : o.app o' = some p) : App σ o o' p := by
  unfold AObj.app at h
  split at h
  · split at h <;> simp at h
    subst h; rename_i hk; subst hk
    exact ⟨by simp [denO, appI], rfl, rfl, rfl, fun _ _ => trivial, .inr ⟨rfl, rfl⟩⟩
  · simp only [Option.map_eq_some_iff] at h
    obtain ⟨l', h1, rfl⟩ := h
    exact ⟨by simp [denO, appI, intsOf_den (σ := σ) h1], rfl, rfl, rfl, fun _ _ => trivial, .inr ⟨rfl, rfl⟩⟩
  · simp at h; subst h; exact ⟨by simp [denO, appB], rfl, rfl, rfl, fun _ _ => trivial, (.inl rfl)⟩
  · simp at h; subst h; exact ⟨by simp [denO, appS], rfl, rfl, rfl, fun _ _ => trivial, (.inl rfl)⟩
  · split at h <;> simp at h
    subst h; rename_i hk; subst hk
    exact ⟨by simp [denO, appR], rfl, rfl, rfl, fun _ _ => trivial, (.inl rfl)⟩
  · simp at h; subst h
    refine ⟨by simp [denO, denL_map], rfl, rfl, rfl, fun h1 h2 => ?_, .inl rfl⟩
    simp only [wfO, wfL_iff] at *
    intro x hx
    rcases List.mem_append.1 hx with h | h
    · exact h1 x h
    · exact h2 x h
  · simp at h
theorem App.len {σ : Sg} {o o' p : AObj} (h : App σ o o' p) : p.len = o.len + o'.len := by
  have := congrArg List.length h.den; simpa using this
/-- a row laid over another one -/
def AObj.lay (o : AObj) (s off : Nat) (x : AObj) : Option (AObj × List Prop) := match o, x with
  | .ints t w k l, .ints _ _ k' m => if k' = k ∧ s = 1 then some (.ints t w k (layI l off m), [leN (off + lenI m) (lenI l)]) else none
  | .bools _ w l, .bools _ _ m => if s = 1 then some (.bools 0 w (layB l off m), [leN (off + lenB m) (lenB l)]) else none
  | .strs _ w l, .strs _ _ m => if s = 1 then some (.strs 0 w (layS l off m), [leN (off + lenS m) (lenS l)]) else none
  | .rows w sh l, .rows _ sh' m => if h : sh' = sh then (if sh.length = s then some (.rows w sh (layR sh l off (h ▸ m)), [leN (off + lenR sh' m) (lenR sh l)]) else none) else none
  | _, _ => none
theorem lay_den {σ : Sg} {o x p : AObj} {s off : Nat} {cs : List Prop} (h : o.lay s off x = some (p, cs)) (hc : All cs) :
    Like o p ∧ o.live = true ∧ o.row = true ∧ off * s + x.len ≤ o.len ∧ denO σ p = (denO σ o).take (off * s) ++ denO σ x ++ (denO σ o).drop (off * s + x.len) ∧ wfO σ p := by
  unfold AObj.lay at h
  split at h
  · split at h <;> simp at h
    obtain ⟨rfl, rfl⟩ := h; rename_i l _ _ _ m hk; obtain ⟨rfl, rfl⟩ := hk
    have hle : off + m.length ≤ l.length := hc.1
    exact ⟨⟨rfl, rfl, rfl, by simp [AObj.len, layI]; omega, rfl⟩, rfl, rfl, by simp [AObj.len]; omega, by simp [denO, layI, AObj.len, List.map_take, List.map_drop], trivial⟩
  · split at h <;> simp at h
    obtain ⟨rfl, rfl⟩ := h; rename_i l _ _ m hk; subst hk
    have hle : off + m.length ≤ l.length := hc.1
    exact ⟨⟨rfl, rfl, rfl, by simp [AObj.len, layB]; omega, rfl⟩, rfl, rfl, by simp [AObj.len]; omega, by simp [denO, layB, AObj.len, List.map_take, List.map_drop], trivial⟩
  · split at h <;> simp at h
    obtain ⟨rfl, rfl⟩ := h; rename_i l _ _ m hk; subst hk
    have hle : off + m.length ≤ l.length := hc.1
    exact ⟨⟨rfl, rfl, rfl, by simp [AObj.len, layS]; omega, rfl⟩, rfl, rfl, by simp [AObj.len]; omega, by simp [denO, layS, AObj.len, List.map_take, List.map_drop], trivial⟩
  · split at h <;> try simp at h
    rename_i sh l _ _ m hk
    subst hk
    obtain ⟨rfl, rfl, rfl⟩ := h
    have hle : off + m.length ≤ l.length := hc.1
    refine ⟨⟨rfl, rfl, rfl, ?_, rfl⟩, rfl, rfl, ?_, ?_, trivial⟩
    · simp only [AObj.len, layR, List.length_append, List.length_take, List.length_drop]; congr 1; omega
    · simp only [AObj.len]; rw [← Nat.add_mul]; exact Nat.mul_le_mul_right _ hle
    · simp only [denO, layR, AObj.len, List.flatMap_append]
      rw [flat_take _ _ (El.vals_length _), flat_drop _ _ (El.vals_length _), Nat.add_mul]
  · simp at h
end Go.Abs
