import Derived.Test.YtffoldigaififaaAbsN
set_option linter.unusedVariables false
/- Decision trees: a function's ways joined. -/
namespace Go.Abs
/-- a text by its bytes -/
def bs (l : List Nat) : ByteArray := ⟨⟨l.map UInt8.ofNat⟩⟩

mutual
def nbA : AV → AV
  | .b x => .v (.bool x)
  | .v x => .v x
  | .ptr b o => .ptr b o
  | .pe b i s j => .pe b i s j
  | .sw b s => .sw b s
  | .sn b s => .sn b s
  | .sl b s z o n c => .sl b s z o n c
  | .fn f cs => .fn f (nbL cs)
  | .mv f cs => .mv f (nbL cs)
  | .agg l => .agg (nbL l)
  | .tup l => .tup (nbL l)
  | .ifc t x => .ifc t (nbA x)
  | .mp b => .mp b
def nbL : List AV → List AV
  | [] => []
  | x :: l => nbA x :: nbL l
end
mutual
theorem nbA_den (σ : Sg) : ∀ x : AV, den σ (nbA x) = den σ x
  | .b x => rfl
  | .v x => rfl
  | .ptr b o => rfl
  | .pe b i s j => rfl
  | .mp b => rfl
  | .sw b s => rfl
  | .sn b s => rfl
  | .sl b s z o n c => rfl
  | .fn f cs => by simp [nbA, den, nbL_den σ cs]
  | .mv f cs => by simp [nbA, den, nbL_den σ cs]
  | .agg l => by simp [nbA, den, nbL_den σ l]
  | .tup l => by simp [nbA, den, nbL_den σ l]
  | .ifc t x => by simp [nbA, den, nbA_den σ x]
theorem nbL_den (σ : Sg) : ∀ l : List AV, denL σ (nbL l) = denL σ l
  | [] => rfl
  | x :: l => by simp [nbL, denL, nbA_den σ x, nbL_den σ l]
end
mutual
theorem nbA_wf (σ : Sg) : ∀ x : AV, wf σ (nbA x) ↔ wf σ x
  | .b x => Iff.rfl
  | .v x => Iff.rfl
  | .ptr b o => Iff.rfl
  | .pe b i s j => Iff.rfl
  | .mp b => Iff.rfl
  | .sw b s => Iff.rfl
  | .sn b s => Iff.rfl
  | .sl b s z o n c => Iff.rfl
  | .fn f cs => by simp [nbA, wf, nbL_wf σ cs]
  | .mv f cs => by simp [nbA, wf, nbL_wf σ cs]
  | .agg l => by simp [nbA, wf, nbL_wf σ l]
  | .tup l => by simp [nbA, wf, nbL_wf σ l]
  | .ifc t x => by simp [nbA, wf, nbA_wf σ x]
theorem nbL_wf (σ : Sg) : ∀ l : List AV, wfL σ (nbL l) ↔ wfL σ l
  | [] => Iff.rfl
  | x :: l => by simp [nbL, wfL, nbA_wf σ x, nbL_wf σ l]
end
theorem ACalls.nb {P : Program} {f : FuncId} {args : List AV} {hc : List AObj} {res : AV} {upd : List (Nat × AObj)} {news : List AObj}
    (h : ACalls P f args hc res upd news) : ACalls P f args hc (nbA res) upd news := by
  refine ⟨h.1, fun σ w a b c => ?_⟩
  have := h.2 σ w a b c
  simpa only [nbA_den, nbA_wf] using this
theorem ACalls.cond {P : Program} {f : FuncId} {args : List AV} {hc : List AObj} {r1 r2 : AV} {u1 u2 : List (Nat × AObj)} {n1 n2 : List AObj} (t : Bool)
    (h1 : t = true → ACalls P f args hc r1 u1 n1) (h2 : t = false → ACalls P f args hc r2 u2 n2) : ACalls P f args hc (cond t r1 r2) (cond t u1 u2) (cond t n1 n2) := by
  cases t with
  | true => exact h1 rfl
  | false => exact h2 rfl
theorem c_int (t : Bool) (k : IntKind) (x y : Int) : cond t (AV.v (.int k x)) (AV.v (.int k y)) = .v (.int k (cond t x y)) := by cases t <;> rfl
theorem c_bool (t : Bool) (x y : Bool) : cond t (AV.v (.bool x)) (AV.v (.bool y)) = .v (.bool (cond t x y)) := by cases t <;> rfl
theorem c_str (t : Bool) (x y : ByteArray) : cond t (AV.v (.string x)) (AV.v (.string y)) = .v (.string (cond t x y)) := by cases t <;> rfl
theorem c_agg (t : Bool) (x y : List AV) : cond t (AV.agg x) (AV.agg y) = .agg (cond t x y) := by cases t <;> rfl
theorem c_tup (t : Bool) (x y : List AV) : cond t (AV.tup x) (AV.tup y) = .tup (cond t x y) := by cases t <;> rfl
theorem c_fn (t : Bool) (f : Fn) (x y : List AV) : cond t (AV.fn f x) (AV.fn f y) = .fn f (cond t x y) := by cases t <;> rfl
theorem c_ifc (t : Bool) (k : TypeId) (x y : AV) : cond t (AV.ifc k x) (AV.ifc k y) = .ifc k (cond t x y) := by cases t <;> rfl
theorem c_sl (t : Bool) (b s z z' o o' n n' : Nat) (c c' : Option Nat) : cond t (AV.sl b s z o n c) (AV.sl b s z' o' n' c') = .sl b s (cond t z z') (cond t o o') (cond t n n') (cond t c c') := by cases t <;> rfl
theorem c_pe (t : Bool) (b s i i' j j' : Nat) : cond t (AV.pe b i s j) (AV.pe b i' s j') = .pe b (cond t i i') s (cond t j j') := by cases t <;> rfl
theorem c_ptr (t : Bool) (b j j' : Nat) : cond t (AV.ptr b j) (AV.ptr b j') = .ptr b (cond t j j') := by cases t <;> rfl
theorem c_rows (t : Bool) (w : Bool) (s : List CK) (l m : List (El s)) : cond t (AObj.rows w s l) (AObj.rows w s m) = .rows w s (cond t l m) := by cases t <;> rfl
theorem c_siter (t : Bool) (s s' : ByteArray) (p p' : Nat) : cond t (AObj.siter s p) (AObj.siter s' p') = .siter (cond t s s') (cond t p p') := by cases t <;> rfl
theorem c_consA (t : Bool) (x y : AV) (l m : List AV) : cond t (x :: l) (y :: m) = cond t x y :: cond t l m := by cases t <;> rfl
theorem c_consU (t : Bool) (b : Nat) (x y : AObj) (l m : List (Nat × AObj)) : cond t ((b, x) :: l) ((b, y) :: m) = (b, cond t x y) :: cond t l m := by cases t <;> rfl
theorem c_consO (t : Bool) (x y : AObj) (l m : List AObj) : cond t (x :: l) (y :: m) = cond t x y :: cond t l m := by cases t <;> rfl
theorem c_cells (t : Bool) (k : TypeId) (w : Bool) (x y : List AV) : cond t (AObj.cells k w x) (AObj.cells k w y) = .cells k w (cond t x y) := by cases t <;> rfl
theorem c_ints (t : Bool) (y : TypeId) (w : Bool) (k : IntKind) (l m : List Int) : cond t (AObj.ints y w k l) (AObj.ints y w k m) = .ints y w k (cond t l m) := by cases t <;> rfl
theorem c_bools (t : Bool) (y : TypeId) (w : Bool) (l m : List Bool) : cond t (AObj.bools y w l) (AObj.bools y w m) = .bools y w (cond t l m) := by cases t <;> rfl
theorem c_strs (t : Bool) (y : TypeId) (w : Bool) (l m : List ByteArray) : cond t (AObj.strs y w l) (AObj.strs y w m) = .strs y w (cond t l m) := by cases t <;> rfl
theorem c_same {α : Type} (t : Bool) (x : α) : cond t x x = x := by cases t <;> rfl
theorem c_true {α : Type} (x y : α) : cond true x y = x := rfl
theorem c_false {α : Type} (x y : α) : cond false x y = y := rfl
end Go.Abs
namespace Go.Abs
instance (i : Int) (n : Nat) : Decidable (inB i n) := inferInstanceAs (Decidable (_ ∧ _))
instance (i n : Nat) : Decidable (ltN i n) := inferInstanceAs (Decidable (_ < _))
instance (a : Int) : Decidable (nz a) := inferInstanceAs (Decidable (_ ≠ _))
instance (a : Int) : Decidable (nn a) := inferInstanceAs (Decidable (_ ≤ _))
instance (a b : ByteArray) : Decidable (sfit a b) := inferInstanceAs (Decidable (_ ≤ _))
instance (i n : Nat) : Decidable (leN i n) := inferInstanceAs (Decidable (_ ≤ _))
instance (i n : Nat) : Decidable (eqN i n) := inferInstanceAs (Decidable (_ = _))
instance (a b : Int) : Decidable (eqZ a b) := inferInstanceAs (Decidable (_ = _))
instance (n b : Nat) : Decidable (fitN n b) := inferInstanceAs (Decidable (_ ≤ _))
instance (k n : Nat) : Decidable (growN k n) := inferInstanceAs (Decidable (_ ∨ _))
instance (i j n : Int) : Decidable (inC i j n) := inferInstanceAs (Decidable (_ ∧ _ ∧ _))
instance (z o : Nat) (m l : Int) : Decidable (zOk z o m l) := inferInstanceAs (Decidable (_ ∨ _))
theorem eqZ_t {a b : Int} (h : ieq a b = true) : eqZ a b := by unfold eqZ; simpa [ieq] using h
theorem splitB {α : Type} {t : Bool} {A B y : α} {Q : Prop} (h : cond t A B = y) (h1 : t = true → A = y → Q) (h2 : t = false → B = y → Q) : Q := by
  cases t with
  | true => exact h1 rfl h
  | false => exact h2 rfl h
theorem chk {α : Type} {p : Prop} [Decidable p] {x : Option α} {y : α} {Q : Prop} (h : cond (decide p) x none = some y) (k : p → x = some y → Q) : Q := by
  by_cases hp : p
  · simp only [hp, decide_true, cond_true] at h; exact k hp h
  · simp [hp] at h
theorem rf_ine (a : Int) : isB (ine a a) false := by simp [isB, ine]
theorem rf_ieq (a : Int) : isB (ieq a a) true := by simp [isB, ieq]
theorem rf_ilt (a : Int) : isB (ilt a a) false := by simp [isB, ilt]
theorem rf_ile (a : Int) : isB (ile a a) true := by simp [isB, ile]
theorem rf_beqB (a : Bool) : isB (beqB a a) true := by cases a <;> rfl
theorem rf_seqS (a : ByteArray) : isB (seqS a a) true := by
  obtain ⟨⟨x⟩⟩ := a
  show ((⟨x⟩ : Array UInt8) == ⟨x⟩) = true
  simp
theorem rf_not {x b : Bool} (h : isB x b) : isB (notB x) (!b) := by unfold isB at h; subst h; rfl
theorem rf_and {x y : Bool} (h : isB x true) (k : isB y true) : isB (andB x y) true := by unfold isB at h k; subst h; subst k; rfl
theorem rf_unnot {x b : Bool} (h : isB (notB x) b) : isB x (!b) := by unfold isB at *; subst h; cases x <;> rfl
theorem ltle (a b : Int) : ilt b a = !(ile a b) := by
  unfold ilt ile
  by_cases h : a ≤ b
  · rw [decide_eq_true h, decide_eq_false (by omega)]; rfl
  · rw [decide_eq_false h, decide_eq_true (by omega)]; rfl
theorem eqne (a b : Int) : ieq a b = !(ine a b) := by
  show (a == b) = !(!(a == b))
  rw [Bool.not_not]
theorem rf_dle {a b : Int} {c : Bool} (h : isB (ile a b) c) : isB (ilt b a) (!c) := by
  unfold isB at *; rw [ltle, h]
theorem rf_ule {a b : Int} {c : Bool} (h : isB (ilt b a) c) : isB (ile a b) (!c) := by
  unfold isB at *; rw [ltle] at h; subst h; rw [Bool.not_not]
theorem rf_dne {a b : Int} {c : Bool} (h : isB (ine a b) c) : isB (ieq a b) (!c) := by
  unfold isB at *; rw [eqne, h]
theorem rf_une {a b : Int} {c : Bool} (h : isB (ieq a b) c) : isB (ine a b) (!c) := by
  unfold isB at *; rw [eqne] at h; subst h; rw [Bool.not_not]
theorem rf_sym {a b : Int} {c : Bool} (h : isB (ieq a b) c) : isB (ieq b a) c := by
  unfold isB at *; subst h
  show (b == a) = (a == b)
  exact BEq.comm
/-- slots told by their gaps -/
def tz : Nat → Tm → Tm
  | 0, l => l
  | n + 1, l => none :: tz n l
def tg : List (Nat × AV) → Nat → Tm
  | [], n => tz n []
  | (g, x) :: r, n => tz g (some x :: tg r n)
end Go.Abs
