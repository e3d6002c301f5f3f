import Derived.Test.YtffoldigaififaaAbsC
import Derived.ChangeKeysEq
import Derived.Laws.StructEq
set_option linter.unusedVariables false
set_option linter.unusedSimpArgs false
/- Types without memory, and the equality of their values. -/
namespace Go.Abs
inductive PS where
  | int (k : IntKind)
  | bool
  | str
  | agg (l : List PS)
mutual
def PS.size : PS → Nat
  | .agg l => PS.sizeL l
  | _ => 1
def PS.sizeL : List PS → Nat
  | [] => 0
  | s :: l => s.size + PS.sizeL l
end
/-- a type's parts: type, offset, cells -/
def partsOf (P : Program) (t : TypeId) : List (TypeId × Nat × Nat) := match P.underlying t with
  | some (.struct fs) => fs.toList.map fun f => (f.type, f.offset, P.cellsOf f.type)
  | some (.array n e) => (List.range n).map fun i => (e, i * P.cellsOf e, P.cellsOf e)
  | _ => []
def aggY (P : Program) (t : TypeId) : Bool := match P.underlying t with
  | some (.struct _) => true
  | some (.array _ _) => true
  | _ => false
mutual
def psOk (P : Program) : TypeId → PS → Bool
  | t, .int k => match P.underlying t with
    | some (.int k') => k' == k
    | _ => false
  | t, .bool => match P.underlying t with
    | some .bool => true
    | _ => false
  | t, .str => match P.underlying t with
    | some .string => true
    | _ => false
  | t, .agg l => aggY P t && (P.cellsOf t == PS.sizeL l) && psOkL P (partsOf P t) 0 l
def psOkL (P : Program) : List (TypeId × Nat × Nat) → Nat → List PS → Bool
  | [], _, [] => true
  | p :: ps, o, s :: l => (p.2.1 == o) && (p.2.2 == s.size) && psOk P p.1 s && psOkL P ps (o + s.size) l
  | _, _, _ => false
end
mutual
def PS.depth : PS → Nat
  | .agg l => PS.depthL l + 1
  | _ => 1
def PS.depthL : List PS → Nat
  | [] => 0
  | s :: l => max s.depth (PS.depthL l)
end
/-- a parameter's value without memory -/
def pval (s : PS) (cs : List Value) : Value := match s, cs with
  | .agg _, cs => .agg cs.toArray
  | _, [x] => x
  | _, _ => .tuple #[]

/-- a type's shape -/
def psT (P : Program) : Nat → TypeId → Option PS
  | 0, _ => none
  | n + 1, t => match P.underlying t with
    | some (.int k) => some (.int k)
    | some .bool => some .bool
    | some .string => some .str
    | some (.struct fs) => (fs.toList.mapM fun f => psT P n f.type).map .agg
    | some (.array m e) => (psT P n e).map fun s => .agg (List.replicate m s)
    | _ => none
mutual
/-- is == of that type the equality of all cells? -/
def eqOk (P : Program) : TypeId → PS → Bool
  | t, .agg l => psOk P t (.agg l) && (P.info? t).isSome && (match P.underlying t with
    | some (.struct fs) => fs.toList.all (fun f => f.name != "_") && !P.stoodInHeld t
    | some (.array _ e) => (P.info? e).isSome
    | _ => false) && eqOkL P (partsOf P t) l
  | t, s => psOk P t s
def eqOkL (P : Program) : List (TypeId × Nat × Nat) → List PS → Bool
  | [], [] => true
  | p :: ps, s :: l => eqOk P p.1 s && eqOkL P ps l
  | _, _ => false
end
mutual
def Typ : PS → List Value → Prop
  | .int k, cs => ∃ n, cs = [.int k n]
  | .bool, cs => ∃ b, cs = [.bool b]
  | .str, cs => ∃ s, cs = [.string s]
  | .agg l, cs => TypL l cs
def TypL : List PS → List Value → Prop
  | [], cs => cs = []
  | s :: l, cs => ∃ c1 c2, cs = c1 ++ c2 ∧ Typ s c1 ∧ TypL l c2
end
mutual
theorem Typ.len : ∀ {s : PS} {cs : List Value}, Typ s cs → cs.length = s.size
  | .int k, cs, ⟨n, h⟩ => by subst h; rfl
  | .bool, cs, ⟨n, h⟩ => by subst h; rfl
  | .str, cs, ⟨n, h⟩ => by subst h; rfl
  | .agg l, cs, h => by simp only [PS.size]; exact TypL.len h
theorem TypL.len : ∀ {l : List PS} {cs : List Value}, TypL l cs → cs.length = PS.sizeL l
  | [], cs, h => by simp only [TypL] at h; subst h; rfl
  | s :: l, cs, ⟨c1, c2, h, h1, h2⟩ => by subst h; simp only [List.length_append, PS.sizeL, Typ.len h1, TypL.len h2]
end
def eq1V : Value → Value → Bool
  | .int _ a, .int _ b => a == b
  | .bool a, .bool b => a == b
  | .string a, .string b => a == b
  | _, _ => false
def eqVL : List Value → List Value → Bool
  | [], [] => true
  | x :: l, y :: m => eq1V x y && eqVL l m
  | _, _ => false
theorem eqVL_app : ∀ {a b c d : List Value}, a.length = c.length → eqVL (a ++ b) (c ++ d) = (eqVL a c && eqVL b d)
  | [], b, [], d, h => by simp [eqVL]
  | x :: a, b, y :: c, d, h => by simp [eqVL, eqVL_app (a := a) (c := c) (by simpa using h), Bool.and_assoc]
  | [], b, y :: c, d, h => by simp at h
  | x :: a, b, [], d, h => by simp at h
/-- the comparison, part by part -/
def eqParts (d : Nat) (xs ys : Array Value) : List (TypeId × Nat × Nat) → Sem Bool
  | [] => pure true
  | p :: ps => do
    let a ← part p.1 xs p.2.1
    let b ← part p.1 ys p.2.1
    let r ← Op.equalIn d p.1 a b
    if (!r) = true then pure false else eqParts d xs ys ps
theorem eqFields_parts {P : Program} {d : Nat} {xs ys : Array Value} : ∀ {fs : List Field}, fs.all (fun f => f.name != "_") = true →
    Op.eqFields d xs ys fs = eqParts d xs ys (fs.map fun f => (f.type, f.offset, P.cellsOf f.type))
  | [], _ => rfl
  | f :: fs, h => by
    simp only [List.all_cons, Bool.and_eq_true, bne_iff_ne, ne_eq] at h
    simp only [Op.eqFields, List.map_cons, eqParts, ne_eq, h.1, not_false_eq_true, if_true, eqFields_parts (P := P) (fs := fs) h.2]
theorem eqItems_parts {d c : Nat} {e : TypeId} {xs ys : Array Value} : ∀ {is : List Nat}, Op.eqItems d e c xs ys is = eqParts d xs ys (is.map fun i => (e, i * c, c))
  | [] => rfl
  | i :: is => by simp only [Op.eqItems, List.map_cons, eqParts, eqItems_parts (is := is)]
section
variable {P : Program} {w : World}
theorem run_isAggT {t : TypeId} {d : TypeDesc} (h : P.underlying t = some d) : (Go.isAgg t).run P w = .ok (aggY P t) w := by
  unfold aggY
  cases d <;> simp [Go.isAgg, run_underlying h, h]
theorem und_of {t : TypeId} {s : PS} (h : psOk P t s = true) : ∃ d, P.underlying t = some d := by
  cases s <;> simp only [psOk, aggY, Bool.and_eq_true] at h <;> (cases hu : P.underlying t with | none => simp [hu] at h | some d => exact ⟨d, rfl⟩)
theorem leaf_part {t : TypeId} {s : PS} {xs : Array Value} {off : Nat} (ha : aggY P t = false) (hlen : off + 1 ≤ xs.size) (hv : ∀ x, pval s [x] = x := by intro x; rfl) :
    (if aggY P t = true then (do pure (Value.agg (xs.extract off (off + (← sizeOf t))))) else match xs[off]? with
      | some v => pure v
      | none => stuck "part: no such cell" : Sem Value).run P w = .ok (pval s ((xs.toList.drop off).take 1)) w := by
  rw [ha]
  have h1 : xs[off]? = some xs[off] := Array.getElem?_eq_getElem (by omega)
  have h2 : (xs.toList.drop off).take 1 = [xs[off]] := by
    rw [List.drop_eq_getElem_cons (by simpa using by omega)]; simp
  rw [h2, hv, h1]
  simp
theorem part_ps {t : TypeId} {s : PS} {xs : Array Value} {off : Nat} (hs : eqOk P t s = true) (hlen : off + s.size ≤ xs.size) : (part t xs off).run P w = .ok (pval s ((xs.toList.drop off).take s.size)) w := by
  have hp : psOk P t s = true := by cases s <;> simp only [eqOk, Bool.and_eq_true] at hs <;> first | exact hs | exact hs.1.1.1
  obtain ⟨d, hd⟩ := und_of hp
  unfold part
  simp only [Sem.run_bind, run_isAggT hd, Result.andThen_ok]
  cases s with
  | agg l =>
    simp only [eqOk, Bool.and_eq_true] at hs
    simp only [psOk, Bool.and_eq_true, beq_iff_eq] at hp
    obtain ⟨i, hi⟩ := Option.isSome_iff_exists.1 hs.1.1.2
    rw [hp.1.1]
    simp only [if_true, Sem.run_bind, run_sizeOf w hi, Result.andThen_ok, Sem.run_pure, pval, PS.size, hp.1.2]
    congr 2
    apply Array.ext'
    simp [Array.toList_extract, List.extract_eq_take_drop]
  | int k => exact leaf_part (by simp only [psOk] at hp; unfold aggY; rw [hd] at hp ⊢; cases d <;> simp at hp ⊢) hlen
  | bool => exact leaf_part (by simp only [psOk] at hp; unfold aggY; rw [hd] at hp ⊢; cases d <;> simp at hp ⊢) hlen
  | str => exact leaf_part (by simp only [psOk] at hp; unfold aggY; rw [hd] at hp ⊢; cases d <;> simp at hp ⊢) hlen
mutual
theorem eq_ps : ∀ {s : PS} {t : TypeId} {D : Nat} {xs ys : List Value}, eqOk P t s = true → Typ s xs → Typ s ys → s.depth ≤ D → (Op.equalIn D t (pval s xs) (pval s ys)).run P w = .ok (eqVL xs ys) w
  | .int k, t, D, xs, ys, hs, ⟨a, ha⟩, ⟨b, hb⟩, hD => by
    subst ha hb
    obtain ⟨D, rfl⟩ : ∃ m, D = m + 1 := ⟨D - 1, by simp [PS.depth] at hD; omega⟩
    simp only [eqOk, psOk] at hs
    split at hs <;> simp at hs
    subst hs
    simpa [pval, eqVL, eq1V] using run_equalIn_int w D t _ _ a b ‹_›
  | .bool, t, D, xs, ys, hs, ⟨a, ha⟩, ⟨b, hb⟩, hD => by
    subst ha hb
    obtain ⟨D, rfl⟩ : ∃ m, D = m + 1 := ⟨D - 1, by simp [PS.depth] at hD; omega⟩
    simp only [eqOk, psOk] at hs
    split at hs <;> simp at hs
    simpa [pval, eqVL, eq1V] using run_equalIn_bool w D t a b ‹_›
  | .str, t, D, xs, ys, hs, ⟨a, ha⟩, ⟨b, hb⟩, hD => by
    subst ha hb
    obtain ⟨D, rfl⟩ : ∃ m, D = m + 1 := ⟨D - 1, by simp [PS.depth] at hD; omega⟩
    simp only [eqOk, psOk] at hs
    split at hs <;> simp at hs
    simp [pval, eqVL, eq1V, Op.equalIn, run_underlying ‹_›]
  | .agg l, t, D, xs, ys, hs, hx, hy, hD => by
    obtain ⟨D, rfl⟩ : ∃ m, D = m + 1 := ⟨D - 1, by simp [PS.depth] at hD; omega⟩
    simp only [eqOk, Bool.and_eq_true] at hs
    obtain ⟨⟨⟨h1, h2⟩, h3⟩, h4⟩ := hs
    simp only [psOk, Bool.and_eq_true, beq_iff_eq] at h1
    have key := eq_psl (o := 0) (D := D) (xs := xs) (ys := ys) h1.2 h4 (by simpa [Typ] using hx) (by simpa [Typ] using hy) (by simp [PS.depth] at hD; omega) (by rw [TypL.len hx]; omega) (by rw [TypL.len hy]; omega)
    simp only [List.drop_zero] at key
    simp only [pval]
    split at h3 <;> try simp at h3
    · rename_i fs hu
      have hf : P.fieldsOf t = fs := by simp [Program.fieldsOf, hu]
      rw [run_equalIn_struct (P := P) w D t _ _ (by rw [hf]; exact hu) h3.2, hf, eqFields_parts (P := P) (by simpa using h3.1)]
      simpa [partsOf, hu] using key
    · rename_i n e hu
      obtain ⟨i, hi⟩ := Option.isSome_iff_exists.1 h3
      rw [run_equalIn_array w D _ _ hu hi, eqItems_parts]
      simpa [partsOf, hu] using key
theorem eq_psl : ∀ {l : List PS} {ps : List (TypeId × Nat × Nat)} {o D : Nat} {xs ys : List Value}, psOkL P ps o l = true → eqOkL P ps l = true → TypL l (xs.drop o) → TypL l (ys.drop o) → PS.depthL l ≤ D → xs.length = o + PS.sizeL l → ys.length = o + PS.sizeL l →
    (eqParts D xs.toArray ys.toArray ps).run P w = .ok (eqVL (xs.drop o) (ys.drop o)) w
  | [], ps, o, D, xs, ys, h1, h2, hx, hy, hD, hlx, hly => by
    cases ps with
    | nil =>
      simp only [TypL] at hx hy
      rw [hx, hy]; simp [eqParts, eqVL]
    | cons _ _ => simp [psOkL] at h1
  | s :: l, ps, o, D, xs, ys, h1, h2, ⟨c1, c2, hx, hx1, hx2⟩, ⟨e1, e2, hy, hy1, hy2⟩, hD, hlx, hly => by
    cases ps with
    | nil => simp [psOkL] at h1
    | cons p ps =>
      simp only [psOkL, Bool.and_eq_true, beq_iff_eq] at h1
      simp only [eqOkL, Bool.and_eq_true] at h2
      simp only [PS.depthL] at hD
      simp only [PS.sizeL] at hlx hly
      obtain ⟨⟨⟨ho, hn⟩, h3⟩, h4⟩ := h1
      have l1 := Typ.len hx1
      have l2 := Typ.len hy1
      have t1 : (xs.drop o).take s.size = c1 := by rw [hx, ← l1]; simp
      have t2 : (ys.drop o).take s.size = e1 := by rw [hy, ← l2]; simp
      have u1 : xs.drop (o + s.size) = c2 := by rw [← List.drop_drop, hx, ← l1]; simp
      have u2 : ys.drop (o + s.size) = e2 := by rw [← List.drop_drop, hy, ← l2]; simp
      have a := part_ps (w := w) (xs := xs.toArray) (off := o) h2.1 (by simp; omega)
      have b := part_ps (w := w) (xs := ys.toArray) (off := o) h2.1 (by simp; omega)
      simp only [] at a b
      rw [t1] at a
      rw [t2] at b
      have c := eq_ps (D := D) h2.1 hx1 hy1 (by omega)
      have d := eq_psl (o := o + s.size) (D := D) (xs := xs) (ys := ys) h4 h2.2 (by rw [u1]; exact hx2) (by rw [u2]; exact hy2) (by omega) (by omega) (by omega)
      rw [u1, u2] at d
      rw [hx, hy, eqVL_app (by rw [l1, l2])]
      simp only [eqParts, ho, Sem.run_bind, a, b, c, Result.andThen_ok]
      cases eqVL c1 e1
      · simp
      · simpa using d
end
end
mutual
def takeFit : PS → List AV → Option (List AV)
  | .int k, .v (.int k' _) :: r => if k' = k then some r else none
  | .bool, .v (.bool _) :: r => some r
  | .bool, .b _ :: r => some r
  | .str, .v (.string _) :: r => some r
  | .agg l, r => takeFitL l r
  | _, _ => none
def takeFitL : List PS → List AV → Option (List AV)
  | [], r => some r
  | s :: l, r => match takeFit s r with
    | some r' => takeFitL l r'
    | none => none
end
mutual
theorem takeFit_typ (σ : Sg) : ∀ {s : PS} {l r : List AV}, takeFit s l = some r → ∃ c, l = c ++ r ∧ Typ s (denL σ c)
  | .int k, [], r, h => by simp [takeFit] at h
  | .int k, x :: l, r, h => by
    unfold takeFit at h
    split at h
    · split at h <;> simp at h
      subst h
      simp_all
      exact ⟨[_], rfl, by simp [denL, den, Typ]⟩
    all_goals simp_all
  | .bool, [], r, h => by simp [takeFit] at h
  | .bool, x :: l, r, h => by
    unfold takeFit at h
    split at h <;> simp_all
    · exact ⟨[_], rfl, by simp [denL, den, Typ]⟩
    · exact ⟨[_], rfl, by simp [denL, den, Typ]⟩
  | .str, [], r, h => by simp [takeFit] at h
  | .str, x :: l, r, h => by
    unfold takeFit at h
    split at h <;> simp_all
    exact ⟨[_], rfl, by simp [denL, den, Typ]⟩
  | .agg m, l, r, h => by
    have h' : takeFitL m l = some r := by unfold takeFit at h; exact h
    exact takeFitL_typ σ h'
theorem takeFitL_typ (σ : Sg) : ∀ {m : List PS} {l r : List AV}, takeFitL m l = some r → ∃ c, l = c ++ r ∧ TypL m (denL σ c)
  | [], l, r, h => by simp [takeFitL] at h; exact ⟨[], by simp [h], rfl⟩
  | s :: m, l, r, h => by
    unfold takeFitL at h
    split at h
    · rename_i r' h1
      obtain ⟨c, rfl, hc⟩ := takeFit_typ σ h1
      obtain ⟨d, rfl, hd⟩ := takeFitL_typ σ h
      exact ⟨c ++ d, by simp, denL σ c, denL σ d, by simp [denL_map], hc, hd⟩
    · simp at h
end
def eq1A : AV → AV → Option Bool
  | .v (.int k a), .v (.int k' b) => if k = k' then some (ieq a b) else none
  | .v (.string a), .v (.string b) => some (seqS a b)
  | .b a, .b b => some (beqB a b)
  | .v (.bool a), .b b => some (beqB a b)
  | .b a, .v (.bool b) => some (beqB a b)
  | .v (.bool a), .v (.bool b) => some (beqB a b)
  | _, _ => none
def andB (a b : Bool) : Bool := a && b
def eqAL : List AV → List AV → Option Bool
  | [], [] => some true
  | [x], [y] => eq1A x y
  | x :: l, y :: m => match eq1A x y, eqAL l m with
    | some a, some b => some (andB a b)
    | _, _ => none
  | _, _ => none
theorem eq1A_den (σ : Sg) {x y : AV} {b : Bool} (h : eq1A x y = some b) : eq1V (den σ x) (den σ y) = b := by
  unfold eq1A at h
  split at h <;> simp at h
  · obtain ⟨-, rfl⟩ := h; simp [den, eq1V, ieq]
  all_goals (subst h; simp [den, eq1V, seqS, beqB])
theorem eqAL_den (σ : Sg) : ∀ {l m : List AV} {b : Bool}, eqAL l m = some b → eqVL (denL σ l) (denL σ m) = b
  | [], [], b, h => by simp [eqAL] at h; subst h; rfl
  | [x], [y], b, h => by
    simp only [eqAL] at h
    simp [denL, eqVL, eq1A_den σ h]
  | x :: x' :: l, y :: m, b, h => by
    simp only [eqAL] at h
    split at h <;> simp at h
    rename_i a c h1 h2
    have := eqAL_den σ h2
    subst h
    simp only [denL] at this ⊢
    simp only [eqVL, eq1A_den σ h1, andB]
    rw [← this]
  | [x], y :: y' :: m, b, h => by
    simp only [eqAL] at h
    split at h <;> simp at h
    rename_i a c h1 h2
    simp [eqAL] at h2
  | [], _ :: _, b, h => by simp [eqAL] at h
  | [_], [], b, h => by simp [eqAL] at h
/-- '==' of two values of a type without memory -/
def aggEqA (P : Program) (t : TypeId) (l m : List AV) : Option Bool :=
  match psT P 16 t with
  | some (.agg s) => if eqOk P t (.agg s) && !P.eqGuardType P.depth t && decide ((PS.agg s).depth ≤ 10000) then
      match takeFit (.agg s) l, takeFit (.agg s) m with
      | some [], some [] => eqAL l m
      | _, _ => none
    else none
  | _ => none
theorem aggEqA_sound {P : Program} {w : World} {σ : Sg} {t : TypeId} {l m : List AV} {b : Bool} (h : aggEqA P t l m = some b) (op : BinOp) (xo yo : Operand) :
    (Op.equal t (den σ (.agg l)) (den σ (.agg m))).run P w = .ok b w ∧ (eqGuard op t xo yo (den σ (.agg l)) (den σ (.agg m))).run P w = .ok () w := by
  unfold aggEqA at h
  split at h <;> try simp at h
  rename_i s hs
  obtain ⟨⟨⟨h1, h2⟩, h3⟩, h4⟩ := h
  split at h4 <;> try simp at h4
  rename_i e1 e2
  obtain ⟨c, rfl, hc⟩ := takeFit_typ σ e1
  obtain ⟨d, rfl, hd⟩ := takeFit_typ σ e2
  simp only [List.append_nil] at h4 ⊢
  refine ⟨?_, by simp only [den]; exact run_eqGuard_agg w op t xo yo _ _ h2⟩
  have := eq_ps (P := P) (w := w) (D := 10000) h1 hc hd h3
  rw [eqAL_den σ h4] at this
  exact this
end Go.Abs
