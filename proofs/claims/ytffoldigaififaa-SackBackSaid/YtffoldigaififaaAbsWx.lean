import Derived.Test.YtffoldigaififaaAbsWs
set_option linter.unusedVariables false
set_option linter.unusedSimpArgs false
/- Parameters that hold slices at any place within structs: read as data, told as rows that are not written. -/
namespace Go.Abs
/-- a shape with slices in it -/
inductive XS where
  | int (k : IntKind)
  | bool
  | str
  | sl (s : PS)
  | agg (l : List XS)
mutual
def XS.size : XS → Nat
  | .agg l => XS.sizeL l
  | _ => 1
def XS.sizeL : List XS → Nat
  | [] => 0
  | s :: l => s.size + XS.sizeL l
end
mutual
def xsOk (P : Program) : TypeId → XS → Bool
  | t, .int k => match P.underlying t with
    | some (.int k') => k' == k
    | _ => false
  | t, .bool => match P.underlying t with
    | some .bool => true
    | _ => false
  | t, .str => match P.underlying t with
    | some .string => true
    | _ => false
  | t, .sl s => match P.underlying t with
    | some (.slice e) => psOk P e s && decide (0 < s.size) && (P.cellsOf e == s.size)
    | _ => false
  | t, .agg l => aggY P t && (P.cellsOf t == XS.sizeL l) && xsOkL P (partsOf P t) 0 l
def xsOkL (P : Program) : List (TypeId × Nat × Nat) → Nat → List XS → Bool
  | [], _, [] => true
  | p :: ps, o, s :: l => (p.2.1 == o) && (p.2.2 == s.size) && xsOk P p.1 s && xsOkL P ps (o + s.size) l
  | _, _, _ => false
end
mutual
/-- the cells of a value of that shape -/
def XV (w : World) : XS → List Value → Prop
  | .int k, cs => ∃ n, cs = [.int k n] ∧ (Lit.int k n).wf = true
  | .bool, cs => ∃ b, cs = [.bool b]
  | .str, cs => ∃ s : ByteArray, cs = [.string s] ∧ s.size ≤ maxLen
  | .sl s, cs => ∃ (l : List (El s.ck)) (L : Loc), cs = [.slice (L.base 0) (L.len / s.size) (L.cap / s.size)] ∧ (∀ σ, Blk σ (rowO s.ck l) w L) ∧ ∀ y ∈ l, El.ok s.ck y
  | .agg l, cs => XVL w l cs
def XVL (w : World) : List XS → List Value → Prop
  | [], cs => cs = []
  | s :: l, cs => ∃ c1 c2, cs = c1 ++ c2 ∧ XV w s c1 ∧ XVL w l c2
end
/-- slices lie in blocks -/
def Spotless (cs : List Value) : Prop := ∀ a n c, Value.slice (some a) n c ∈ cs → a.spot = none
section
variable {H : Type} {enc : TypeId × Value → H} {P : Program} {w : World} {held : Bool}
mutual
theorem open_xv : ∀ {s : XS} {t : TypeId} {fuel : Nat} {cs : List Value} {x : DataW H × List MemPlace}, xsOk P t s = true → Spotless cs → DataW.trod enc P w 0 (fun _ => true) held fuel t cs = some x → XV w s cs
  | .int k, t, fuel, cs, x, hs, hsp, h => by
    simp only [xsOk] at hs
    split at hs <;> simp at hs
    subst hs
    obtain ⟨n, h1, rfl, h3⟩ := DataW.trod_int ‹_› h
    exact ⟨n, h1, h3⟩
  | .bool, t, fuel, cs, x, hs, hsp, h => by
    simp only [xsOk] at hs
    split at hs <;> simp at hs
    obtain ⟨n, h1, rfl⟩ := DataW.trod_bool ‹_› h
    exact ⟨n, h1⟩
  | .str, t, fuel, cs, x, hs, hsp, h => by
    simp only [xsOk] at hs
    split at hs <;> simp at hs
    obtain ⟨n, h1, rfl, h3⟩ := DataW.trod_string ‹_› h
    exact ⟨n, h1, h3⟩
  | .sl s, t, fuel, cs, x, hs, hsp, h => by
    simp only [xsOk] at hs
    split at hs <;> simp at hs
    rename_i e ht
    obtain ⟨⟨h1, h2⟩, h3⟩ := hs
    have hv : ∃ v, cs = [v] := by
      rcases DataW.trod_slice ht h with ⟨h1, -⟩ | ⟨a, len, cap, elems, rest, n, _, h1, -⟩
      · exact ⟨_, h1⟩
      · exact ⟨_, h1⟩
    obtain ⟨v, rfl⟩ := hv
    obtain ⟨l, L, rfl, k1, k2⟩ := open_sl ht h1 h2 h3 (fun a n c he => hsp a n c (by rw [he]; exact List.mem_singleton.2 rfl)) h
    exact ⟨l, L, rfl, k1, k2⟩
  | .agg l, t, fuel, cs, x, hs, hsp, h => by
    simp only [xsOk, Bool.and_eq_true, beq_iff_eq] at hs
    obtain ⟨⟨ha, hsz⟩, hl⟩ := hs
    obtain ⟨xs, m, rfl, hcl, hxl, hp⟩ := trod_parts ha h
    have := open_xvl (o := 0) (cs := cs) hl hxl hsp hp (by rw [hcl, hsz]; omega)
    simpa [XV] using this
theorem open_xvl : ∀ {l : List XS} {ps : List (TypeId × Nat × Nat)} {m o : Nat} {cs : List Value} {xs : List (DataW H × List MemPlace)}, xsOkL P ps o l = true → xs.length = ps.length → Spotless cs →
    (∀ (i : Nat) (p : TypeId × Nat × Nat), ps[i]? = some p → DataW.trod enc P w 0 (fun _ => true) held m p.1 ((cs.drop p.2.1).take p.2.2) = xs[i]?) → cs.length = o + XS.sizeL l → XVL w l (cs.drop o)
  | [], ps, m, o, cs, xs, hs, hx, hsp, hp, hc => by
    simp [XS.sizeL] at hc
    simp only [XVL, List.drop_eq_nil_iff]; omega
  | s :: l, ps, m, o, cs, xs, hs, hx, hsp, hp, hc => by
    cases ps with
    | nil => simp [xsOkL] at hs
    | cons p ps =>
      simp only [xsOkL, Bool.and_eq_true, beq_iff_eq] at hs
      obtain ⟨⟨⟨ho, hn⟩, h1⟩, h2⟩ := hs
      cases xs with
      | nil => simp at hx
      | cons x xs =>
        have a := hp 0 p rfl
        simp only [List.getElem?_cons_zero] at a
        rw [ho, hn] at a
        have b := open_xv h1 (fun a n c hm => hsp a n c (List.mem_of_mem_drop (List.mem_of_mem_take hm))) a
        have c := open_xvl (cs := cs) (xs := xs) (ps := ps) (m := m) h2 (by simpa using hx) hsp (fun i q hq => hp (i + 1) q hq) (by rw [hc, XS.sizeL]; omega)
        refine ⟨(cs.drop o).take s.size, cs.drop (o + s.size), ?_, b, c⟩
        rw [← List.drop_drop, List.take_append_drop]
end
theorem okWide_spot {base : Nat} {u : TypeId} {a : Addr} {n c : Nat} (h : Cell.okWide P w .any base u (.slice (some a) n c)) : a.spot = none := by
  unfold Cell.okWide at h
  have h2 : Cell.ok P w .any base u (.slice (some a) n c) := by
    split at h <;> first | exact h | simp_all
  unfold Cell.ok at h2
  split at h2 <;> first | (simp_all; done) | (rename_i heq; simp only [Value.slice.injEq, Option.some.injEq] at heq; obtain ⟨rfl, -, -⟩ := heq; exact h2.2.2.2.1)
/-- a parameter's value with slices in it -/
def xval (s : XS) (cs : List Value) : Value := match s, cs with
  | .agg _, cs => .agg cs.toArray
  | _, [x] => x
  | _, _ => .tuple #[]
theorem open_xs {s : XS} {t : TypeId} {base : Nat} {v : Value} {d : DataW H} {ps : List MemPlace} (hs : xsOk P t s = true) (hval : Value.okWide P w .any base t v) (h : DataW.Trod enc P w 0 (fun _ => true) held t v d ps) :
    ∃ cs, v = xval s cs ∧ XV w s cs := by
  obtain ⟨fuel, hf⟩ := h
  have hsp : Spotless v.cells.toList := by
    intro a n c hm
    unfold Value.okWide at hval
    split at hval
    · obtain ⟨cs, rfl, -, ts, -, -, hc⟩ := hval
      simp only [Value.cells] at hm
      obtain ⟨i, hi⟩ := List.getElem?_of_mem hm
      obtain ⟨u, -, hu⟩ := hc i _ (by simpa using hi)
      exact okWide_spot hu
    · obtain ⟨cs, rfl, -, ts, -, -, hc⟩ := hval
      simp only [Value.cells] at hm
      obtain ⟨i, hi⟩ := List.getElem?_of_mem hm
      obtain ⟨u, -, hu⟩ := hc i _ (by simpa using hi)
      exact okWide_spot hu
    · have : v = .slice (some a) n c := by
        cases v with
        | agg x =>
          unfold Cell.okWide at hval
          have h2 : Cell.ok P w .any base t (.agg x) := by
            split at hval <;> first | exact hval | simp_all
          unfold Cell.ok at h2
          split at h2 <;> simp_all
        | _ => first | (simp [Value.cells] at hm; done) | simpa [Value.cells, eq_comm] using hm
      rw [this] at hval
      exact okWide_spot hval
  have hx := open_xv hs hsp hf
  refine ⟨v.cells.toList, ?_, hx⟩
  cases s with
  | agg l =>
    simp only [xsOk, Bool.and_eq_true, beq_iff_eq] at hs
    have ha := hs.1.1
    unfold aggY at ha
    unfold Value.okWide at hval
    split at ha <;> try simp at ha
    · rename_i fs ht
      rw [ht] at hval
      obtain ⟨c, rfl, -⟩ := hval
      simp [xval, Value.cells]
    · rename_i n e ht
      rw [ht] at hval
      obtain ⟨c, rfl, -⟩ := hval
      simp [xval, Value.cells]
  | int k =>
    simp only [xsOk] at hs
    split at hs <;> simp at hs
    subst hs
    obtain ⟨n, rfl, -⟩ := Go.ChangeShapes.open_int (enc := enc) ‹_› hval ⟨fuel, hf⟩
    rfl
  | bool =>
    simp only [xsOk] at hs
    split at hs <;> simp at hs
    obtain ⟨n, rfl, -⟩ := Go.RowKit.open_bool (enc := enc) ‹_› hval ⟨fuel, hf⟩
    rfl
  | str =>
    simp only [xsOk] at hs
    split at hs <;> simp at hs
    obtain ⟨n, rfl, -⟩ := Go.ChangeMaps.open_string (enc := enc) ‹_› hval ⟨fuel, hf⟩
    rfl
  | sl s =>
    simp only [xsOk] at hs
    split at hs <;> simp at hs
    obtain ⟨h1, -⟩ := okWide_slice ‹_› hval
    rw [h1]; rfl
end
end Go.Abs
