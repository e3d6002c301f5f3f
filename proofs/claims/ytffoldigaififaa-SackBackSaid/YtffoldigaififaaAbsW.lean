import Derived.Test.YtffoldigaififaaAbsO
import Derived.Test.YtffoldigaififaaAbsT
import Derived.ChangeSame
import Derived.OpenShut
import Derived.ShutString
set_option linter.unusedVariables false
set_option linter.unusedSimpArgs false
/- Values without memory (numbers, Bools, texts, structs and arrays of these), read and written back as data. -/
namespace Go.Abs
section
variable {H : Type}
mutual
/-- the cells and the datum of a value of that shape -/
def PV (H : Type) : PS → List Value → DataW H → Prop
  | .int k, cs, d => ∃ n, cs = [.int k n] ∧ d = .lit (.int k n) ∧ (Lit.int k n).wf = true
  | .bool, cs, d => ∃ b, cs = [.bool b] ∧ d = .lit (.bool b)
  | .str, cs, d => ∃ s : ByteArray, cs = [.string s] ∧ d = .lit (.string s.data.toList) ∧ s.size ≤ maxLen
  | .agg l, cs, d => ∃ ds, d = .agg ds ∧ PVL H l cs ds
def PVL (H : Type) : List PS → List Value → List (DataW H) → Prop
  | [], cs, ds => cs = [] ∧ ds = []
  | s :: l, cs, ds => ∃ c1 c2 d1 d2, cs = c1 ++ c2 ∧ ds = d1 :: d2 ∧ PV H s c1 d1 ∧ PVL H l c2 d2
end
mutual
theorem PV.len : ∀ {s : PS} {cs : List Value} {d : DataW H}, PV H s cs d → cs.length = s.size
  | .int k, cs, d, ⟨n, h, _⟩ => by subst h; rfl
  | .bool, cs, d, ⟨n, h, _⟩ => by subst h; rfl
  | .str, cs, d, ⟨n, h, _⟩ => by subst h; rfl
  | .agg l, cs, d, ⟨ds, h, hl⟩ => by simp only [PS.size]; exact PVL.len hl
theorem PVL.len : ∀ {l : List PS} {cs : List Value} {ds : List (DataW H)}, PVL H l cs ds → cs.length = PS.sizeL l
  | [], cs, d, ⟨h, _⟩ => by subst h; rfl
  | s :: l, cs, d, ⟨c1, c2, d1, d2, h, _, h1, h2⟩ => by subst h; simp only [List.length_append, PS.sizeL, PV.len h1, PVL.len h2]
end

variable {enc : TypeId × Value → H} {P : Program} {w : World} {base : Nat} {spare : Nat → Bool} {held : Bool}
theorem trod_parts {t : TypeId} {fuel : Nat} {cs : List Value} {x : DataW H × List MemPlace} (ha : aggY P t = true) (h : DataW.trod enc P w base spare held fuel t cs = some x) :
    ∃ (xs : List (DataW H × List MemPlace)) (m : Nat), x = (.agg (xs.map (·.1)), xs.flatMap (·.2)) ∧ cs.length = P.cellsOf t ∧ xs.length = (partsOf P t).length ∧
      ∀ (i : Nat) (p : TypeId × Nat × Nat), (partsOf P t)[i]? = some p → DataW.trod enc P w base spare held m p.1 ((cs.drop p.2.1).take p.2.2) = xs[i]? := by
  unfold aggY at ha
  split at ha <;> try simp at ha
  · rename_i fs ht
    obtain ⟨xs, m, _, h2, h3, h4, h5⟩ := DataW.trod_struct ht h
    refine ⟨xs, m, h2, h3, by simp [partsOf, ht, h4], fun i p hp => ?_⟩
    simp only [partsOf, ht, List.getElem?_map, Option.map_eq_some_iff] at hp
    obtain ⟨f, hf, rfl⟩ := hp
    exact h5 i f (by rw [← Array.getElem?_toList]; exact hf)
  · rename_i n e ht
    obtain ⟨xs, m, _, h2, h3, h4, h5⟩ := DataW.trod_array ht h
    refine ⟨xs, m, h2, h3, by simp [partsOf, ht, h4], fun i p hp => ?_⟩
    simp only [partsOf, ht, List.getElem?_map, Option.map_eq_some_iff] at hp
    obtain ⟨j, hj, rfl⟩ := hp
    have hlt : i < n := by have := (List.getElem?_eq_some_iff.1 hj).1; simpa using this
    rw [List.getElem?_range hlt] at hj
    simp at hj; subst hj
    exact h5 _ hlt
mutual
theorem open_pv : ∀ {s : PS} {t : TypeId} {fuel : Nat} {cs : List Value} {x : DataW H × List MemPlace}, psOk P t s = true → DataW.trod enc P w base spare held fuel t cs = some x → PV H s cs x.1 ∧ x.2 = []
  | .int k, t, fuel, cs, x, hs, h => by
    simp only [psOk] at hs
    split at hs <;> simp at hs
    subst hs
    obtain ⟨n, h1, rfl, h3⟩ := DataW.trod_int ‹_› h
    exact ⟨⟨n, h1, rfl, h3⟩, rfl⟩
  | .bool, t, fuel, cs, x, hs, h => by
    simp only [psOk] at hs
    split at hs <;> simp at hs
    obtain ⟨n, h1, rfl⟩ := DataW.trod_bool ‹_› h
    exact ⟨⟨n, h1, rfl⟩, rfl⟩
  | .str, t, fuel, cs, x, hs, h => by
    simp only [psOk] at hs
    split at hs <;> simp at hs
    obtain ⟨n, h1, rfl, h3⟩ := DataW.trod_string ‹_› h
    exact ⟨⟨n, h1, rfl, h3⟩, rfl⟩
  | .agg l, t, fuel, cs, x, hs, h => by
    simp only [psOk, Bool.and_eq_true, beq_iff_eq] at hs
    obtain ⟨⟨ha, hsz⟩, hl⟩ := hs
    obtain ⟨xs, m, rfl, hcl, hxl, hp⟩ := trod_parts ha h
    have := open_pvl (o := 0) (cs := cs) hl hxl hp (by rw [hcl, hsz]; omega)
    exact ⟨⟨_, rfl, by simpa using this.1⟩, this.2⟩
theorem open_pvl : ∀ {l : List PS} {ps : List (TypeId × Nat × Nat)} {m o : Nat} {cs : List Value} {xs : List (DataW H × List MemPlace)}, psOkL P ps o l = true → xs.length = ps.length →
    (∀ (i : Nat) (p : TypeId × Nat × Nat), ps[i]? = some p → DataW.trod enc P w base spare held m p.1 ((cs.drop p.2.1).take p.2.2) = xs[i]?) → cs.length = o + PS.sizeL l → PVL H l (cs.drop o) (xs.map (·.1)) ∧ xs.flatMap (·.2) = []
  | [], ps, m, o, cs, xs, hs, hx, hp, hc => by
    cases ps with
    | nil =>
      cases xs with
      | nil => exact ⟨⟨by simp [PS.sizeL] at hc; simp; omega, rfl⟩, rfl⟩
      | cons _ _ => simp at hx
    | cons _ _ => simp [psOkL] at hs
  | s :: l, ps, m, o, cs, xs, hs, hx, hp, hc => by
    cases ps with
    | nil => simp [psOkL] at hs
    | cons p ps =>
      simp only [psOkL, Bool.and_eq_true, beq_iff_eq] at hs
      obtain ⟨⟨⟨ho, hn⟩, h1⟩, h2⟩ := hs
      cases xs with
      | nil => simp at hx
      | cons x xs =>
        have a := hp 0 p rfl
        simp only [List.getElem?_cons_zero] at a
        have b := open_pv h1 a
        have c := open_pvl (cs := cs) (xs := xs) (ps := ps) (m := m) h2 (by simpa using hx) (fun i q hq => hp (i + 1) q hq) (by rw [hc, PS.sizeL]; omega)
        rw [ho, hn] at b
        refine ⟨⟨(cs.drop o).take s.size, cs.drop (o + s.size), x.1, xs.map (·.1), ?_, rfl, b.1, c.1⟩, by simp [b.2, c.2]⟩
        rw [← List.drop_drop, List.take_append_drop]
end
theorem trod_fuel_agg {t : TypeId} {m : Nat} {cs : List Value} {xs : List (DataW H × List MemPlace)} (ha : aggY P t = true) (hl : cs.length = P.cellsOf t)
    (hp : (partsOf P t).mapM (fun p => DataW.trod enc P w base spare held m p.1 ((cs.drop p.2.1).take p.2.2)) = some xs) :
    DataW.trod enc P w base spare held (m + 1) t cs = some (.agg (xs.map (·.1)), xs.flatMap (·.2)) := by
  unfold aggY at ha
  split at ha <;> try simp at ha
  · rename_i fs ht
    refine Go.ChangeShapes.trod_struct_mk ht hl ?_
    simpa [partsOf, ht, List.mapM_map, Function.comp_def] using hp
  · rename_i n e ht
    unfold DataW.trod
    rw [ht]
    simp only [partsOf, ht, List.mapM_map] at hp
    split <;> simp_all
    exact ⟨xs, hp, rfl, rfl⟩
mutual
theorem shut_pv : ∀ {s : PS} {t : TypeId} {fuel : Nat} {cs : List Value} {d : DataW H}, psOk P t s = true → PV H s cs d → s.depth ≤ fuel → DataW.trod enc P w base spare held fuel t cs = some (d, [])
  | .int k, t, fuel, cs, x, hs, ⟨n, h1, h2, h3⟩, hf => by
    simp only [psOk] at hs
    split at hs <;> simp at hs
    subst hs h1 h2
    obtain ⟨m, rfl⟩ : ∃ m, fuel = m + 1 := ⟨fuel - 1, by simp [PS.depth] at hf; omega⟩
    simp [DataW.trod, *]
  | .bool, t, fuel, cs, x, hs, ⟨n, h1, h2⟩, hf => by
    simp only [psOk] at hs
    split at hs <;> simp at hs
    subst h1 h2
    obtain ⟨m, rfl⟩ : ∃ m, fuel = m + 1 := ⟨fuel - 1, by simp [PS.depth] at hf; omega⟩
    simp [DataW.trod, *]
  | .str, t, fuel, cs, x, hs, ⟨n, h1, h2, h3⟩, hf => by
    simp only [psOk] at hs
    split at hs <;> simp at hs
    subst h1 h2
    obtain ⟨m, rfl⟩ : ∃ m, fuel = m + 1 := ⟨fuel - 1, by simp [PS.depth] at hf; omega⟩
    simp [DataW.trod, *]
  | .agg l, t, fuel, cs, x, hs, ⟨ds, h1, h2⟩, hf => by
    simp only [psOk, Bool.and_eq_true, beq_iff_eq] at hs
    obtain ⟨⟨ha, hsz⟩, hl⟩ := hs
    subst h1
    obtain ⟨m, rfl⟩ : ∃ m, fuel = m + 1 := ⟨fuel - 1, by simp [PS.depth] at hf; omega⟩
    have hx := shut_pvl (o := 0) (cs := cs) (fuel := m) hl (by simpa using h2) (by simp [PS.depth] at hf; omega)
    have := trod_fuel_agg (enc := enc) (w := w) (base := base) (spare := spare) (held := held) (m := m) ha (by rw [PVL.len h2, hsz]) hx
    rw [this]
    have e : (ds.map fun d => ((d, []) : DataW H × List MemPlace)).flatMap (·.2) = [] := by simp
    rw [e]; simp [Function.comp_def]
theorem shut_pvl : ∀ {l : List PS} {ps : List (TypeId × Nat × Nat)} {fuel o : Nat} {cs : List Value} {ds : List (DataW H)}, psOkL P ps o l = true → PVL H l (cs.drop o) ds → PS.depthL l ≤ fuel →
    ps.mapM (fun p => DataW.trod enc P w base spare held fuel p.1 ((cs.drop p.2.1).take p.2.2)) = some (ds.map fun d => (d, []))
  | [], ps, fuel, o, cs, ds, hs, ⟨h1, h2⟩, hf => by
    cases ps with
    | nil => subst h2; rfl
    | cons _ _ => simp [psOkL] at hs
  | s :: l, ps, fuel, o, cs, ds, hs, ⟨c1, c2, d1, d2, h1, h2, h3, h4⟩, hf => by
    cases ps with
    | nil => simp [psOkL] at hs
    | cons p ps =>
      simp only [psOkL, Bool.and_eq_true, beq_iff_eq] at hs
      obtain ⟨⟨⟨ho, hn⟩, g1⟩, g2⟩ := hs
      simp only [PS.depthL] at hf
      have hlen := PV.len h3
      have t1 : (cs.drop o).take s.size = c1 := by rw [h1, ← hlen]; simp
      have t2 : cs.drop (o + s.size) = c2 := by rw [← List.drop_drop, h1, ← hlen]; simp
      have a := shut_pv (fuel := fuel) g1 h3 (by omega)
      have b := shut_pvl (fuel := fuel) (cs := cs) g2 (by rw [t2]; exact h4) (by omega)
      subst h2
      rw [List.mapM_cons, ho, hn, t1, a, b]
      rfl
end
end
section
variable {H : Type} {enc : TypeId × Value → H} {P : Program} {w : World} {base : Nat} {spare : Nat → Bool} {held : Bool}
theorem open_ps {s : PS} {r : Reach} {b0 : Nat} {t : TypeId} {v : Value} {d : DataW H} {ps : List MemPlace} (hs : psOk P t s = true) (hval : Value.okWide P w r b0 t v) (hd : DataW.Trod enc P w base spare held t v d ps) :
    ∃ cs, v = pval s cs ∧ PV H s cs d ∧ ps = [] := by
  obtain ⟨fuel, hf⟩ := hd
  obtain ⟨h1, h2⟩ := open_pv hs hf
  simp only at h1 h2
  refine ⟨v.cells.toList, ?_, h1, h2⟩
  cases s with
  | agg l =>
    simp only [psOk, Bool.and_eq_true, beq_iff_eq] at hs
    have ha := hs.1.1
    unfold aggY at ha
    unfold Value.okWide at hval
    split at ha <;> try simp at ha
    · rename_i fs ht
      rw [ht] at hval
      obtain ⟨c, rfl, -⟩ := hval
      simp [pval, Value.cells]
    · rename_i n e ht
      rw [ht] at hval
      obtain ⟨c, rfl, -⟩ := hval
      simp [pval, Value.cells]
  | int k =>
    simp only [psOk] at hs
    split at hs <;> simp at hs
    subst hs
    obtain ⟨n, rfl, -⟩ := Go.ChangeShapes.open_int (enc := enc) ‹_› hval ⟨fuel, hf⟩
    rfl
  | bool =>
    simp only [psOk] at hs
    split at hs <;> simp at hs
    obtain ⟨n, rfl, -⟩ := Go.RowKit.open_bool (enc := enc) ‹_› hval ⟨fuel, hf⟩
    rfl
  | str =>
    simp only [psOk] at hs
    split at hs <;> simp at hs
    obtain ⟨n, rfl, -⟩ := Go.ChangeMaps.open_string (enc := enc) ‹_› hval ⟨fuel, hf⟩
    rfl
theorem shut_ps {s : PS} {t : TypeId} {cs : List Value} {d : DataW H} (hs : psOk P t s = true) (h : PV H s cs d) : DataW.Trod enc P w base spare held t (pval s cs) d [] := by
  refine ⟨s.depth, ?_⟩
  have : (pval s cs).cells.toList = cs := by
    cases s with
    | agg l => simp [pval, Value.cells]
    | int k => obtain ⟨n, rfl, -⟩ := h; rfl
    | bool => obtain ⟨n, rfl, -⟩ := h; rfl
    | str => obtain ⟨n, rfl, -⟩ := h; rfl
  rw [this]
  exact shut_pv hs h (Nat.le_refl _)
end
end Go.Abs
