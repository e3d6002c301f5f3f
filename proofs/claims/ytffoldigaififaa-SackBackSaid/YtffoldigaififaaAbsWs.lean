import Derived.Test.YtffoldigaififaaAbsW
import Derived.Carry
set_option linter.unusedVariables false
set_option linter.unusedSimpArgs false
/- Parameters that hold slices of values without memory: read as data, told as rows that are not written. -/
namespace Go.Abs
mutual
/-- the cells' kinds of a shape -/
def PS.ck : PS → List CK
  | .int k => [.int k]
  | .bool => [.bool]
  | .str => [.str]
  | .agg l => PS.ckL l
def PS.ckL : List PS → List CK
  | [] => []
  | s :: l => s.ck ++ PS.ckL l
end
mutual
theorem PS.ck_length : ∀ s : PS, s.ck.length = s.size
  | .int k => rfl
  | .bool => rfl
  | .str => rfl
  | .agg l => PS.ckL_length l
theorem PS.ckL_length : ∀ l : List PS, (PS.ckL l).length = PS.sizeL l
  | [] => rfl
  | s :: l => by simp [PS.ckL, PS.sizeL, PS.ck_length s, PS.ckL_length l]
end
/-- a cell's value is in its kind's range -/
def CK.ok : (c : CK) → c.ty → Prop
  | .int k, n => (Lit.int k n).wf = true
  | .bool, _ => True
  | .str, s => s.size ≤ maxLen
@[reducible] def El.ok : (s : List CK) → El s → Prop
  | [], _ => True
  | [c], x => c.ok x
  | c :: d :: r, x => c.ok x.1 ∧ El.ok (d :: r) x.2
section
variable {H : Type}
theorem El.app : ∀ (a b : List CK) (c1 c2 : List Value), (∃ x : El a, c1 = El.vals a x ∧ El.ok a x) → (∃ y : El b, c2 = El.vals b y ∧ El.ok b y) → ∃ z : El (a ++ b), c1 ++ c2 = El.vals (a ++ b) z ∧ El.ok (a ++ b) z
  | [], b, c1, c2, ⟨x, h1, h2⟩, ⟨y, h3, h4⟩ => ⟨y, by simp [h1, h3, El.vals], h4⟩
  | [c], [], c1, c2, ⟨x, h1, h2⟩, ⟨y, h3, h4⟩ => ⟨x, by simp [h1, h3, El.vals], h2⟩
  | [c], d :: r, c1, c2, ⟨x, h1, h2⟩, ⟨y, h3, h4⟩ => ⟨(x, y), by simp [h1, h3, El.vals], h2, h4⟩
  | c :: d :: r, b, c1, c2, ⟨x, h1, h2⟩, ⟨y, h3, h4⟩ => by
    obtain ⟨z, k1, k2⟩ := El.app (d :: r) b (El.vals (d :: r) x.2) c2 ⟨x.2, rfl, h2.2⟩ ⟨y, h3, h4⟩
    exact ⟨(x.1, z), by rw [h1]; simp only [El.vals, List.cons_append]; rw [k1]; rfl, h2.1, k2⟩
mutual
theorem pv_el : ∀ {s : PS} {cs : List Value} {d : DataW H}, PV H s cs d → ∃ x : El s.ck, cs = El.vals s.ck x ∧ El.ok s.ck x
  | .int k, cs, d, ⟨n, h1, h2, h3⟩ => ⟨n, h1, h3⟩
  | .bool, cs, d, ⟨n, h1, h2⟩ => ⟨n, h1, trivial⟩
  | .str, cs, d, ⟨n, h1, h2, h3⟩ => ⟨n, h1, h3⟩
  | .agg l, cs, d, ⟨ds, h1, h2⟩ => pvl_el h2
theorem pvl_el : ∀ {l : List PS} {cs : List Value} {ds : List (DataW H)}, PVL H l cs ds → ∃ x : El (PS.ckL l), cs = El.vals (PS.ckL l) x ∧ El.ok (PS.ckL l) x
  | [], cs, ds, ⟨h1, h2⟩ => ⟨(), h1, trivial⟩
  | s :: l, cs, ds, ⟨c1, c2, d1, d2, h1, h2, h3, h4⟩ => by
    obtain ⟨z, k1, k2⟩ := El.app s.ck (PS.ckL l) c1 c2 (pv_el h3) (pvl_el h4)
    exact ⟨z, by rw [h1]; exact k1, k2⟩
end
/-- the row of such elements -/
def rowO : (sh : List CK) → List (El sh) → AObj
  | [.int k], l => .ints 0 false k l
  | [.bool], l => .bools 0 false l
  | [.str], l => .strs 0 false l
  | sh, l => .rows false sh l
theorem rowO_tag : ∀ (sh : List CK) (l : List (El sh)), (rowO sh l).tag.1 = 0
  | [], l => rfl
  | [.int k], l => rfl
  | [.bool], l => rfl
  | [.str], l => rfl
  | c :: d :: r, l => by cases c <;> rfl
theorem rowO_spec (σ : Sg) : ∀ (sh : List CK) (l : List (El sh)), denO σ (rowO sh l) = l.flatMap (El.vals sh) ∧ (rowO sh l).row = true ∧ (rowO sh l).live = true ∧ (rowO sh l).wr = false ∧ (rowO sh l).len = l.length * sh.length ∧ wfO σ (rowO sh l)
  | [], l => ⟨rfl, rfl, rfl, rfl, rfl, trivial⟩
  | [.int k], l => ⟨by induction l with | nil => rfl | cons x l ih => simpa [rowO, denO, El.vals, CK.val] using ih, rfl, rfl, rfl, by simp [rowO, AObj.len], trivial⟩
  | [.bool], l => ⟨by induction l with | nil => rfl | cons x l ih => simpa [rowO, denO, El.vals, CK.val] using ih, rfl, rfl, rfl, by simp [rowO, AObj.len], trivial⟩
  | [.str], l => ⟨by induction l with | nil => rfl | cons x l ih => simpa [rowO, denO, El.vals, CK.val] using ih, rfl, rfl, rfl, by simp [rowO, AObj.len], trivial⟩
  | c :: d :: r, l => ⟨by cases c <;> rfl, by cases c <;> rfl, by cases c <;> rfl, by cases c <;> rfl, by cases c <;> rfl, by cases c <;> trivial⟩
variable {enc : TypeId × Value → H} {P : Program} {w : World} {spare : Nat → Bool} {held : Bool}
/-- a slice's rows, found in memory -/
theorem open_sl {t e : TypeId} {s : PS} {fuel : Nat} {v : Value} {x : DataW H × List MemPlace} (ht : P.underlying t = some (.slice e)) (hs : psOk P e s = true) (hsz : 0 < s.size) (hc : P.cellsOf e = s.size)
    (hsp : ∀ a n c, v = .slice (some a) n c → a.spot = none) (h : DataW.trod enc P w 0 (fun _ => true) held fuel t [v] = some x) :
    ∃ (l : List (El s.ck)) (L : Loc), v = .slice (L.base 0) (L.len / s.size) (L.cap / s.size) ∧ (∀ σ, Blk σ (rowO s.ck l) w L) ∧ ∀ y ∈ l, El.ok s.ck y := by
  rcases DataW.trod_slice ht h with ⟨h1, -⟩ | ⟨a, len, cap, elems, rest, n, _, h1, -, hb, hl, hm, hlen, hel, hspr, hns⟩
  · simp only [List.cons.injEq, and_true] at h1
    subst h1
    refine ⟨[], ⟨0, 0, 0, 0, true⟩, by simp [Loc.base], fun σ => ?_, fun y hy => by simp at hy⟩
    obtain ⟨-, r2, -, -, r5, -⟩ := rowO_spec σ s.ck []
    exact ⟨by rw [r5]; simp, Nat.le_refl _, fun _ => rfl, fun h => by simp at h, rowNo r2⟩
  · simp only [List.cons.injEq, and_true] at h1
    subst h1
    have hspot := hsp a len cap rfl
    obtain ⟨b, off, sp⟩ := a
    simp only at hspot; subst hspot
    -- each element of the row, also of its spare room, lies there
    have each : ∀ i, i < cap → ∃ (e : El s.ck), El.ok s.ck e ∧ ∀ j u, (El.vals s.ck e)[j]? = some u → w.cell? ⟨b, off + (i * s.size + j), none⟩ = some u := by
      intro i hi
      obtain ⟨y, hy⟩ : ∃ y, (w.cells? 0 ((⟨b, off, none⟩ : Addr).add (i * P.cellsOf e)) (P.cellsOf e)).bind (DataW.trod enc P w 0 (fun _ => true) held n e) = some y := by
        by_cases h1 : i < len
        · refine ⟨elems[i]'(by omega), ?_⟩
          rw [hel i h1]
          exact List.getElem?_eq_getElem (by omega)
        · obtain ⟨hrl, hrr⟩ := hspr rfl
          refine ⟨rest[i - len]'(by omega), ?_⟩
          have := hrr (i - len) (by omega)
          rw [show len + (i - len) = i by omega] at this
          rw [this]
          exact List.getElem?_eq_getElem (by omega)
      obtain ⟨cs, hcs, htr⟩ := Option.bind_eq_some_iff.1 hy
      obtain ⟨hpv, -⟩ := open_pv hs htr
      obtain ⟨el, he1, he2⟩ := pv_el hpv
      obtain ⟨-, -, hcell⟩ := World.cells?_some hcs
      refine ⟨el, he2, fun j u hu => ?_⟩
      have hj : j < P.cellsOf e := by
        have := (List.getElem?_eq_some_iff.1 hu).1
        rw [El.vals_length, PS.ck_length] at this; omega
      have := hcell j hj
      rw [he1, hu, addr_add, addr_add, Nat.add_assoc, hc] at this
      exact this
    -- a list of the elements
    obtain ⟨f, hf⟩ : ∃ f : Nat → El s.ck, ∀ i, i < cap → El.ok s.ck (f i) ∧ ∀ j u, (El.vals s.ck (f i))[j]? = some u → w.cell? ⟨b, off + (i * s.size + j), none⟩ = some u := by
      classical
      refine ⟨fun i => if h : i < cap then (each i h).choose else El.dflt s.ck, fun i hi => ?_⟩
      simp only [dif_pos hi]
      exact (each i hi).choose_spec
    refine ⟨(List.range len).map f, ⟨b, off, len * s.size, cap * s.size, false⟩, ?_, fun σ => ?_, fun y hy => ?_⟩
    · simp [Loc.base, Nat.mul_div_cancel _ hsz]
    · obtain ⟨r1, r2, -, r4, r5, -⟩ := rowO_spec σ s.ck ((List.range len).map f)
      have hcl : ∀ k, k < cap * s.size → ∃ u, w.cell? ⟨b, off + k, none⟩ = some u := by
        intro k hk
        have hk1 : k / s.size < cap := Nat.div_lt_of_lt_mul (by rw [Nat.mul_comm]; exact hk)
        have hk2 : k % s.size < s.size := Nat.mod_lt _ hsz
        have hlt : k % s.size < (El.vals s.ck (f (k / s.size))).length := by rw [El.vals_length, PS.ck_length]; exact hk2
        refine ⟨(El.vals s.ck (f (k / s.size)))[k % s.size], ?_⟩
        have := (hf _ hk1).2 (k % s.size) _ (List.getElem?_eq_getElem hlt)
        rwa [show k / s.size * s.size + k % s.size = k by rw [Nat.mul_comm]; exact Nat.div_add_mod k s.size] at this
      refine ⟨by rw [r5]; simp [PS.ck_length], Nat.mul_le_mul_right _ hl, fun h => by simp at h, fun hcap => ?_, rowNo r2⟩
      -- the block
      have h0 := hcl 0 hcap
      obtain ⟨u0, hu0⟩ := h0
      simp only [World.cell?] at hu0
      split at hu0 <;> try simp at hu0
      rename_i c tt fr hblk
      refine ⟨_, hblk, (Rep.row r2).2 ⟨c, tt, fr, rfl, fun hw => by rw [r4] at hw; simp at hw, ?_, fun i v hv => ?_⟩⟩
      · have hpos : 0 < cap * s.size := hcap
        obtain ⟨u, hu⟩ := hcl (cap * s.size - 1) (by omega)
        rw [cell_of_heap hblk] at hu
        have := (Array.getElem?_eq_some_iff.1 hu).1
        refine ⟨?_, .inl (rowO_tag _ _)⟩
        show off + cap * s.size ≤ c.size
        omega
      · rw [r1] at hv
        have hi : i < len * s.size := by
          have := (List.getElem?_eq_some_iff.1 hv).1
          rw [flat_length _ _ (El.vals_length _), PS.ck_length] at this; simpa using this
        have hi1 : i / s.size < len := Nat.div_lt_of_lt_mul (by rw [Nat.mul_comm]; exact hi)
        have hi2 : i % s.size < s.size := Nat.mod_lt _ hsz
        have hdm : i / s.size * s.size + i % s.size = i := by rw [Nat.mul_comm]; exact Nat.div_add_mod i s.size
        have hg := flat_get (El.vals s.ck) s.size (fun x => by rw [El.vals_length, PS.ck_length]) ((List.range len).map f) (i / s.size) (i % s.size) hi2
        rw [hdm, hv] at hg
        simp [hi1] at hg
        have := (hf (i / s.size) (by omega)).2 (i % s.size) v hg.symm
        rw [hdm, cell_of_heap hblk] at this
        exact this
    · simp only [List.mem_map, List.mem_range] at hy
      obtain ⟨i, hi, rfl⟩ := hy
      exact (hf i (by omega)).1
theorem okWide_slice {t e : TypeId} {v : Value} {base : Nat} (ht : P.underlying t = some (.slice e)) (h : Value.okWide P w .any base t v) : v.cells.toList = [v] ∧ ∀ a n c, v = .slice (some a) n c → a.spot = none := by
  unfold Value.okWide at h
  rw [ht] at h
  simp only [Cell.okWide] at h
  rw [ht] at h
  cases v with
  | slice a n c =>
    cases a with
    | none => exact ⟨rfl, fun a n c h => by simp at h⟩
    | some a =>
      simp only [Cell.ok, ht] at h
      refine ⟨rfl, fun a' n' c' he => ?_⟩
      simp at he
      obtain ⟨rfl, rfl, rfl⟩ := he
      exact h.2.2.2.1
  | _ => simp [Cell.ok, ht] at h
/-- a parameter that is a slice -/
theorem open_slv {t e : TypeId} {s : PS} {base : Nat} {v : Value} {d : DataW H} {ps : List MemPlace} (ht : P.underlying t = some (.slice e)) (hs : psOk P e s = true) (hsz : 0 < s.size) (hc : P.cellsOf e = s.size)
    (hval : Value.okWide P w .any base t v) (h : DataW.Trod enc P w 0 (fun _ => true) held t v d ps) :
    ∃ (l : List (El s.ck)) (L : Loc), v = .slice (L.base 0) (L.len / s.size) (L.cap / s.size) ∧ (∀ σ, Blk σ (rowO s.ck l) w L) ∧ ∀ y ∈ l, El.ok s.ck y := by
  obtain ⟨fuel, hf⟩ := h
  obtain ⟨h1, h2⟩ := okWide_slice ht hval
  rw [h1] at hf
  exact open_sl ht hs hsz hc h2 hf
end
/-- names for what the parameters reach -/
def sgOf (os : List (AObj × Loc)) : Sg := ⟨fun b => ((os[b]?).map (·.2)).getD ⟨0, 0, 0, 0, true⟩, fun b => b < os.length⟩
/-- A law over parameters that hold rows: it returns true, and nothing that was there has turned. -/
theorem ACalls.walkR {P : Program} {f : FuncId} {args : List AV} {os : List (AObj × Loc)} {upd : List (Nat × AObj)} {news : List AObj} {res : AV} {w : World} (h : ACalls P f args (os.map (·.1)) res upd news) (hres : ∀ σ, den σ res = .bool true)
    (hro : ∀ p ∈ os, p.1.wr = false) (hb : ∀ p ∈ os, ∀ σ, Blk σ p.1 w p.2) (hwf : ∀ p ∈ os, ∀ σ, wfO σ p.1) (vals : Array Value)
    (hv : (denL (sgOf os) args).toArray = vals) (hw : wfL (sgOf os) args)
    (ham : ∀ x ∈ amb P, Lies w x.1 x.2 := by intro x hx; exact absurd hx (by simp [Go.Abs.amb])) : Calls P f vals w fun e w' => e = .returned (.bool true) ∧ Go.RowKit.Below w.heap.size w w' := by
  have mem : ∀ {b : Nat} {o : AObj}, (os.map (·.1))[b]? = some o → ∃ p ∈ os, p.1 = o ∧ (sgOf os).loc b = p.2 := by
    intro b o hbo
    rw [List.getElem?_map] at hbo
    simp only [Option.map_eq_some_iff] at hbo
    obtain ⟨p, hp, rfl⟩ := hbo
    exact ⟨p, List.mem_of_getElem? hp, rfl, by simp [sgOf, hp]⟩
  have hrel : RelH P (sgOf os) (os.map (·.1)) w := by
    refine ⟨⟨fun b hb => by rw [List.length_map]; exact hb, fun b o _ hbo _ => ?_, fun b b' o o' _ _ hbo hbo' _ _ _ _ hw _ => ?_, fun b o _ hbo => ?_⟩, fun x hx => ⟨ham x hx, ?_⟩⟩
    · obtain ⟨p, hp, rfl, hloc⟩ := mem hbo
      rw [hloc]; exact hb p hp _
    · obtain ⟨p, hp, rfl, -⟩ := mem hbo
      obtain ⟨p', hp', rfl, -⟩ := mem hbo'
      rw [hro p hp, hro p' hp'] at hw; simp at hw
    · obtain ⟨p, hp, rfl, -⟩ := mem hbo
      exact hwf p hp _
    · rintro ⟨b, o, -, hbo, -, -, hwr, -⟩
      obtain ⟨p, hp, rfl, -⟩ := mem hbo
      rw [hro p hp] at hwr; simp at hwr
  have h1 := h.2 (sgOf os) w (fun b => by simp [sgOf]) hrel hw
  rw [hv] at h1
  refine h1.mono ?_
  rintro e w' ⟨rs, q1, rfl, q3, q4⟩
  refine ⟨by rw [hres], ⟨q4.frm.os, q4.frm.tape, q4.frm.output, q4.frm.size, fun k hk => q4.frm.block k hk ?_⟩⟩
  rintro ⟨b, o, -, hbo, -, -, hwr, -⟩
  obtain ⟨p, hp, rfl, -⟩ := mem hbo
  rw [hro p hp] at hwr; simp at hwr
end Go.Abs
