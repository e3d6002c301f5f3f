import Derived.Test.YtffoldigaififaaAbsZc
import Derived.Maps.Keyed
import Derived.Maps.Own
set_option linter.unusedVariables false
/- Maps of whole numbers. -/
namespace Go.Abs
open Go.Maps Go.WideElems
open Go.ChangeMaps (setBlock)
theorem sorted_mem {H : Type} (p : Lit × DataW H) : ∀ l : List (Lit × DataW H), p ∈ l.foldr DataW.insert [] ↔ p ∈ l
  | [] => by simp
  | x :: l => by
    rw [List.foldr_cons, Go.ChangeMaps.mem_insert_iff, sorted_mem p l, List.mem_cons]
section
variable {P : Program} {t kt et : TypeId} (ht : P.underlying t = some (.map kt et)) (hk : P.underlying kt = some (.int .i64)) (he : P.underlying et = some .bool)
include hk he
theorem mapI_fit {l : List Int} {es : Array MapEntry} {clock : Nat} (h1 : es.size ≤ l.length) (h2 : l.length ≤ 1000000) (h3 : Go.MapKept.Stamped es clock) (h4 : ∀ x ∈ es.toList, ∃ a, x.key = .int .i64 a ∧ (Lit.int .i64 a).wf = true ∧ x.val = .bool true) :
    Fit P kt (plainElem (H := Unit) P et) es clock := by
  refine ⟨by unfold maxLen; omega, h3, fun x hx => ?_⟩
  obtain ⟨a, k1, k2, k3⟩ := h4 x hx
  obtain ⟨k, v, b⟩ := x
  simp only at k1 k3
  subst k1; subst k3
  exact ⟨_, rd_mk (keyOf_int_mk hk k2) (plainElem_bool he true)⟩
theorem rg_key {x : MapEntry} {a : Int} (k1 : x.key = .int .i64 a) (k2 : (Lit.int .i64 a).wf = true) (k3 : x.val = .bool true) : rg P kt (plainElem (H := Unit) P et) x = (.int .i64 a, .lit (.bool true)) := by
  obtain ⟨k, v, b⟩ := x
  simp only at k1 k3
  subst k1; subst k3
  exact rg_of (rd_mk (keyOf_int_mk hk k2) (plainElem_bool he true))
include ht
theorem map_look {l : List Int} {ob : Obj} {w : World} {b : Nat} {a : Int} (hb : w.heap[b]? = some ob) (hm : MapI l ob) (ha : (Lit.int .i64 a).wf = true) (hz : (zeroValue et).run P w = .ok (.bool false) w) :
    (Instr.lookup t (.map (some b)) (.int .i64 a) false).run P w = .ok (.bool (memI a l)) w := by
  obtain ⟨es, clock, rfl, h1, h2, h3, h4, h5⟩ := hm
  have F := mapI_fit hk he h1 h2 h3 h4
  unfold memI
  rcases fit_look false (int_keyed hk) ht hz hb F (keyOf_int_mk hk ha) with ⟨q1, q2, -⟩ | ⟨e0, y, q1, q2, q3, -⟩
  · have : l.contains a = false := by
      rw [← Bool.not_eq_true, List.contains_iff_mem]
      intro hl
      obtain ⟨x, hx, hxk⟩ := (h5 a).1 hl
      exact q2 x hx hxk
    rw [this]; exact q1
  · have : l.contains a = true := by rw [List.contains_iff_mem]; exact (h5 a).2 ⟨e0, q1, q2⟩
    obtain ⟨a', -, -, k3⟩ := h4 e0 q1
    rw [k3] at q3
    rw [this]; exact q3
theorem map_store {l : List Int} {ob : Obj} {w : World} {b : Nat} {a : Int} (hb : w.heap[b]? = some ob) (hm : MapI l ob) (ha : (Lit.int .i64 a).wf = true) (hl : l.length < 1000000) :
    ∃ ob', (Instr.mapUpdate t (.map (some b)) (.int .i64 a) (.bool true)).run P w = .ok () { w with heap := w.heap.setIfInBounds b ob' } ∧ MapI (insI a l) ob' := by
  obtain ⟨es, clock, rfl, h1, h2, h3, h4, h5⟩ := hm
  have F := mapI_fit hk he h1 h2 h3 h4
  obtain ⟨es', clock', q1, q2, q3, -, -, q6⟩ := fit_store (int_keyed hk) ht hb F (by unfold maxLen; omega) (fun _ _ _ _ h => h) (keyOf_int_mk hk ha) (plainElem_bool (H := Unit) he true)
  have h4' : ∀ x ∈ es'.toList, ∃ a, x.key = .int .i64 a ∧ (Lit.int .i64 a).wf = true ∧ x.val = .bool true := fun x hx => by
    rcases q6 x hx with ⟨k1, -⟩ | ⟨k1, k2⟩
    · exact h4 x k1
    · exact ⟨a, k1, ha, k2⟩
  have hlen : es'.size ≤ es.size + 1 := by
    have := congrArg List.length q3
    rw [length_sorted] at this
    unfold Go.ChangeMaps.putKey at this
    rw [length_insert] at this
    have h6 := List.length_filter_le (Go.ChangeMaps.notKey (.int .i64 a)) ((es.toList.map (rg P kt (plainElem (H := Unit) P et))).foldr DataW.insert [])
    rw [length_sorted] at h6
    simp at this h6
    omega
  refine ⟨_, q1, es', clock', rfl, by unfold insI; simp; omega, by unfold insI; simp; omega, q2.stamped, h4', fun c => ?_⟩
  have mem : ∀ {E : Array MapEntry} (_ : ∀ x ∈ E.toList, ∃ a, x.key = .int .i64 a ∧ (Lit.int .i64 a).wf = true ∧ x.val = .bool true), (∃ x ∈ E.toList, x.key = .int .i64 c) ↔ (Lit.int .i64 c, (DataW.lit (.bool true) : DataW Unit)) ∈ (E.toList.map (rg P kt (plainElem P et))).foldr DataW.insert [] := fun {E} hE => by
    rw [sorted_mem, List.mem_map]
    constructor
    · rintro ⟨x, hx, hxk⟩
      obtain ⟨a', k1, k2, k3⟩ := hE x hx
      rw [hxk] at k1; cases k1
      exact ⟨x, hx, rg_key hk he hxk k2 k3⟩
    · rintro ⟨x, hx, hxr⟩
      obtain ⟨a', k1, k2, k3⟩ := hE x hx
      rw [rg_key hk he k1 k2 k3] at hxr
      cases hxr
      exact ⟨x, hx, k1⟩
  rw [mem h4', q3]
  unfold Go.ChangeMaps.putKey insI
  rw [Go.ChangeMaps.mem_insert_iff, List.mem_filter, ← mem h4, ← h5 c, List.mem_append, List.mem_singleton]
  constructor
  · rintro (k | k)
    · by_cases e : c = a
      · subst e; exact .inl rfl
      · exact .inr ⟨k, (notKey_iff ((int_keyed hk).key (keyOf_int_mk hk ha))).2 (fun h => e (by cases h; rfl))⟩
    · subst k; exact .inl rfl
  · rintro (k | ⟨k, -⟩)
    · cases k; exact .inr rfl
    · exact .inl k
end
end Go.Abs
