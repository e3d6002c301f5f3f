import Derived.Test.YtffoldigaififaaAbsRf
import Derived.Test.YtffoldigaififaaAbsWf
import Derived.Test.YtffoldigaififaaAbsMp
import Derived.Maps.Range
import Derived.Shelf.SlMaps.DeleteFunc
set_option linter.unusedVariables false
set_option linter.unusedSimpArgs false
/- maps.DeleteFunc at maps of whole numbers. -/
namespace Go.Abs
open Go.Maps Go.WideElems Go.RowKit Go.Shelf Go.Proofs
theorem nodup_le {α : Type} [DecidableEq α] : ∀ {l m : List α}, l.Nodup → (∀ x ∈ l, x ∈ m) → l.length ≤ m.length
  | [], m, _, _ => by simp
  | x :: l, m, hn, hs => by
    have hx := hs x (by simp)
    have hn' := List.nodup_cons.1 hn
    have := nodup_le (l := l) (m := m.erase x) hn'.2 (fun y hy => (List.mem_erase_of_ne (fun e => hn'.1 (by rw [← e]; exact hy))).2 (hs y (by simp [hy])))
    rw [List.length_erase_of_mem hx] at this
    have := List.length_pos_of_mem hx
    simp only [List.length_cons]; omega
def pdD (q : Int → Bool) : Lit → DataW Unit → Bool
  | .int _ n, _ => q n
  | _, _ => false
section
variable {P : Program} {t kt et : TypeId} (ht : P.underlying t = some (.map kt et)) (hk : P.underlying kt = some (.int .i64)) (he : P.underlying et = some .bool)
include hk he
theorem map_struck {l : List Int} {es : Array MapEntry} {w' : World} {b n : Nat} (q : Int → Bool) (h1 : es.size ≤ l.length) (h2 : l.length ≤ 1000000) (h4 : ∀ x ∈ es.toList, ∃ a, x.key = .int .i64 a ∧ (Lit.int .i64 a).wf = true ∧ x.val = .bool true) (h5 : ∀ a : Int, a ∈ l ↔ ∃ x ∈ es.toList, x.key = .int .i64 a)
    (ho : w'.ownsMap P kt (plainElem (H := Unit) P et) b n (Lib.deleteFuncD (pdD q) (.map ((es.toList.map (WideElems.rg P kt (plainElem P et))).foldr DataW.insert [])))) :
    ∃ ob', w'.heap[b]? = some ob' ∧ MapI (l.filter (fun a => !q a)) ob' := by
  have hpw := ho.entries (int_keyed hk)
  obtain ⟨es0, e0, hap, -⟩ := hpw
  obtain ⟨es', clock', k1, F, k3, k4⟩ := ho
  simp only [Lib.deleteFuncD, DataW.map.injEq] at k4 e0
  rw [← e0] at hap
  have rgk : ∀ x ∈ es'.toList, ∃ a, x.key = .int .i64 a ∧ (Lit.int .i64 a).wf = true ∧ x.val = .bool true ∧ (∃ y ∈ es.toList, y.key = .int .i64 a) ∧ q a = false ∧ WideElems.rg P kt (plainElem (H := Unit) P et) x = (.int .i64 a, .lit (.bool true)) := fun x hx => by
    have hm : WideElems.rg P kt (plainElem (H := Unit) P et) x ∈ (es'.toList.map (WideElems.rg P kt (plainElem P et))).foldr DataW.insert [] := by rw [sorted_mem]; exact List.mem_map_of_mem hx
    rw [← k4, List.mem_filter, sorted_mem, List.mem_map] at hm
    obtain ⟨⟨y, hy, hyx⟩, hq⟩ := hm
    obtain ⟨a, m1, m2, m3⟩ := h4 y hy
    rw [rg_key hk he m1 m2 m3] at hyx
    obtain ⟨z, hz⟩ := F.reads x hx
    have hrg := rg_of hz
    rw [← hyx] at hrg
    rw [← hyx] at hq
    obtain rfl : (Lit.int .i64 a, (DataW.lit (.bool true) : DataW Unit)) = z := hrg
    have hz' := hz
    simp only [rd, Option.bind_eq_some_iff, Option.map_eq_some_iff] at hz'
    obtain ⟨kl, j1, yv, j2, j3⟩ := hz'
    obtain ⟨a', n1, n2, n3⟩ := keyOf_int_inv hk j1
    obtain ⟨key, val, born⟩ := x
    simp only at n1 j2
    subst n1
    have : a' = a := by have := congrArg Prod.fst j3; rw [n2] at this; simpa using this
    subst this
    have hv : val = .bool true := by
      have h9 := congrArg Prod.snd j3
      simp only at h9
      unfold plainElem at j2
      rw [he] at j2
      cases val <;> simp at j2
      subst j2
      simp at h9
      rw [h9]
    refine ⟨a', rfl, n3, hv, ⟨y, hy, m1⟩, ?_, hyx.symm⟩
    simpa [pdD] using hq
  have fwd : ∀ x ∈ es'.toList, ∃ a, a ∈ l.filter (fun a => !q a) ∧ x.key = .int .i64 a := fun x hx => by
    obtain ⟨a, m1, m2, m3, m4, m5, m6⟩ := rgk x hx
    exact ⟨a, List.mem_filter.2 ⟨(h5 a).2 m4, by simp [m5]⟩, m1⟩
  have hsz : es'.size ≤ (l.filter (fun a => !q a)).length := by
    have hap' := Maps.fit_apart (int_keyed hk) F
    have := @nodup_le Lit ((fun a b => Classical.propDecidable (a = b))) (es'.toList.map (fun x => (WideElems.rg P kt (plainElem (H := Unit) P et) x).1)) ((l.filter (fun a => !q a)).map (Lit.int .i64)) ?_ ?_
    · simpa using this
    · rw [List.nodup_iff_pairwise_ne, List.pairwise_map]
      rw [List.pairwise_map] at hap'
      exact hap'
    · intro y hy
      obtain ⟨x, hx, rfl⟩ := List.mem_map.1 hy
      obtain ⟨a, m1, m2⟩ := fwd x hx
      obtain ⟨a', n1, -, -, -, -, n6⟩ := rgk x hx
      rw [m2] at n1; cases n1
      rw [n6]
      exact List.mem_map_of_mem m1
  refine ⟨_, k1, es', clock', rfl, hsz, Nat.le_trans (List.length_filter_le _ _) h2, F.stamped, fun x hx => ?_, fun c => ?_⟩
  · obtain ⟨a, m1, m2, m3, -⟩ := rgk x hx
    exact ⟨a, m1, m2, m3⟩
  · constructor
    · intro hc
      obtain ⟨hc1, hc2⟩ := List.mem_filter.1 hc
      obtain ⟨y, hy, hyk⟩ := (h5 c).1 hc1
      obtain ⟨a, m1, m2, m3⟩ := h4 y hy
      rw [hyk] at m1; cases m1
      have : (Lit.int .i64 c, (DataW.lit (.bool true) : DataW Unit)) ∈ (es'.toList.map (WideElems.rg P kt (plainElem P et))).foldr DataW.insert [] := by
        rw [← k4, List.mem_filter, sorted_mem, List.mem_map]
        exact ⟨⟨y, hy, rg_key hk he hyk m2 m3⟩, by simpa [pdD] using hc2⟩
      rw [sorted_mem, List.mem_map] at this
      obtain ⟨x, hx, hxr⟩ := this
      obtain ⟨a, m1, -, -, -, -, m6⟩ := rgk x hx
      rw [m6] at hxr
      cases hxr
      exact ⟨x, hx, m1⟩
    · rintro ⟨x, hx, hxk⟩
      obtain ⟨a, m1, m2⟩ := fwd x hx
      rw [hxk] at m2; cases m2
      exact m1
end
theorem rel_dead {P : Program} {σ : Sg} {o : AObj} {hs : List AObj} {w : World} (hr : RelH P σ (o :: hs) w) : RelH P σ (.dead :: hs) w := by
  have get : ∀ {b : Nat} {x : AObj}, (AObj.dead :: hs)[b]? = some x → x.live = true → (o :: hs)[b]? = some x := fun {b x} h1 h2 => by
    cases b with
    | zero => simp at h1; subst h1; simp [AObj.live] at h2
    | succ b => simpa using h1
  refine ⟨⟨fun b hb => by simpa using hr.lt b hb, fun b x hd hx hl => hr.blk b x hd (get hx hl) hl, fun b b' x y h1 h2 h3 h4 h5 h6 => hr.inj b b' x y h1 h2 (get h3 h5) (get h4 h6) h5 h6, fun b x hd hx => ?_⟩, fun x hx => ⟨(hr.amb x hx).1, fun hm => (hr.amb x hx).2 ?_⟩⟩
  · cases b with
    | zero => simp at hx; subst hx; trivial
    | succ b => exact hr.wfo (b + 1) x hd (by simpa using hx)
  · obtain ⟨b, x, h1, h2, h3, h4, h5, h6⟩ := hm
    exact ⟨b, x, h1, get h2 h3, h3, h4, h5, h6⟩
/-- maps.DeleteFunc: what the closure says of a number is q -/
theorem ACalls.mapDf {P : Program} {ρ : Ren} (L : SlLaysDf.n5 P ρ) (hk : P.underlying (ρ.t 26) = some (.int .i64)) (he : P.underlying (ρ.t 24) = some .bool) (c : Callable P (ρ.f 5)) {g : FuncId} {cs : List AV} {hs : List AObj} (q : Int → Bool) (hrow : hs.all AObj.row = true)
    (del : ∀ (n : Int) (b : Bool), ACalls P g (.v (.int .i64 n) :: .v (.bool b) :: cs) (.dead :: hs.map (AObj.setW false)) (.v (.bool (q n))) [] []) (l : List Int) :
    ACalls P (ρ.f 5) [.mp 0, .fn (.func g) cs] (.imap true l :: hs) (.tup []) [(0, .imap true (l.filter (fun a => !q a)))] [] := by
  refine ⟨c, fun σ w hf hr hw => ?_⟩
  have d0 : σ.dom 0 := hw.1
  have hwc : wfL σ cs := hw.2.1
  have hblk := hr.blk 0 _ d0 rfl rfl
  have hit := hblk.it rfl
  obtain ⟨ob, q1, es, clock, rfl, h1, h2, h3, h4, h5⟩ := hblk.rep hit.1
  have F := mapI_fit hk he h1 h2 h3 h4
  have hown : w.ownsMap P (ρ.t 26) (plainElem (H := Unit) P (ρ.t 24)) (σ.at_ 0) es.size (.map ((es.toList.map (WideElems.rg P (ρ.t 26) (plainElem P (ρ.t 24)))).foldr DataW.insert [])) := ⟨es, clock, q1, F, Nat.le_refl _, rfl⟩
  have hrd := rel_dead hr
  have hwk : Weak (.dead :: hs) (.dead :: hs.map (AObj.setW false)) := by
    refine ⟨by simp, fun b o' ho => ?_⟩
    cases b with
    | zero => simp at ho; subst ho; exact ⟨_, rfl, .inl rfl⟩
    | succ b =>
      rw [List.getElem?_cons_succ, List.getElem?_map, Option.map_eq_some_iff] at ho
      obtain ⟨o, k1, k2⟩ := ho
      exact ⟨o, by simpa using k1, .inr k2.symm⟩
  have hrd' := hwk.rel hrd
  have hrow' : (AObj.dead :: hs.map (AObj.setW false)).all AObj.row = true := by
    simp only [List.all_cons, List.all_map, Bool.and_eq_true]
    refine ⟨rfl, ?_⟩
    rw [← hrow]
    congr 1
    funext x
    exact setW_row _ _
  have hcon := AnyDf.maps_DeleteFunc L (int_keyed hk) (plainElem P (ρ.t 24)) (pdD q) g (denL σ cs).toArray (σ.at_ 0) es.size _ w (del 0 true).1.enters hown (fun W key val kl yd yp hg hkey hv => by
    obtain ⟨n, rfl, rfl, -⟩ := keyOf_int_inv hk hkey
    obtain ⟨b, rfl⟩ : ∃ b, val = .bool b := by
      unfold plainElem at hv
      rw [he] at hv
      cases val <;> simp at hv
      exact ⟨_, rfl⟩
    have hrW : RelH P σ (.dead :: hs.map (AObj.setW false)) W := hrd'.grown hrow' hg (fun r e => by cases e; exact ⟨_, q1, rfl⟩)
    have hno : (AObj.dead :: hs.map (AObj.setW false)).all (fun o => !o.wr) = true := by
      simp only [List.all_cons, List.all_map, Bool.and_eq_true]
      refine ⟨rfl, List.all_eq_true.2 fun o ho => ?_⟩
      have := List.all_eq_true.1 hrow o ho
      cases o <;> simp_all [AObj.setW, AObj.wr, AObj.row]
    have := callsIn_wide.1 ((del n b).quiet hno (σ := σ) (fun c => by rw [hf c]; simp) hrW ⟨trivial, trivial, hwc⟩)
    have ea : (denL σ (.v (.int .i64 n) :: .v (.bool b) :: cs)).toArray = #[.int .i64 n, .bool b] ++ (denL σ cs).toArray := by simp [denL, den]
    rw [ea] at this
    exact this.mono fun _ _ ⟨k1, _, k2, _⟩ => ⟨k1, k2⟩)
  have ea : (denL σ [.mp 0, .fn (.func g) cs]).toArray = #[.map (some (σ.at_ 0)), .func (.func g) #[] (denL σ cs).toArray] := by simp [denL, den]
  rw [ea]
  refine hcon.mono ?_
  rintro e w' ⟨rfl, hown', hg⟩
  obtain ⟨ob', k1, k2⟩ := map_struck hk he q h1 h2 h4 h5 hown'
  refine ⟨[], rfl, rfl, trivial, ?_⟩
  rw [Sg.more_nil]
  have w0 : wimg σ (.imap true l :: hs) (σ.at_ 0) := ⟨0, _, d0, rfl, rfl, hit.1, rfl, rfl⟩
  show Went P σ (.imap true l :: hs) w σ (.imap true (l.filter (fun a => !q a)) :: (hs ++ [])) w'
  rw [List.append_nil]
  have get : ∀ {b : Nat} {x : AObj}, (AObj.imap true (l.filter (fun a => !q a)) :: hs)[b]? = some x → ∃ y, (AObj.imap true l :: hs)[b]? = some y ∧ y.live = x.live ∧ y.wr = x.wr ∧ (b ≠ 0 → y = x) := fun {b x} h1 => by
    cases b with
    | zero => simp at h1; subst h1; exact ⟨_, rfl, rfl, rfl, fun h => absurd rfl h⟩
    | succ b => exact ⟨x, by simpa using h1, rfl, rfl, fun _ => rfl⟩
  refine went_of hr ⟨fun b hb => by simpa using hr.lt b hb, fun b x hd hx hl => ?_, fun b b' x y e1 e2 e3 e4 e5 e6 c1 c2 hwr he => ?_, fun b x hd hx => ?_⟩ (fun b => by rw [hf b]; simp) ⟨hg.os, hg.tape, hg.output, hg.size, fun r hr' hn => hg.block r hr' (fun e => by cases e; exact hn w0)⟩ (fun r hi => .inl ?_) (fun r hi => .inl ?_)
  · cases b with
    | zero =>
      simp at hx; subst hx
      exact ⟨hblk.len, hblk.le, hblk.nil, fun _ => ⟨ob', k1, k2⟩, fun _ => hit⟩
    | succ b =>
      have hx' : (AObj.imap true l :: hs)[b + 1]? = some x := by simpa using hx
      have hb := hr.blk (b + 1) x hd hx' hl
      refine hb.heap_eq (fun hc => hg.block _ (hr.img_lt ⟨b + 1, x, hd, hx', hl, hc, rfl⟩) (fun e => ?_))
      have e : σ.at_ (b + 1) = σ.at_ 0 := Option.some.inj e
      have := hr.inj (b + 1) 0 x _ hd d0 hx' rfl hl rfl hc hit.1 (.inr rfl) e
      omega
  · obtain ⟨x', m1, m2, m3, -⟩ := get e3
    obtain ⟨y', n1, n2, n3, -⟩ := get e4
    exact hr.inj b b' x' y' e1 e2 m1 n1 (by rw [m2]; exact e5) (by rw [n2]; exact e6) c1 c2 (by rw [m3, n3]; exact hwr) he
  · cases b with
    | zero => simp at hx; subst hx; trivial
    | succ b => exact hr.wfo (b + 1) x hd (by simpa using hx)
  · obtain ⟨b, x, m1, m2, m3, m4, m5⟩ := hi
    obtain ⟨x', n1, n2, n3, -⟩ := get m2
    exact ⟨b, x', m1, n1, by rw [n2]; exact m3, m4, m5⟩
  · obtain ⟨b, x, m1, m2, m3, m4, m6, m5⟩ := hi
    obtain ⟨x', n1, n2, n3, -⟩ := get m2
    exact ⟨b, x', m1, n1, by rw [n2]; exact m3, m4, by rw [n3]; exact m6, m5⟩
end Go.Abs
