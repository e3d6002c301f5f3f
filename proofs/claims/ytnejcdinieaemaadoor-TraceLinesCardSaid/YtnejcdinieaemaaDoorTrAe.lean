import Derived.Test.YtnejcdinieaemaaDoorTrAd
/- trace.Text: lines, one behind the other. -/
set_option linter.all false
namespace Go.Abs
open Go.RowKit
/-- a call that gives a text and reaches no memory -/
theorem ACalls.toText {P : Program} {f : FuncId} {args : List AV} {s : ByteArray} (h : ACalls P f args [] (.v (.string s)) [] []) (σ : Sg) (hd : ∀ b, ¬ σ.dom b) (hw : wfL σ args) (W : World) (ha : AmbOk P (fun _ => False) W) :
    Calls P f (denL σ args).toArray W fun e w' => e = .returned (.string s) ∧ Below W.heap.size W w' := by
  have no : ∀ r, ¬ wimg σ [] r := fun r ⟨b, o, h, _⟩ => hd b h
  refine (h.2 σ W (fun b => ⟨fun k => absurd k (hd b), fun k => absurd k (by simp)⟩) ⟨⟨fun b k => absurd k (hd b), fun b o k => absurd k (hd b), fun b b' o o' k => absurd k (hd b), fun b o k => absurd k (hd b)⟩, fun x hx => ⟨(ha x hx).1, no _⟩⟩ hw).mono ?_
  rintro e w' ⟨rs, hl, he, -, hwent⟩
  have hl : rs = [] := List.length_eq_zero_iff.1 hl
  subst hl
  refine ⟨he, hwent.frm.os, hwent.frm.tape, hwent.frm.output, hwent.frm.size, fun k hk => hwent.frm.block k hk (no k)⟩
end Go.Abs
namespace Go.Proofs.YtnejcdinieaemaaDoor.Tr
open Go.Abs Go.Shelf Go.RowKit Go.Proofs
abbrev sE : List CK := [CK.int .i64, CK.int .i64, CK.int .i64, CK.int .i64, CK.int .i64, CK.int .i64]
def okE (e : El sE) : Bool := ok6 e.1 e.2.1 e.2.2.1 e.2.2.2.1 e.2.2.2.2.1 e.2.2.2.2.2
def lnB (e : El sE) : ByteArray := lnE e.1 e.2.1 e.2.2.1 e.2.2.2.1 e.2.2.2.2.1 e.2.2.2.2.2
def lnL (e : El sE) : List UInt8 := (lnB e).data.toList
def txL : List (El sE) → List UInt8
  | [] => []
  | e :: l => lnL e ++ txL l
theorem txL_snoc : ∀ (l : List (El sE)) (e : El sE), txL (l ++ [e]) = txL l ++ lnL e
  | [], e => by simp [txL]
  | y :: l, e => by simp [txL, txL_snoc l e]
theorem lnL_len {e : El sE} (h : okE e = true) : (lnL e).length ≤ 130 := by
  have := lnE_size h
  show (lnB e).data.toList.length ≤ 130
  rw [Array.length_toList]; exact this
theorem txL_len : ∀ {l : List (El sE)}, (∀ x ∈ l, okE x = true) → (txL l).length ≤ 130 * l.length
  | [], _ => by simp [txL]
  | x :: l, h => by
    have := txL_len (l := l) (fun y hy => h y (List.mem_cons_of_mem _ hy))
    have := lnL_len (h x (List.mem_cons_self ..))
    simp [txL]; omega
def vE (e : El sE) : Value := .agg #[.int .i64 e.1, .int .i64 e.2.1, .int .i64 e.2.2.1, .int .i64 e.2.2.2.1, .int .i64 e.2.2.2.2.1, .int .i64 e.2.2.2.2.2]
theorem line_c (w : World) (ha : AmbOk Tryd.prog (fun _ => False) w) (e : El sE) (h : okE e = true) : Calls Tryd.prog 8 #[vE e] w fun x w' => x = .returned (.string ⟨(lnL e).toArray⟩) ∧ Below w.heap.size w w' := by
  have := (g8 _ _ _ _ _ _ h).toText ⟨fun _ => ⟨0, 0, 0, 0, true⟩, fun _ => False⟩ (fun _ k => k) ⟨⟨trivial, trivial, trivial, trivial, trivial, trivial, trivial⟩, trivial⟩ w ha
  exact this
theorem amb_below {P : Program} {w W : World} (h : AmbOk P (fun _ => False) w) (hb : Below w.heap.size w W) : AmbOk P (fun _ => False) W :=
  fun x hx => ⟨(h x hx).1.heap (hb.block _ (h.lt hx)), id⟩
set_option maxHeartbeats 4000000 in
set_option maxRecDepth 100000 in
theorem text_c (a : Option Addr) (bk o c : Nat) (l : List (El sE)) (w : World) (hA : AmbOk Tryd.prog (fun _ => False) w) (hS : ∀ x ∈ l, okE x = true)
    (hcells : ∀ (i j : Nat) (x : El sE) v, l[i]? = some x → (El.vals sE x)[j]? = some v → w.cell? ⟨bk, o + i * 6 + j, none⟩ = some v) (ha : l ≠ [] → a = some ⟨bk, o, none⟩ ∧ bk < w.heap.size) (hN : l.length ≤ 100000) (hcap : l.length ≤ c) :
    Calls Tryd.prog 10 #[.slice a l.length c] w fun e w' => e = .returned (.string ⟨(txL l).toArray⟩) ∧ Below w.heap.size w w' := by
  have e8 : ∀ args w, (callFunc 8 args).run Tryd.prog w = .ok (.enter 8 args) w := enters_of Tryd.func8 (by kernel_rfl) rfl
  have e29 : ∀ args w, (callFunc 29 args).run Tryd.prog w = .ok (.enter 29 args) w := enters_of Tryd.func29 (by kernel_rfl) rfl
  have e30 : ∀ args w, (callFunc 30 args).run Tryd.prog w = .ok (.enter 30 args) w := enters_of Tryd.func30 (by kernel_rfl) rfl
  go_enter Tryd.func10, Tryd.ntmps10
  go_wp2_with fail
  have H0 := Any.hidJ (Lib.fresh_isBuilder 56 5 w)
  have B0 := Any.hidJ ((Below.refl w.heap.size w).alloc (Nat.le_refl _) (.cells #[.pointer none, .slice none 0 0] 56))
  go_loopw [8] (fun i wr => ∃ k : Nat, k ≤ l.length ∧ i = .int .i64 k ∧ Hid (Lib.IsBuilder 56 5 w.heap.size w.heap.size (Lib.byteCells (txL (l.take k))) wr) ∧ Hid (Below w.heap.size w wr)) (fun i _ => l.length - (intOf i).toNat)
  case atStart => exact ⟨0, Nat.zero_le _, rfl, H0, B0⟩
  case round =>
    obtain ⟨k, hk, rfl, HB, HW⟩ := hrel
    by_cases hkn : k < l.length
    · obtain ⟨x, hx⟩ : ∃ x, l[k]? = some x := ⟨l[k], List.getElem?_eq_getElem hkn⟩
      have hxm : x ∈ l := List.mem_of_getElem? hx
      obtain ⟨rfl, hbk⟩ := ha (fun e => by rw [e] at hkn; simp at hkn)
      have hc : ∀ j v, (El.vals sE x)[j]? = some v → wr.cell? ⟨bk, o + k * 6 + j, none⟩ = some v := fun j v hj => by
        rw [HW.out.cell (p := ⟨bk, o + k * 6 + j, none⟩) hbk]; exact hcells k j x v hx hj
      have c0 : wr.cell? { block := bk, off := o + k * 6 } = some (.int .i64 x.1) := hc 0 _ rfl
      have c1 : wr.cell? { block := bk, off := o + k * 6 + 1 } = some (.int .i64 x.2.1) := hc 1 _ rfl
      have c2 : wr.cell? { block := bk, off := o + k * 6 + 2 } = some (.int .i64 x.2.2.1) := hc 2 _ rfl
      have c3 : wr.cell? { block := bk, off := o + k * 6 + 3 } = some (.int .i64 x.2.2.2.1) := hc 3 _ rfl
      have c4 : wr.cell? { block := bk, off := o + k * 6 + 4 } = some (.int .i64 x.2.2.2.2.1) := hc 4 _ rfl
      have c5 : wr.cell? { block := bk, off := o + k * 6 + 5 } = some (.int .i64 x.2.2.2.2.2) := hc 5 _ rfl
      clear hc hcells
      have hBw : w.heap.size ≤ wr.heap.size := HW.out.size
      have hlt : (txL (l.take k)).length ≤ 130 * k := by
        have := txL_len (l := l.take k) (fun y hy => hS y (List.mem_of_mem_take hy))
        simp at this; omega
      have hxl := lnL_len (hS x hxm)
      have hal : ∀ ob, Below wr.heap.size wr (wr.alloc ob) := fun ob => (Below.refl _ wr).alloc (Nat.le_refl _) ob
      have hwl : ∀ ob, Below w.heap.size w (wr.alloc ob) := fun ob => HW.out.trans ((hal ob).mono hBw)
      go_wp2_with (first
        | (go_at_call 8; refine (line_c _ (amb_below hA (hwl _)) x (hS x hxm)).mono ?_; rintro e w1 ⟨rfl, hb1⟩)
        | (go_at_call 29
           refine (Any.Builder_WriteString Tryd.laysB166 Tryd.Builder_ExtraB w.heap.size w.heap.size _ _ w1 (bld_below (bld_below HB.out (hal _)) hb1) ?hlen (Nat.le_trans (hwl _).size hb1.size)).mono ?_
           case hlen => simp [Lib.byteCells, ByteArray.size]; omega
           rintro e w2 ⟨rfl, hA2, hb2⟩))
      have hWn : Below w.heap.size w w2 := ((hwl _).trans (hb1.mono (hwl _).size)).trans hb2
      have hnext : Lib.byteCells (txL (l.take k)) ++ Lib.strCells (⟨(lnL x).toArray⟩) = Lib.byteCells (txL (l.take (k + 1))) := by
        rw [List.take_add_one, hx, Option.toList_some, txL_snoc, Lib.strCells_eq, ← Lib.byteCells_append]
      rw [hnext] at hA2
      exact ⟨⟨k + 1, by omega, by simp, Any.hidJ (Or.inr hA2), Any.hidJ hWn⟩, by simp [intOf]; omega⟩
    · have hke : k = l.length := by omega
      subst hke
      rw [List.take_length] at HB
      go_wp2_with (first
        | (go_at_call 30; refine (Any.Builder_String_any Tryd.laysB169 Tryd.Builder_ExtraB w.heap.size w.heap.size (txL l) wr HB.out HW.out.size).mono ?_; rintro e w1 ⟨rfl, hb1⟩))
      go_ret
      exact ⟨rfl, HW.out.trans hb1⟩
def okL (l : List (El sE)) : Bool := l.all okE && decide (l.length ≤ 1000)
def txS (l : List (El sE)) : ByteArray := ⟨(txL l).toArray⟩
theorem okL_1 {l : List (El sE)} (h : okL l = true) : (∀ x ∈ l, okE x = true) ∧ l.length ≤ 1000 := by
  unfold okL at h; rw [Bool.and_eq_true, decide_eq_true_eq, List.all_eq_true] at h; exact h
theorem g10 (w : Bool) (l : List (El sE)) (h : okL l = true) : ACalls Tryd.prog 10 [.sw 0 6] [.rows w sE l] (.v (.string (txS l))) [] [] := by
  obtain ⟨h3, h1⟩ := okL_1 h
  refine ⟨⟨_, rfl, by kernel_rfl, by kernel_rfl⟩, fun σ W hf hr hw => ?_⟩
  have hd : σ.dom 0 := hw.1.1
  have hb := hr.blk 0 _ hd rfl rfl
  have hlen : (σ.loc 0).len = l.length * 6 := hb.len.symm
  have ha : (denL σ [.sw 0 6]).toArray = #[.slice ((σ.loc 0).base 0) l.length ((σ.loc 0).cap / 6)] := by simp [denL, den, hlen]
  rw [ha]
  have hle := hb.le
  refine (text_c _ (σ.at_ 0) (σ.loc 0).off ((σ.loc 0).cap / 6) l W (fun x hx => ⟨(hr.amb x hx).1, id⟩) h3 (fun i j x v hx hj => ?_) (fun hne => ?_) (by omega) (by omega)).mono fun e w' ⟨q1, q2⟩ => ⟨[], rfl, q1, trivial, by rw [Sg.more_nil]; exact went_below hr hf q2⟩
  · have hj6 : j < 6 := by
      have := (List.getElem?_eq_some_iff.1 hj).1
      rw [El.vals_length] at this; exact this
    have := blk_cell hr hd (o := .rows w sE l) (i := i * 6 + j) (v := v) rfl rfl rfl (by
      show (l.flatMap (El.vals sE))[i * 6 + j]? = some v
      rw [flat_get (El.vals sE) 6 (fun x => El.vals_length sE x) l i j hj6, hx]; exact hj)
    rw [Nat.add_assoc]; exact this
  · have hl : 0 < l.length := List.length_pos_iff.2 hne
    have hc : 0 < (σ.loc 0).cap := by omega
    have hnil : (σ.loc 0).nil = false := by
      cases hq : (σ.loc 0).nil with
      | false => rfl
      | true => have := hb.nil hq; omega
    exact ⟨by simp [Loc.base, hnil], hr.img_lt ⟨0, _, hd, rfl, rfl, hc, rfl⟩⟩
end Go.Proofs.YtnejcdinieaemaaDoor.Tr
