import Derived.Test.YtnejcdinieaemaaDoorTrB
import Derived.Test.YtnejcdinieaemaaDoorTrShf
import Derived.Shelf.Strings.OnBuilder
import Derived.WalkKit
/- numbers with a blank ahead of each. -/
set_option linter.all false
namespace Go.Proofs.YtnejcdinieaemaaDoor.Tr
open Go.Shelf Go.RowKit Go.Proofs
/-- how a number is told, as a contract of the function that tells it -/
def Fmt (fmt : Int → List UInt8) (S : Int → Prop) (w0 : World) : Prop :=
  ∀ W, Below w0.heap.size w0 W → ∀ x, S x → Calls Tryd.prog 25 #[.int .i64 x, .int .i64 10] W fun e W' => e = .returned (.string ⟨(fmt x).toArray⟩) ∧ Below W.heap.size W W'
def numL (fmt : Int → List UInt8) : List Int → List UInt8
  | [] => []
  | x :: l => 32 :: fmt x ++ numL fmt l
theorem numL_snoc (fmt : Int → List UInt8) : ∀ (l : List Int) (x : Int), numL fmt (l ++ [x]) = numL fmt l ++ 32 :: fmt x
  | [], x => by simp [numL]
  | y :: l, x => by simp [numL, numL_snoc fmt l x]
theorem numL_len {fmt : Int → List UInt8} : ∀ {l : List Int}, (∀ x ∈ l, (fmt x).length ≤ 21) → (numL fmt l).length ≤ 22 * l.length
  | [], _ => by simp [numL]
  | x :: l, h => by
    have := numL_len (l := l) (fun y hy => h y (List.mem_cons_of_mem _ hy))
    have := h x (List.mem_cons_self ..)
    simp [numL]; omega
theorem own_below {W W' : World} {B e size n : Nat} {v : Value} {xs : List Value} (h : W.ownsRow B e size v n xs) (hb : Below W.heap.size W W') : W'.ownsRow B e size v n xs := by
  obtain ⟨h1, h2⟩ := h
  rcases h2 with ⟨rfl, rfl⟩ | ⟨g, cap, cur, rfl, h3, hg, h4⟩
  · exact ⟨h1, .inl ⟨rfl, rfl⟩⟩
  · exact ⟨h1, .inr ⟨g, cap, cur, rfl, h3, (hb.block g (Array.getElem?_eq_some_iff.1 hg).1).trans hg, h4⟩⟩
theorem at_below {W W' : World} {T e : TypeId} {B b : Nat} {p : Value} {bs : List Value} (h : Lib.BuilderAt T e B b p bs W) (hb : Below W.heap.size W W') : Lib.BuilderAt T e B b p bs W' := by
  obtain ⟨h1, v, hv, ho, hn⟩ := h
  exact ⟨h1, v, (hb.block b (Array.getElem?_eq_some_iff.1 hv).1).trans hv, own_below ho hb, hn⟩
theorem bld_below {W W' : World} {T e : TypeId} {B b : Nat} {bs : List Value} (h : Lib.IsBuilder T e B b bs W) (hb : Below W.heap.size W W') : Lib.IsBuilder T e B b bs W' :=
  h.elim (fun h => .inl (at_below h hb)) (fun h => .inr (at_below h hb))
set_option maxHeartbeats 4000000 in
set_option maxRecDepth 100000 in
theorem numbers_c {fmt : Int → List UInt8} {S : Int → Prop} (a : Option Addr) (bk o c : Nat) (l : List Int) (w : World) (hF : Fmt fmt S w) (hS : ∀ x ∈ l, S x ∧ (fmt x).length ≤ 21)
    (hcells : ∀ (j : Nat) x, l[j]? = some x → w.cell? ⟨bk, o + j, none⟩ = some (.int .i64 x)) (ha : l ≠ [] → a = some ⟨bk, o, none⟩ ∧ bk < w.heap.size) (hN : l.length ≤ 100000) (hcap : l.length ≤ c) :
    Calls Tryd.prog 26 #[.slice a l.length c] w fun e w' => e = .returned (.string ⟨(numL fmt l).toArray⟩) ∧ Below w.heap.size w w' := by
  have e25 : ∀ args w, (callFunc 25 args).run Tryd.prog w = .ok (.enter 25 args) w := enters_of Tryd.func25 (by kernel_rfl) rfl
  have e29 : ∀ args w, (callFunc 29 args).run Tryd.prog w = .ok (.enter 29 args) w := enters_of Tryd.func29 (by kernel_rfl) rfl
  have e30 : ∀ args w, (callFunc 30 args).run Tryd.prog w = .ok (.enter 30 args) w := enters_of Tryd.func30 (by kernel_rfl) rfl
  go_enter Tryd.func26, Tryd.ntmps26
  go_wp2_with fail
  have H0 := Any.hidJ (Lib.fresh_isBuilder 56 5 w)
  have B0 := Any.hidJ ((Below.refl w.heap.size w).alloc (Nat.le_refl _) (.cells #[.pointer none, .slice none 0 0] 56))
  go_loopw [8] (fun i wr => ∃ k : Nat, k ≤ l.length ∧ i = .int .i64 k ∧ Hid (Lib.IsBuilder 56 5 w.heap.size w.heap.size (Lib.byteCells (numL fmt (l.take k))) wr) ∧ Hid (Below w.heap.size w wr)) (fun i _ => l.length - (intOf i).toNat)
  case atStart => exact ⟨0, Nat.zero_le _, rfl, H0, B0⟩
  case round =>
    obtain ⟨k, hk, rfl, HB, HW⟩ := hrel
    by_cases hkn : k < l.length
    · obtain ⟨x, hx⟩ : ∃ x, l[k]? = some x := ⟨l[k], List.getElem?_eq_getElem hkn⟩
      have hxm : x ∈ l := List.mem_of_getElem? hx
      obtain ⟨rfl, hbk⟩ := ha (fun e => by rw [e] at hkn; simp at hkn)
      have hc : wr.cell? ⟨bk, o + k, none⟩ = some (.int .i64 x) := by
        rw [HW.out.cell (p := ⟨bk, o + k, none⟩) hbk]; exact hcells k x hx
      have hBw : w.heap.size ≤ wr.heap.size := HW.out.size
      have hS1 := hS x hxm
      have hlt : (numL fmt (l.take k)).length ≤ 22 * k := by
        have := numL_len (fmt := fmt) (l := l.take k) (fun y hy => (hS y (List.mem_of_mem_take hy)).2)
        simp at this; omega
      have hW2 : ∀ {W : World}, Below wr.heap.size wr W → Below w.heap.size w W := fun hb => HW.out.trans (hb.mono hBw)
      go_wp2_with (first
        | (go_at_call 25; refine (hF wr HW.out x hS1.1).mono ?_; rintro e w1 ⟨rfl, hb1⟩)
        | (go_at_call 29
           refine (Any.Builder_WriteString Tryd.laysB166 Tryd.Builder_ExtraB w.heap.size w.heap.size _ _ w1 (bld_below HB.out hb1) ?hlen (Nat.le_trans hBw hb1.size)).mono ?_
           case hlen => simp [Lib.byteCells, ByteArray.size]; omega
           rintro e w2 ⟨rfl, hA2, hb2⟩))
      have hWn : Below w.heap.size w w2 := (HW.out.trans (hb1.mono hBw)).trans hb2
      have hnext : Lib.byteCells (numL fmt (l.take k)) ++ Lib.strCells ((⟨#[32]⟩ : ByteArray) ++ ⟨(fmt x).toArray⟩) = Lib.byteCells (numL fmt (l.take (k + 1))) := by
        rw [List.take_add_one, hx, Option.toList_some, numL_snoc, Lib.strCells_eq, ← Lib.byteCells_append]
        simp
      rw [hnext] at hA2
      exact ⟨⟨k + 1, by omega, by simp, Any.hidJ (Or.inr hA2), Any.hidJ hWn⟩, by simp [intOf]; omega⟩
    · have hke : k = l.length := by omega
      subst hke
      rw [List.take_length] at HB
      go_wp2_with (first
        | (go_at_call 30; refine (Any.Builder_String_any Tryd.laysB169 Tryd.Builder_ExtraB w.heap.size w.heap.size (numL fmt l) wr HB.out HW.out.size).mono ?_; rintro e w1 ⟨rfl, hb1⟩))
      go_ret
      exact ⟨rfl, HW.out.trans hb1⟩
/-- one digit -/
def dig (x : Int) : List UInt8 := [UInt8.ofNat (48 + x.toNat)]
theorem fmt_small (w : World) : Fmt dig (fun x => 0 ≤ x ∧ x < 10) w := fun W _ x hx => by
  have h := Tryd.strconv_FormatInt_10_small x.toNat (by omega) W
  rw [show ((x.toNat : Nat) : Int) = x by omega, Lib.decDigits_one (by omega)] at h
  refine h.mono ?_
  rintro e w' ⟨rfl, rfl⟩
  exact ⟨rfl, Below.refl _ _⟩
end Go.Proofs.YtnejcdinieaemaaDoor.Tr
