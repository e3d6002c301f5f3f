import Derived.Test.YtnejcdinieaemaaDoorTrN
import Derived.Test.YtnejcdinieaemaaDoorAbsWf
import Derived.Lib.ItoaLen
import Derived.Lib.SmallJoins
/- Numbers of any size: the table of powers lies in the program's own variable. -/
set_option linter.all false
namespace Go.Abs
open Go.RowKit
/-- what leaves all blocks as they were leaves the relation as it was -/
theorem went_below {P : Program} {σ : Sg} {h : List AObj} {w w' : World} (hr : RelH P σ h w) (hf : Full σ h) (hb : Below w.heap.size w w') : Went P σ h w σ h w' := by
  have fr : Frm (wimg σ h) w w' := ⟨hb.os, hb.tape, hb.output, hb.size, fun r h1 _ => hb.block r h1⟩
  refine ⟨hr.step ⟨hr.lt, fun b o hd ho hl => ?_, hr.inj, hr.wfo⟩ fr (fun r h => .inl h), hf, fr, fun r h => .inl h, fun r h => .inl h⟩
  exact (hr.blk b o hd ho hl).heap_eq (fun hc => hb.block _ (hr.img_lt ⟨b, o, hd, ho, hl, hc, rfl⟩))
/-- a call that gives a text and leaves all as it was -/
theorem ACalls.text {P : Program} {f : FuncId} {args : List AV} {s : ByteArray} (hc : Callable P f) (h : ∀ (σ : Sg) (W : World), AmbOk P (fun _ => False) W → Calls P f (denL σ args).toArray W fun e w' => e = .returned (.string s) ∧ Below W.heap.size W w') : ACalls P f args [] (.v (.string s)) [] [] :=
  ⟨hc, fun σ W hf hr hw => (h σ W (fun x hx => ⟨(hr.amb x hx).1, id⟩)).mono fun e w' ⟨h1, h2⟩ => ⟨[], rfl, h1, trivial, by rw [Sg.more_nil]; exact went_below hr hf h2⟩⟩
end Go.Abs
namespace Go.Proofs.YtnejcdinieaemaaDoor.Tr
open Go.Abs Go.RowKit
set_option maxRecDepth 100000
theorem gTab : Tryd.prog.globalNamed "internal/strconv.uint64pow10" = some 0 := by kernel_rfl
theorem tab_of {M : Nat → Prop} {W : World} (h : AmbOk Tryd.prog M W) : Lib.TabIs Tryd.prog W "internal/strconv.uint64pow10" .u64 Lib.pow10Tab := by
  obtain ⟨⟨t, f, e⟩, -⟩ := h _ (List.mem_singleton.2 rfl)
  unfold Lib.TabIs World.var?
  rw [gTab]
  simp only [Option.bind_some]
  have e : W.heap[0]? = _ := e
  rw [e]
  simp [Lib.pow10Tab]
theorem below_grown (w : World) (q : Nat) (os : Array Obj) : Below w.heap.size w (Go.Sort.grow (w.drewN q) os) :=
  ⟨rfl, rfl, rfl, by simp [Go.Sort.grow], fun i hi => by
    show ((w.drewN q).heap ++ os)[i]? = _
    rw [Array.getElem?_append_left (by show i < w.heap.size; omega)]
    rfl⟩
theorem fmt_all (w : World) (h : Lib.TabIs Tryd.prog w "internal/strconv.uint64pow10" .u64 Lib.pow10Tab) : Fmt Lib.itoa (fun x => -9223372036854775808 ≤ x ∧ x ≤ 9223372036854775807) w := fun W hb x hx => by
  refine (Tryd.strconv_FormatInt_10 x hx.1 hx.2 W (Go.Joins.tab_stays gTab h hb (Nat.le_refl _))).mono ?_
  rintro e w' ⟨rfl, k, os, rfl⟩
  exact ⟨rfl, below_grown _ _ _⟩
end Go.Proofs.YtnejcdinieaemaaDoor.Tr
