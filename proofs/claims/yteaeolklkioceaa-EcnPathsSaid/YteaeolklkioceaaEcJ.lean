/- strings.Join, by the library's contract, over the abstract heap. -/
import Derived.Shelf.Strings.OnBuilder
import Derived.Test.YteaeolklkioceaaProg
import Derived.Test.YteaeolklkioceaaAbsWf
set_option linter.unusedVariables false
set_option linter.unusedSimpArgs false
namespace Go.Proofs
open Go.Shelf
def Try.lays156_ren : Go.Shelf.Ren := ⟨fun | 156 => 51 | 165 => 54 | 166 => 55 | 169 => 56 | 240 => 57 | 241 => 58 | 276 => 59 | 277 => 60 | n => n, fun | 31 => 63 | 9 => 9 | 3 => 3 | 4 => 4 | 0 => 0 | 20 => 20 | 72 => 69 | 76 => 73 | 70 => 66 | 37 => 67 | 75 => 72 | 127 => 76 | 164 => 77 | 5 => 5 | 80 => 75 | n => n, fun | n => n⟩
theorem Try.lays156 : Go.Proofs.Lays.n156 Try.prog Try.lays156_ren := {
  mixed := by kernel_rfl
  f156 := Try.func51.trans (congrArg some (by kernel_rfl))
  f165 := Try.func54.trans (congrArg some (by kernel_rfl))
  f166 := Try.func55.trans (congrArg some (by kernel_rfl))
  f169 := Try.func56.trans (congrArg some (by kernel_rfl))
  f240 := Try.func57.trans (congrArg some (by kernel_rfl))
  f241 := Try.func58.trans (congrArg some (by kernel_rfl))
  f276 := Try.func59.trans (congrArg some (by kernel_rfl))
  f277 := Try.func60.trans (congrArg some (by kernel_rfl))
  t0 := Try.underlying0
  a0 := Try.isAgg0
  z0 := Try.sizeOf0
  v0 := Try.zeroValue0
  t3 := Try.underlying3
  a3 := Try.isAgg3
  z3 := Try.sizeOf3
  v3 := Try.zeroValue3
  t4 := Try.underlying4
  a4 := Try.isAgg4
  z4 := Try.sizeOf4
  v4 := Try.zeroValue4
  t9 := Try.underlying9
  a9 := Try.isAgg9
  z9 := Try.sizeOf9
  v9 := Try.zeroValue9
  t20 := Try.underlying20
  a20 := Try.isAgg20
  z20 := Try.sizeOf20
  v20 := Try.zeroValue20
  t31 := Try.underlying63
  a31 := Try.isAgg63
  z31 := Try.sizeOf63
  v31 := Try.zeroValue63
  t37 := Try.underlying67
  a37 := Try.isAgg67
  z37 := Try.sizeOf67
  v37 := Try.zeroValue67
  t70 := Try.underlying66
  a70 := Try.isAgg66
  z70 := Try.sizeOf66
  v70 := Try.zeroValue66
  t72 := Try.underlying69
  a72 := Try.isAgg69
  z72 := Try.sizeOf69
  v72 := Try.zeroValue69
  t75 := Try.underlying72
  a75 := Try.isAgg72
  z75 := Try.sizeOf72
  v75 := Try.zeroValue72
  t76 := Try.underlying73
  a76 := Try.isAgg73
  z76 := Try.sizeOf73
  v76 := Try.zeroValue73
  t127 := Try.underlying76
  a127 := Try.isAgg76
  z127 := Try.sizeOf76
  v127 := Try.zeroValue76
  t164 := Try.underlying77
  a164 := Try.isAgg77
  z164 := Try.sizeOf77
  v164 := Try.zeroValue77 }
theorem Try.Builder_Extra_156 : Builder.Extra Try.prog Try.lays156_ren := {
  sizeBuilder := by kernel_rfl
  liesBuilder := by kernel_rfl
  t5 := Try.underlying5
  a5 := Try.isAgg5
  z5 := Try.sizeOf5
  v5 := Try.zeroValue5
  infoByte := by kernel_rfl
  cellsByte := by kernel_rfl
  sizeByte := by kernel_rfl
  neB5 := by decide }
open Go.RowKit in
/-- No element: the empty string; the world is as it was. (Whatever the slice's address and capacity: a nil slice too.) (LAID: no walk: one application.) -/
theorem Try.strings_Join_none (a : Option Addr) (c : Nat) (sep : ByteArray) (w : World) :
    Calls Try.prog 51 #[.slice a 0 c, .string sep] w fun e w' => e = .returned (.string ⟨#[]⟩) ∧ w' = w := Any.strings_Join_none Try.lays156 Try.Builder_Extra_156 a c sep w
open Go.RowKit in
/-- strings.Join: "Join concatenates the elements of its first argument to create a single string. The separator string sep is placed between elements in the resulting string.": HOWEVER MANY ELEMENTS. Below the heap's end the world is as it was. (LAID: no walk: one application.) -/
theorem Try.strings_Join (bk o c : Nat) (xs : List ByteArray) (sep : ByteArray) (w : World) (hcells : ∀ (j : Nat) x, xs[j]? = some x → w.cell? ⟨bk, o + j, none⟩ = some (.string x)) (hbk : bk < w.heap.size) (hN : xs.length ≤ 140737488355328) (hcap : xs.length ≤ c) (hlen : (Lib.join (xs.map (·.data.toList)) sep.data.toList).length ≤ 140737488355328) :
    Calls Try.prog 51 #[.slice (some ⟨bk, o, none⟩) xs.length c, .string sep] w fun e w' => e = .returned (.string ⟨(Lib.join (xs.map (·.data.toList)) sep.data.toList).toArray⟩) ∧ Below w.heap.size w w' := Any.strings_Join Try.lays156 Try.Builder_Extra_156 bk o c xs sep w hcells hbk hN hcap hlen
end Go.Proofs
namespace Go.Abs
open Go.RowKit
/-- what leaves all blocks as they were leaves the relation as it was -/
theorem went_below {P : Program} {σ : Sg} {h : List AObj} {w w' : World} (hr : RelH P σ h w) (hf : Full σ h) (hb : Below w.heap.size w w') : Went P σ h w σ h w' := by
  refine ⟨⟨hr.lt, fun b o hd ho hl => ?_, hr.inj, hr.wfo⟩, hf, ⟨hb.os, hb.tape, hb.output, hb.size, fun r h1 _ => hb.block r h1⟩, fun r h => .inl h, fun r h => .inl h⟩
  exact (hr.blk b o hd ho hl).heap_eq (fun hc => hb.block _ (hr.img_lt ⟨b, o, hd, ho, hl, hc, rfl⟩))
end Go.Abs
namespace Go.Proofs.Yteaeolklkioceaa.Ec
open Go.Abs
/-- texts joined -/
def joinS (l : List ByteArray) (s : ByteArray) : ByteArray := ⟨(Lib.join (l.map (·.data.toList)) s.data.toList).toArray⟩
def jnOk (l : List ByteArray) (s : ByteArray) : Bool := decide (l.length ≤ 140737488355328 ∧ (Lib.join (l.map (·.data.toList)) s.data.toList).length ≤ 140737488355328)
theorem g51 (w : Bool) (l : List ByteArray) (s : ByteArray) (hj : jnOk l s = true) : ACalls Try.prog 51 [.sw 0 1, .v (.string s)] [.strs 0 w l] (.v (.string (joinS l s))) [] [] := by
  obtain ⟨h1, h2⟩ := of_decide_eq_true hj
  refine ⟨⟨_, rfl, by kernel_rfl, by kernel_rfl⟩, fun σ W hf hr hw => ?_⟩
  have hd : σ.dom 0 := hw.1.1
  have hb := hr.blk 0 _ hd rfl rfl
  have hlen : (σ.loc 0).len = l.length := hb.len.symm
  have fin : ∀ {Q : Ending → World → Prop} {args : Array Value}, Calls Try.prog 51 args W Q → (∀ e w', Q e w' → e = .returned (.string (joinS l s)) ∧ Go.RowKit.Below W.heap.size W w') →
      Calls Try.prog 51 args W fun e w' => ∃ rs : List Go.Abs.Loc, rs.length = ([] : List AObj).length ∧ e = .returned (den (σ.more 1 rs) (.v (.string (joinS l s)))) ∧ wf (σ.more 1 rs) (.v (.string (joinS l s))) ∧
        Went Try.prog σ [.strs 0 w l] W (σ.more 1 rs) (applyUpd [] [.strs 0 w l] ++ []) w' := fun hc hq => hc.mono fun e w' hp => by
    obtain ⟨q1, q2⟩ := hq e w' hp
    exact ⟨[], rfl, q1, trivial, by rw [Sg.more_nil]; exact went_below hr hf q2⟩
  have ha : (denL σ [.sw 0 1, .v (.string s)]).toArray = #[.slice ((σ.loc 0).base 0) l.length ((σ.loc 0).cap), .string s] := by simp [denL, den, hlen]
  rw [show [AObj.strs 0 w l].length = 1 from rfl, ha]
  by_cases hc : 0 < (σ.loc 0).cap
  · have hnil : (σ.loc 0).nil = false := by
      cases hq : (σ.loc 0).nil with
      | false => rfl
      | true => have := hb.nil hq; omega
    have hbase : (σ.loc 0).base 0 = some ⟨σ.at_ 0, (σ.loc 0).off, none⟩ := by simp [Loc.base, hnil]
    rw [hbase]
    refine fin (Try.strings_Join (σ.at_ 0) (σ.loc 0).off (σ.loc 0).cap l s W (fun j x hx => ?_) (hr.img_lt ⟨0, _, hd, rfl, rfl, hc, rfl⟩) h1 (by have := hb.le; omega) h2) (fun e w' h => h)
    exact blk_cell hr hd (o := .strs 0 w l) rfl rfl rfl (by simp [denO, hx])
  · have h0 : l = [] := List.length_eq_zero_iff.1 (by have := hb.le; omega)
    subst h0
    refine fin (Try.strings_Join_none _ _ s W) (fun e w' h => ⟨h.1, h.2 ▸ Go.RowKit.Below.refl _ _⟩)
end Go.Proofs.Yteaeolklkioceaa.Ec
