import Derived.Test.YtiblodkkjibcoaaRgE
set_option linter.all false
/- A row that is nil, as a list. -/
namespace Go.Proofs.Ytiblodkkjibcoaa.Ring
open Go.Abs Go.RowKit Go.Shelf Go.Proofs
set_option maxRecDepth 100000 in
set_option maxHeartbeats 4000000 in
theorem all_z : AYields Try.prog 31 [.ptr 0 0] [.cells 0 false [.v (.pointer none)]] (fun x : Int => [.int .i64 x]) [] 0 := by
  refine ⟨⟨_, Try.func31, by kernel_rfl, by kernel_rfl⟩, fun σ w hf hr hw q J Jx W hb hJ hJx hY h0 => ?_⟩
  have hrW := hr.below hb
  have d0 : σ.dom 0 := (hf 0).2 (show 0 < 1 by decide)
  have e14 : ∀ args w, (callFunc 14 args).run Try.prog w = .ok (.enter 14 args) w := enters_of Try.func14 (by kernel_rfl) rfl
  have hcell : W.cell? ⟨σ.at_ 0, (σ.loc 0).off + 0, none⟩ = some (.pointer none) := blk_cell hrW d0 (o := .cells 0 false [.v (.pointer none)]) rfl rfl rfl (i := 0) rfl
  show CallsIn Fence.wide 3 Try.prog 31 #[.func (.yield q) #[] #[], .pointer (some ⟨σ.at_ 0, (σ.loc 0).off + 0, none⟩)] W _
  generalize (σ.loc 0).off + 0 = oo at hcell ⊢
  generalize σ.at_ 0 = bb at hcell ⊢
  have c14 : CallsIn Fence.wide 2 Try.prog 14 #[.pointer none] W fun e W2 => e = .returned (.int .i64 0) ∧ J [] W2 := by
    have := z14.quiet rfl (σ := ⟨fun _ => ⟨0, 0, 0, 0, true⟩, fun _ => False⟩) (W := W) (fun b => ⟨fun h => h.elim, fun h => absurd h (by simp)⟩) ⟨⟨fun b h => h.elim, fun b o h => h.elim, fun b b' o o' h => h.elim, fun b o h => h.elim⟩, fun x hx => ⟨(hrW.amb x hx).1, fun ⟨b, o, h, _⟩ => h.elim⟩⟩ ⟨trivial, trivial⟩
    refine this.mono ?_
    rintro e W2 ⟨rfl, -, hg, -⟩
    exact ⟨rfl, hJ _ _ _ _ h0 hg (fun r e => by simp at e)⟩
  have hfn : ∀ f, Fence.wide.fn f := fun _ => trivial
  have hro : Fence.wide.round = none := rfl
  generalize Fence.wide = F at hY c14 hfn hro ⊢
  have f14 := hfn 14
  refine callsIn_of_wp Try.func31 rfl (hfn 31) ?_ hro
  simp only [Try.ntmps31, List.size_toArray, List.length_cons, List.length_nil, Nat.reduceAdd, Nat.reduceSub, Array.replicate_succ, Array.replicate_zero, List.push_toArray, List.append_toArray, List.nil_append, List.cons_append]
  gi_wp2_with (gi_at_call 14; refine c14.mono ?_; rintro e w1 ⟨rfl, hj1⟩)
  gi_loopw [8] (fun i wr => i = .int .i64 0 ∧ Kept (J [] wr)) (fun i _ => 0)
  case atStart => exact ⟨rfl, hj1⟩
  case round =>
    obtain ⟨rfl, HJ⟩ := hrel
    gi_wp2
    go_end0
    exact ⟨⟨_, rfl⟩, .inl ⟨[], rfl, HJ⟩⟩
def szH (pre : List Int) : List AObj := [.cells 0 true [.sw 2 1], .cells 0 true [.v (.pointer none)], .ints 0 true .i64 pre]
def szT : Tm := [none, none, none, some (.ptr 0 0), none, none, some (.fn (.func 31) [.ptr 1 0]), none, none, none, none, none, none]
def szX (x : Int) : Tm := [none, none, none, some (.ptr 0 0), some (.v (.int .i64 x)), none, some (.fn (.func 31) [.ptr 1 0]), some (.v (.int .i64 x)), none, none, none, none, none]
theorem sz_loop : RangeLoop Try.prog 2 0 (rgG (rg Try.f16 0)) (rgP (rg Try.f16 0)) (rgH (rg Try.f16 0)) (rgB (rg Try.f16 0)) [(4, 7)] szX szT szT (szH []) [.cells 0 true [.v (.pointer none)]]
      31 [.ptr 1 0] [.ptr 0 0] [1] [3, 6] (fun x : Int => [.int .i64 x]) [] szH szH (fun _ => .ret) (fun _ => false) where
  ren := by kernel_rfl
  n0le := by show 2 ≤ 3; decide
  gv := by kernel_rfl
  lbv := by kernel_rfl
  nd := by kernel_rfl
  ilt := by kernel_rfl
  yields := all_z
  H0 := rfl
  it := fun _ => by kernel_rfl
  len := fun _ => by show 2 ≤ 3; decide
  lenx := fun _ => by show 2 ≤ 3; decide
  row := fun _ => rfl
  rowx := fun _ => rfl
  rowc := rfl
  bodyOk := by kernel_rfl
  encl := fun _ => by kernel_rfl
  head := .reg (id := 3) (by kernel_rfl)
  rtv := fun _ => by kernel_rfl
  round := fun pre x hlt => absurd hlt (by omega)
theorem z16 : ACalls Try.prog 16 [AV.v (.pointer none)] [] (AV.sw 0 1) [] [AObj.ints 0 true .i64 []] :=
  .of_out [.call [] (.fn (.func 31) [.ptr 0 0]) [] [.cells 0 true [.v (.pointer none)]], .gh (.nilc 0 0 1 (.ints 0 true .i64 [])), .loop [3,6] [0,1,2] .normal szT (szH [])] [2]
    [ACalls Try.prog 28 [.v (.pointer none)] [] (.fn (.func 31) [.ptr 0 0]) [] [.cells 0 true [.v (.pointer none)]], ARun Try.prog 0 (rg Try.f16 0) szT (szH []) .normal szT (szH [])] Try.func16 (by kernel_rfl) (by kernel_rfl)
    (.cons z28 (.cons ((sz_loop.all (fun k hk => by simp at hk)).fewer (n := 0) (by decide) (by show 2 ≤ 3; decide)) .nil))
end Go.Proofs.Ytiblodkkjibcoaa.Ring
