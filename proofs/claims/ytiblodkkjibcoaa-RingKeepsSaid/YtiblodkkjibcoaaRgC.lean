import Derived.Test.YtiblodkkjibcoaaRgB
set_option linter.all false
set_option maxRecDepth 100000
/- A row's items, as a list. -/
namespace Go.Proofs.Ytiblodkkjibcoaa.Ring
open Go.Abs
def slH (w v : Bool) (l : List Int) (a n k : Int) (pre : List Int) : List AObj := [.cells 0 w [.sw 1 1, .v (.int .i64 a), .v (.int .i64 n), .v (.int .i64 k)], .ints 0 v .i64 l, .cells 0 true [.sw 4 1], .cells 0 true [.ptr 0 0], .ints 0 true .i64 pre]
def slT : Tm := [none, none, none, some (.ptr 2 0), none, none, some (.fn (.func 31) [.ptr 3 0]), none, none, none, none, none, none]
def slX (x : Int) : Tm := [none, none, none, some (.ptr 2 0), some (.v (.int .i64 x)), none, some (.fn (.func 31) [.ptr 3 0]), some (.v (.int .i64 x)), none, none, none, none, none]
theorem sl_loop (w v : Bool) (l : List Int) (a n k : Int) (h : okR l a n k = true) :
    RangeLoop Try.prog 4 n.toNat (rgG (rg Try.f16 0)) (rgP (rg Try.f16 0)) (rgH (rg Try.f16 0)) (rgB (rg Try.f16 0)) [(4, 7)] slX slT slT (slH w v l a n k []) [.cells 0 w [.sw 1 1, .v (.int .i64 a), .v (.int .i64 n), .v (.int .i64 k)], .ints 0 v .i64 l, .cells 0 true [.ptr 0 0]]
      31 [.ptr 3 0] [.ptr 2 0] [0, 1, 3] [3, 6] (fun x : Int => [.int .i64 x]) (itR l a n) (slH w v l a n k) (slH w v l a n k) (fun _ => .ret) (fun _ => false) where
  ren := by kernel_rfl
  n0le := by show 4 ≤ 5; decide
  gv := by kernel_rfl
  lbv := by kernel_rfl
  nd := by kernel_rfl
  ilt := by kernel_rfl
  yields := all_y l a n k h
  H0 := rfl
  it := fun _ => by kernel_rfl
  len := fun _ => by show 4 ≤ 5; decide
  lenx := fun _ => by show 4 ≤ 5; decide
  row := fun _ => rfl
  rowx := fun _ => rfl
  rowc := rfl
  bodyOk := by kernel_rfl
  encl := fun _ => by kernel_rfl
  head := .reg (id := 3) (by kernel_rfl)
  rtv := fun _ => by kernel_rfl
  round := fun pre x hlt => ⟨fun _ => ⟨List.replicate 13 none, roundA_sound (orc := []) (keep := []) (κ := [0, 1, 2, 3, 6]) (cs := [fitN (addN (lenI pre) (lenI [x])) 8]) (by kernel_rfl) ⟨by
    have := okR_iff.1 h
    unfold fitN addN lenI; simp only [List.length_cons, List.length_nil]; omega, trivial⟩⟩, fun e => by simp at e⟩
theorem g16 (w v : Bool) (l : List Int) (a n k : Int) (h : okR l a n k = true) : ACalls Try.prog 16 [AV.ptr 0 0] [AObj.cells 0 w [AV.sw 1 1, AV.v (.int .i64 a), AV.v (.int .i64 n), AV.v (.int .i64 k)], AObj.ints 0 v .i64 l] (AV.sw 2 1) [] [AObj.ints 0 true .i64 (itR l a n)] :=
  .of_out [.call [0,1] (.fn (.func 31) [.ptr 2 0]) [] [.cells 0 true [.ptr 0 0]], .gh (.nilc 2 0 1 (.ints 0 true .i64 [])), .loop [3,6] [0,1,2,3,4] .normal slT (slH w v l a n k (itR l a n))] [0,1,4] [ACalls Try.prog 28 [.ptr 0 0] [.cells 0 w [.sw 1 1, .v (.int .i64 a), .v (.int .i64 n), .v (.int .i64 k)], .ints 0 v .i64 l] (.fn (.func 31) [.ptr 2 0]) [] [.cells 0 true [.ptr 0 0]], ARun Try.prog 2 (rg Try.f16 0) slT (slH w v l a n k []) .normal slT (slH w v l a n k (itR l a n))] Try.func16 (by kernel_rfl) (by kernel_rfl)
    (.cons (f28 w v l a n k) (.cons (((sl_loop w v l a n k h).all (fun _ _ => rfl)).fewer (n := 2) (by decide) (by show 4 ≤ 5; decide)) .nil))
end Go.Proofs.Ytiblodkkjibcoaa.Ring
