import Derived.Test.YtffoldigaififaaAbsRf
import Derived.Test.YtffoldigaififaaAbsWn
import Derived.Test.YtffoldigaififaaProg
import Derived.Test.YtffoldigaififaaAbsO
import Derived.Test.YtffoldigaififaaAbsRm
import Derived.WalkKit
import Derived.OwnWalkIn
import Derived.TacticsInMore
import Derived.LoopNIn
import Derived.LoopIn
import Derived.Shelf.Abstract
import Derived.Lib.QuietBelowIn
import Derived.Test.YtffoldigaififaaAbsDf
/- Ranges of numbers. -/
namespace Go.Proofs.Ytffoldigaififaa.Sk
open Go.Abs
abbrev sR : List CK := [CK.int .i64, CK.int .i64]
end Go.Proofs.Ytffoldigaififaa.Sk

set_option maxRecDepth 100000
set_option linter.all false
set_option maxHeartbeats 4000000
set_option linter.unusedSimpArgs false
set_option linter.unusedVariables false
namespace Go.Proofs.Ytffoldigaififaa.Sk
open Go.Abs
theorem f52_1 (a : Int) (b : Int)  : ACalls Try.prog 52 [AV.agg [AV.v (.int .i64 a), AV.v (.int .i64 b)]] [] (AV.v (.int .i64 (isub .i64 b a))) [] [] :=
  ACalls.nb (res := AV.v (.int .i64 (isub .i64 b a))) (.of_out [] [] [] Try.func52 (by kernel_rfl) (by kernel_rfl) .nil)
theorem f52 (a : Int) (b : Int) : ACalls Try.prog 52 [AV.agg [AV.v (.int .i64 a), AV.v (.int .i64 b)]] [] (AV.v (.int .i64 (isub .i64 b a))) [] [] := (f52_1 a b)
def L43S (w : Bool) (l : List (El sR)) (x7 : Int) (x3 : Int) (x8 : Int) : Tm := (tg [(2, AV.v (.int .i64 0)), (0, AV.v (.int .i64 x3)), (2, AV.sw 0 2), (0, AV.v (.int .i64 x7)), (0, AV.v (.int .i64 x8))] 9)
def L43H (w : Bool) (l : List (El sR)) (x7 : Int) (x3 : Int) (x8 : Int) : List AObj := [AObj.rows w sR l]
def L43T (w : Bool) (l : List (El sR)) (o0 : Int) : Tm := (tg [(2, AV.v (.int .i64 0)), (0, AV.v (.int .i64 o0))] 14)
def L43U (w : Bool) (l : List (El sR)) (o0 : Int) : List AObj := [AObj.rows w sR l]
theorem L43_1 (w : Bool) (l : List (El sR)) (x7 : Int) (x3 : Int) (x8 : Int)  (d0 : (ilt x8 x7) = true) (s0 : inB x8 (lenR sR l)) (s1 : ltN (idxN 0 x8) (lenR sR l)) {e : AExit} {tm2 : Tm} {h2 : List AObj} (b : ARun Try.prog 1 (.loop (lp Try.f43 0)) (L43S w l  (x7) (iadd .i64 x3 (isub .i64 ((getR sR l (idxN 0 x8)).2) ((getR sR l (idxN 0 x8)).1))) (iadd .i64 x8 1)) (L43H w l  (x7) (iadd .i64 x3 (isub .i64 ((getR sR l (idxN 0 x8)).2) ((getR sR l (idxN 0 x8)).1))) (iadd .i64 x8 1)) e tm2 h2) : ARun Try.prog 1 (.loop (lp Try.f43 0)) (L43S w l  x7 x3 x8) (L43H w l  x7 x3 x8) e tm2 h2 :=
  .round [Orc.br true, Orc.call [] (AV.v (.int .i64 (isub .i64 ((getR sR l (idxN 0 x8)).2) ((getR sR l (idxN 0 x8)).1)))) [] []] [2, 3, 6, 7, 8] [0] [isB (ilt x8 x7) true, inB x8 (lenR sR l), ltN (idxN 0 x8) (lenR sR l), ACalls Try.prog 52 [AV.agg [AV.v (.int .i64 ((getR sR l (idxN 0 x8)).1)), AV.v (.int .i64 ((getR sR l (idxN 0 x8)).2))]] [] (AV.v (.int .i64 (isub .i64 ((getR sR l (idxN 0 x8)).2) ((getR sR l (idxN 0 x8)).1)))) [] []] (by kernel_rfl) (.cons d0 (.cons (s0) (.cons (s1) (.cons (by apply f52) .nil)))) b
theorem L43_2 (w : Bool) (l : List (El sR)) (x7 : Int) (x3 : Int) (x8 : Int)  (d0 : (ilt x8 x7) = false) : ARun Try.prog 1 (.loop (lp Try.f43 0)) (L43S w l  x7 x3 x8) (L43H w l  x7 x3 x8) (AExit.exit 0) (L43T w l  (x3)) (L43U w l  (x3)) :=
  .last [Orc.br false] [2, 3] [0] [isB (ilt x8 x7) false] (by kernel_rfl) (.cons d0 .nil)
def L43B (w : Bool) (l : List (El sR)) (x7 : Int) (x3 : Int) (x8 : Int) : Option (((Int) × (Int) × (Int)) ⊕ ((Int))) := (bif ilt x8 x7 then bif decide (inB x8 (lenR sR l)) then bif decide (ltN (idxN 0 x8) (lenR sR l)) then some (.inl (x7, iadd .i64 x3 (isub .i64 ((getR sR l (idxN 0 x8)).2) ((getR sR l (idxN 0 x8)).1)), iadd .i64 x8 1)) else none else none else some (.inr (x3)))
def L43L (w : Bool) (l : List (El sR)) : Nat → Int → Int → Int → Option ((Int))
  | 0, _, _, _ => none
  | fuel + 1, x7, x3, x8 => match L43B w l  x7 x3 x8 with
    | none => none
    | some (.inl s) => L43L w l fuel s.1 s.2.1 s.2.2
    | some (.inr o) => some o
def L43K (w : Bool) (l : List (El sR)) (fuel : Nat) : Option (((Int) × (Int) × (Int)) ⊕ ((Int))) → Option ((Int))
  | none => none
  | some (.inl s) => L43L w l fuel s.1 s.2.1 s.2.2
  | some (.inr o) => some o
theorem L43LK (w : Bool) (l : List (El sR)) (fuel : Nat) (x7 : Int) (x3 : Int) (x8 : Int) : L43L w l (fuel + 1)  x7 x3 x8 = L43K w l fuel (L43B w l  x7 x3 x8) := by
  rw [L43L]; cases L43B w l  x7 x3 x8 with
  | none => rfl
  | some v => cases v <;> rfl
theorem L43P (w : Bool) (l : List (El sR)) (fuel : Nat) (ih : ∀ (x7 : Int) (x3 : Int) (x8 : Int) (o0 : Int) (_ : L43L w l fuel  x7 x3 x8 = some (o0)), ARun Try.prog 1 (.loop (lp Try.f43 0)) (L43S w l  x7 x3 x8) (L43H w l  x7 x3 x8) (AExit.exit 0) (L43T w l  o0) (L43U w l  o0)) (x7 : Int) (x3 : Int) (x8 : Int) (o0 : Int) (h : L43K w l fuel (L43B w l  x7 x3 x8) = some (o0)) : ARun Try.prog 1 (.loop (lp Try.f43 0)) (L43S w l  x7 x3 x8) (L43H w l  x7 x3 x8) (AExit.exit 0) (L43T w l  o0) (L43U w l  o0) := by
  unfold L43B at h
  exact (splitK h (fun d0 h => (chkK rfl h (fun s0 h => chkK rfl h (fun s1 h => L43_1 w l  x7 x3 x8 d0 s0 s1 (ih (x7) (iadd .i64 x3 (isub .i64 ((getR sR l (idxN 0 x8)).2) ((getR sR l (idxN 0 x8)).1))) (iadd .i64 x8 1) o0 h))))) (fun d0 h => ((by cases h; exact L43_2 w l  x7 x3 x8 d0))))
theorem L43 (w : Bool) (l : List (El sR)) : ∀ (fuel : Nat) (x7 : Int) (x3 : Int) (x8 : Int) (o0 : Int) (_ : L43L w l  fuel  x7 x3 x8 = some (o0)), ARun Try.prog 1 (.loop (lp Try.f43 0)) (L43S w l  x7 x3 x8) (L43H w l  x7 x3 x8) (AExit.exit 0) (L43T w l  o0) (L43U w l  o0)
  | 0, _, _, _, _, h => by cases h
  | fuel + 1, x7, x3, x8, o0, h => L43P w l fuel (L43 w l fuel)  x7 x3 x8  o0 (by rw [L43LK] at h; exact h)
theorem f43_1 (w : Bool) (l : List (El sR)) (L43_0_fuel : Nat) (L43_0_o0 : Int)  (L43_0_h0 : (L43L w l L43_0_fuel (nlen (lenR sR l)) 0 0) = (some L43_0_o0)) : ACalls Try.prog 43 [AV.sw 0 2] [AObj.rows w sR l] (AV.v (.int .i64 L43_0_o0)) [] [] :=
  ACalls.nb (res := AV.v (.int .i64 L43_0_o0)) (.of_out [Orc.loop [2, 3, 6, 7, 8] [0] (AExit.exit 0) (tg [(2, AV.v (.int .i64 0)), (0, AV.v (.int .i64 L43_0_o0))] 14) [AObj.rows w sR l]] [0] [_] Try.func43 (by kernel_rfl) (by kernel_rfl) (.cons (L43 _ _ _ _ _ _ _ (L43_0_h0)) .nil))
theorem f43 (w : Bool) (l : List (El sR)) (L43_0_fuel : Nat) (L43_0_o0 : Int) (L43_0_h0 : (L43L w l L43_0_fuel (nlen (lenR sR l)) 0 0) = (some L43_0_o0)) : ACalls Try.prog 43 [AV.sw 0 2] [AObj.rows w sR l] (AV.v (.int .i64 L43_0_o0)) [] [] := (f43_1 w l L43_0_fuel L43_0_o0 L43_0_h0)
theorem f67_1 (w : Bool) (a : Int) (b : Int) (n : Int)  : ACalls Try.prog 67 [AV.agg [AV.v (.int .i64 a), AV.v (.int .i64 b)], AV.ptr 0 0] [AObj.cells 0 w [AV.v (.int .i64 n)]] (AV.v (Value.bool (ilt n b))) [] [] :=
  ACalls.nb (res := AV.v (Value.bool (ilt n b))) (.of_out [] [0] [] Try.func67 (by kernel_rfl) (by kernel_rfl) .nil)
theorem f67 (w : Bool) (a : Int) (b : Int) (n : Int) : ACalls Try.prog 67 [AV.agg [AV.v (.int .i64 a), AV.v (.int .i64 b)], AV.ptr 0 0] [AObj.cells 0 w [AV.v (.int .i64 n)]] (AV.v (Value.bool (ilt n b))) [] [] := (f67_1 w a b n)
def L47S (w : Bool) (v : Bool) (l : List (El sR)) (n : Int) (x7 : Int) (x8 : Int) : Tm := (tg [(0, AV.sw 0 2), (0, AV.fn (Fn.func 67) [AV.ptr 1 0]), (2, AV.v (.int .i64 0)), (2, AV.v (.int .i64 x7)), (0, AV.v (.int .i64 x8))] 10)
def L47H (w : Bool) (v : Bool) (l : List (El sR)) (n : Int) (x7 : Int) (x8 : Int) : List AObj := [AObj.rows w sR l, AObj.cells 0 v [AV.v (.int .i64 n)]]
def L47T0 (w : Bool) (v : Bool) (l : List (El sR)) (n : Int) (o0 : Int) : Tm := (tg [(4, AV.v (.int .i64 o0))] 14)
def L47U0 (w : Bool) (v : Bool) (l : List (El sR)) (n : Int) (o0 : Int) : List AObj := [AObj.rows w sR l, AObj.cells 0 v [AV.v (.int .i64 n)]]
def L47T1 (w : Bool) (v : Bool) (l : List (El sR)) (n : Int) : Tm := (tg [(4, AV.v (.int .i64 0))] 14)
def L47U1 (w : Bool) (v : Bool) (l : List (El sR)) (n : Int) : List AObj := [AObj.rows w sR l, AObj.cells 0 v [AV.v (.int .i64 n)]]
theorem L47_1 (w : Bool) (v : Bool) (l : List (El sR)) (n : Int) (x7 : Int) (x8 : Int)  (d0 : (ilt x8 x7) = true) (d1 : (ilt n ((getR sR l (idxN 0 x8)).2)) = true) (s0 : inB x8 (lenR sR l)) (s1 : ltN (idxN 0 x8) (lenR sR l)) : ARun Try.prog 2 (.loop (lp Try.f47 0)) (L47S w v l n  x7 x8) (L47H w v l n  x7 x8) (AExit.ret) (L47T0 w v l n  (x8)) (L47U0 w v l n  (x8)) :=
  .lastRet [Orc.br true, Orc.call [1] (AV.v (Value.bool (ilt n ((getR sR l (idxN 0 x8)).2)))) [] [], Orc.br true] [4] [0, 1] [isB (ilt x8 x7) true, inB x8 (lenR sR l), ltN (idxN 0 x8) (lenR sR l), ACalls Try.prog 67 [AV.agg [AV.v (.int .i64 ((getR sR l (idxN 0 x8)).1)), AV.v (.int .i64 ((getR sR l (idxN 0 x8)).2))], AV.ptr 0 0] [AObj.cells 0 v [AV.v (.int .i64 n)]] (AV.v (Value.bool (ilt n ((getR sR l (idxN 0 x8)).2)))) [] [], isB (ilt n ((getR sR l (idxN 0 x8)).2)) true] (by kernel_rfl) (.cons d0 (.cons (s0) (.cons (s1) (.cons (by apply f67) (.cons d1 .nil)))))
theorem L47_2 (w : Bool) (v : Bool) (l : List (El sR)) (n : Int) (x7 : Int) (x8 : Int)  (d0 : (ilt x8 x7) = true) (d1 : (ilt n ((getR sR l (idxN 0 x8)).2)) = false) (s0 : inB x8 (lenR sR l)) (s1 : ltN (idxN 0 x8) (lenR sR l)) {e : AExit} {tm2 : Tm} {h2 : List AObj} (b : ARun Try.prog 2 (.loop (lp Try.f47 0)) (L47S w v l n  (x7) (iadd .i64 x8 1)) (L47H w v l n  (x7) (iadd .i64 x8 1)) e tm2 h2) : ARun Try.prog 2 (.loop (lp Try.f47 0)) (L47S w v l n  x7 x8) (L47H w v l n  x7 x8) e tm2 h2 :=
  .round [Orc.br true, Orc.call [1] (AV.v (Value.bool (ilt n ((getR sR l (idxN 0 x8)).2)))) [] [], Orc.br false] [0, 1, 4, 7, 8] [0, 1] [isB (ilt x8 x7) true, inB x8 (lenR sR l), ltN (idxN 0 x8) (lenR sR l), ACalls Try.prog 67 [AV.agg [AV.v (.int .i64 ((getR sR l (idxN 0 x8)).1)), AV.v (.int .i64 ((getR sR l (idxN 0 x8)).2))], AV.ptr 0 0] [AObj.cells 0 v [AV.v (.int .i64 n)]] (AV.v (Value.bool (ilt n ((getR sR l (idxN 0 x8)).2)))) [] [], isB (ilt n ((getR sR l (idxN 0 x8)).2)) false] (by kernel_rfl) (.cons d0 (.cons (s0) (.cons (s1) (.cons (by apply f67) (.cons d1 .nil))))) b
theorem L47_3 (w : Bool) (v : Bool) (l : List (El sR)) (n : Int) (x7 : Int) (x8 : Int)  (d0 : (ilt x8 x7) = false) : ARun Try.prog 2 (.loop (lp Try.f47 0)) (L47S w v l n  x7 x8) (L47H w v l n  x7 x8) (AExit.exit 0) (L47T1 w v l n ) (L47U1 w v l n ) :=
  .last [Orc.br false] [4] [0, 1] [isB (ilt x8 x7) false] (by kernel_rfl) (.cons d0 .nil)
def L47B (w : Bool) (v : Bool) (l : List (El sR)) (n : Int) (x7 : Int) (x8 : Int) : Option (((Int) × (Int)) ⊕ (Nat × (Int))) := (bif ilt x8 x7 then (bif ilt n ((getR sR l (idxN 0 x8)).2) then bif decide (inB x8 (lenR sR l)) then bif decide (ltN (idxN 0 x8) (lenR sR l)) then some (.inr (0, x8)) else none else none else bif decide (inB x8 (lenR sR l)) then bif decide (ltN (idxN 0 x8) (lenR sR l)) then some (.inl (x7, iadd .i64 x8 1)) else none else none) else some (.inr (1, 0)))
def L47L (w : Bool) (v : Bool) (l : List (El sR)) (n : Int) : Nat → Int → Int → Option (Nat × (Int))
  | 0, _, _ => none
  | fuel + 1, x7, x8 => match L47B w v l n  x7 x8 with
    | none => none
    | some (.inl s) => L47L w v l n fuel s.1 s.2
    | some (.inr o) => some o
def L47K (w : Bool) (v : Bool) (l : List (El sR)) (n : Int) (fuel : Nat) : Option (((Int) × (Int)) ⊕ (Nat × (Int))) → Option (Nat × (Int))
  | none => none
  | some (.inl s) => L47L w v l n fuel s.1 s.2
  | some (.inr o) => some o
theorem L47LK (w : Bool) (v : Bool) (l : List (El sR)) (n : Int) (fuel : Nat) (x7 : Int) (x8 : Int) : L47L w v l n (fuel + 1)  x7 x8 = L47K w v l n fuel (L47B w v l n  x7 x8) := by
  rw [L47L]; cases L47B w v l n  x7 x8 with
  | none => rfl
  | some v => cases v <;> rfl
theorem L47P0 (w : Bool) (v : Bool) (l : List (El sR)) (n : Int) (fuel : Nat) (ih : ∀ (x7 : Int) (x8 : Int) (o0 : Int) (_ : L47L w v l n fuel  x7 x8 = some (0, o0)), ARun Try.prog 2 (.loop (lp Try.f47 0)) (L47S w v l n  x7 x8) (L47H w v l n  x7 x8) (AExit.ret) (L47T0 w v l n  o0) (L47U0 w v l n  o0)) (x7 : Int) (x8 : Int) (o0 : Int) (h : L47K w v l n fuel (L47B w v l n  x7 x8) = some (0, o0)) : ARun Try.prog 2 (.loop (lp Try.f47 0)) (L47S w v l n  x7 x8) (L47H w v l n  x7 x8) (AExit.ret) (L47T0 w v l n  o0) (L47U0 w v l n  o0) := by
  unfold L47B at h
  exact (splitK h (fun d0 h => (splitK h (fun d1 h => (chkK rfl h (fun s0 h => chkK rfl h (fun s1 h => (by cases h; exact L47_1 w v l n  x7 x8 d0 d1 s0 s1))))) (fun d1 h => (chkK rfl h (fun s0 h => chkK rfl h (fun s1 h => L47_2 w v l n  x7 x8 d0 d1 s0 s1 (ih (x7) (iadd .i64 x8 1) o0 h))))))) (fun d0 h => ((by cases h))))
theorem L470 (w : Bool) (v : Bool) (l : List (El sR)) (n : Int) : ∀ (fuel : Nat) (x7 : Int) (x8 : Int) (o0 : Int) (_ : L47L w v l n  fuel  x7 x8 = some (0, o0)), ARun Try.prog 2 (.loop (lp Try.f47 0)) (L47S w v l n  x7 x8) (L47H w v l n  x7 x8) (AExit.ret) (L47T0 w v l n  o0) (L47U0 w v l n  o0)
  | 0, _, _, _, h => by cases h
  | fuel + 1, x7, x8, o0, h => L47P0 w v l n fuel (L470 w v l n fuel)  x7 x8  o0 (by rw [L47LK] at h; exact h)
theorem L47P1 (w : Bool) (v : Bool) (l : List (El sR)) (n : Int) (fuel : Nat) (ih : ∀ (x7 : Int) (x8 : Int) (_ : L47L w v l n fuel  x7 x8 = some (1, 0)), ARun Try.prog 2 (.loop (lp Try.f47 0)) (L47S w v l n  x7 x8) (L47H w v l n  x7 x8) (AExit.exit 0) (L47T1 w v l n ) (L47U1 w v l n )) (x7 : Int) (x8 : Int) (h : L47K w v l n fuel (L47B w v l n  x7 x8) = some (1, 0)) : ARun Try.prog 2 (.loop (lp Try.f47 0)) (L47S w v l n  x7 x8) (L47H w v l n  x7 x8) (AExit.exit 0) (L47T1 w v l n ) (L47U1 w v l n ) := by
  unfold L47B at h
  exact (splitK h (fun d0 h => (splitK h (fun d1 h => (chkK rfl h (fun s0 h => chkK rfl h (fun s1 h => (by cases h))))) (fun d1 h => (chkK rfl h (fun s0 h => chkK rfl h (fun s1 h => L47_2 w v l n  x7 x8 d0 d1 s0 s1 (ih (x7) (iadd .i64 x8 1)  h))))))) (fun d0 h => ((by cases h; exact L47_3 w v l n  x7 x8 d0))))
theorem L471 (w : Bool) (v : Bool) (l : List (El sR)) (n : Int) : ∀ (fuel : Nat) (x7 : Int) (x8 : Int) (_ : L47L w v l n  fuel  x7 x8 = some (1, 0)), ARun Try.prog 2 (.loop (lp Try.f47 0)) (L47S w v l n  x7 x8) (L47H w v l n  x7 x8) (AExit.exit 0) (L47T1 w v l n ) (L47U1 w v l n )
  | 0, _, _, h => by cases h
  | fuel + 1, x7, x8, h => L47P1 w v l n fuel (L471 w v l n fuel)  x7 x8  (by rw [L47LK] at h; exact h)
theorem f47_1 (w : Bool) (v : Bool) (l : List (El sR)) (n : Int) (L470_0_c : Nat) (L470_0_fuel : Nat) (L470_0_o0 : Int)  (d0 : (Nat.beq L470_0_c 0) = true) (L470_0_h0 : ((Nat.beq L470_0_c 0) = true) → (L47L w v l n L470_0_fuel (nlen (lenR sR l)) 0) = (some (0, L470_0_o0))) : ACalls Try.prog 47 [AV.sw 0 2, AV.fn (Fn.func 67) [AV.ptr 1 0]] [AObj.rows w sR l, AObj.cells 0 v [AV.v (.int .i64 n)]] (AV.v (.int .i64 L470_0_o0)) [] [] :=
  ACalls.nb (res := AV.v (.int .i64 L470_0_o0)) (.of_out [Orc.loop [0, 1, 4, 7, 8] [0, 1] AExit.ret (tg [(4, AV.v (.int .i64 L470_0_o0))] 14) [AObj.rows w sR l, AObj.cells 0 v [AV.v (.int .i64 n)]]] [0, 1] [_] Try.func47 (by kernel_rfl) (by kernel_rfl) (.cons (L470 _ _ _ _ _ _ _ _ (L470_0_h0 d0)) .nil))
theorem f47_2 (w : Bool) (v : Bool) (l : List (El sR)) (n : Int) (L470_0_c : Nat) (L470_0_fuel1 : Nat)  (d0 : (Nat.beq L470_0_c 0) = false) (L470_0_h1 : ((Nat.beq L470_0_c 0) = false) → (L47L w v l n L470_0_fuel1 (nlen (lenR sR l)) 0) = (some (1, 0))) : ACalls Try.prog 47 [AV.sw 0 2, AV.fn (Fn.func 67) [AV.ptr 1 0]] [AObj.rows w sR l, AObj.cells 0 v [AV.v (.int .i64 n)]] (AV.v (.int .i64 (-1))) [] [] :=
  ACalls.nb (res := AV.v (.int .i64 (-1))) (.of_out [Orc.loop [0, 1, 4, 7, 8] [0, 1] (AExit.exit 0) (tg [(4, AV.v (.int .i64 0))] 14) [AObj.rows w sR l, AObj.cells 0 v [AV.v (.int .i64 n)]]] [0, 1] [_] Try.func47 (by kernel_rfl) (by kernel_rfl) (.cons (L471 _ _ _ _ _ _ _ (L470_0_h1 d0)) .nil))
theorem f47 (w : Bool) (v : Bool) (l : List (El sR)) (n : Int) (L470_0_c : Nat) (L470_0_fuel : Nat) (L470_0_o0 : Int) (L470_0_fuel1 : Nat) (L470_0_h0 : ((Nat.beq L470_0_c 0) = true) → (L47L w v l n L470_0_fuel (nlen (lenR sR l)) 0) = (some (0, L470_0_o0))) (L470_0_h1 : ((Nat.beq L470_0_c 0) = false) → (L47L w v l n L470_0_fuel1 (nlen (lenR sR l)) 0) = (some (1, 0))) : ACalls Try.prog 47 [AV.sw 0 2, AV.fn (Fn.func 67) [AV.ptr 1 0]] [AObj.rows w sR l, AObj.cells 0 v [AV.v (.int .i64 n)]] (AV.v (.int .i64 (bif (Nat.beq L470_0_c 0) then L470_0_o0 else (-1)))) [] [] := by
  have h := (ACalls.cond (Nat.beq L470_0_c 0) (fun d0 => (f47_1 w v l n L470_0_c L470_0_fuel L470_0_o0 d0 L470_0_h0)) (fun d0 => (f47_2 w v l n L470_0_c L470_0_fuel1 d0 L470_0_h1)))
  simp only [c_int, c_bool, c_str, c_agg, c_tup, c_fn, c_ifc, c_sl, c_pe, c_ptr, c_rows, c_siter, c_consA, c_consU, c_consO, c_cells, c_ints, c_bools, c_strs, c_same] at h
  exact h
end Go.Proofs.Ytffoldigaififaa.Sk

set_option maxRecDepth 100000
set_option linter.all false
set_option maxHeartbeats 4000000
set_option linter.unusedSimpArgs false
set_option linter.unusedVariables false
namespace Go.Proofs.Ytffoldigaififaa.Sk
open Go.Abs
def smR (l : List (El sR)) : Bool := decide (l.length ≤ 100000)
theorem getR_get {l : List (El sR)} {i : Nat} (h : i < l.length) : getR sR l (idxN 0 (i : Int)) = l[i] := by
  unfold getR idxN; rw [Int.toNat_natCast, Nat.zero_add, List.getD_eq_getElem?_getD, List.getElem?_eq_getElem h]; rfl
theorem ad1 {i : Nat} (h : i ≤ 1000000) : iadd .i64 (i : Int) 1 = ((i + 1 : Nat) : Int) := by unfold iadd; rw [w_i64_in (by omega)]; omega
theorem inR {l : List (El sR)} {i : Nat} (h : i < l.length) : decide (inB (i : Int) (lenR sR l)) = true ∧ decide (ltN (idxN 0 (i : Int)) (lenR sR l)) = true :=
  ⟨decide_eq_true (by unfold inB lenR; omega), decide_eq_true (by unfold ltN idxN lenR; omega)⟩
/-- the first place at which p holds, or -1 -/
def ixF (p : El sR → Bool) : List (El sR) → Nat → Int
  | [], _ => -1
  | r :: l, i => bif p r then (i : Int) else ixF p l (i + 1)
theorem ixF_in (p : El sR → Bool) : ∀ (l : List (El sR)) (i : Nat), ixF p l i = -1 ∨ (∃ j : Nat, ixF p l i = ((i + j : Nat) : Int) ∧ j < l.length)
  | [], i => .inl rfl
  | r :: l, i => by
    unfold ixF
    cases p r with
    | true => exact .inr ⟨0, rfl, by simp⟩
    | false =>
      rcases ixF_in p l (i + 1) with h | ⟨j, h, hj⟩
      · exact .inl h
      · exact .inr ⟨j + 1, by simp only [cond_false]; rw [h]; omega, by simp; omega⟩
def ixT (n : Int) (l : List (El sR)) : Int := ixF (fun r => ilt n r.2) l 0
theorem l47 (w v : Bool) (l : List (El sR)) (n : Int) (hl : l.length ≤ 100000) : ∀ (j i : Nat), i + j = l.length →
    (ixF (fun r => ilt n r.2) (l.drop i) i = -1 ∧ L47L w v l n (j + 1) (nlen (lenR sR l)) (i : Int) = some (1, 0)) ∨
      (0 ≤ ixF (fun r => ilt n r.2) (l.drop i) i ∧ L47L w v l n (j + 1) (nlen (lenR sR l)) (i : Int) = some (0, ixF (fun r => ilt n r.2) (l.drop i) i))
  | 0, i, h => by
    have e0 : ilt (i : Int) (nlen (lenR sR l)) = false := by rw [ilt_d]; exact decide_eq_false (by unfold nlen lenR; omega)
    rw [L47LK]; unfold L47B; rw [e0, List.drop_eq_nil_of_le (by omega)]; exact .inl ⟨rfl, rfl⟩
  | j + 1, i, h => by
    have hi : i < l.length := by omega
    have e0 : ilt (i : Int) (nlen (lenR sR l)) = true := by rw [ilt_d]; exact decide_eq_true (by unfold nlen lenR; omega)
    rw [L47LK]; unfold L47B
    rw [e0, (inR hi).1, (inR hi).2, ad1 (by omega), getR_get hi, List.drop_eq_getElem_cons hi]
    unfold ixF
    cases hc : ilt n (l[i]).2 with
    | true => exact .inr ⟨by simp only [hc, cond_true]; omega, by simp only [hc, cond_true]; rfl⟩
    | false =>
      have := l47 w v l n hl j (i + 1) (by omega)
      simp only [hc, cond_false, cond_true]
      exact this
theorem g47t (w v : Bool) (l : List (El sR)) (n : Int) (h : smR l = true) : ACalls Try.prog 47 [AV.sw 0 2, AV.fn (Fn.func 67) [AV.ptr 1 0]] [AObj.rows w sR l, AObj.cells 0 v [AV.v (.int .i64 n)]] (AV.v (.int .i64 (ixT n l))) [] [] := by
  have hl : l.length ≤ 100000 := of_decide_eq_true h
  have key := l47 w v l n hl l.length 0 (by omega)
  rw [List.drop_zero] at key
  rcases key with ⟨e, k⟩ | ⟨e, k⟩
  · have := f47 w v l n 1 0 0 (l.length + 1) (fun h => by simp at h) (fun _ => k)
    rw [show ixT n l = -1 from e]; exact this
  · have := f47 w v l n 0 (l.length + 1) (ixT n l) 0 (fun _ => k) (fun h => by simp at h)
    exact this
def f51r0 (w : Bool) (v : Bool) (l : List (El sR)) (n : Int) : Int := bif (ilt (ixT n l) 0) then 0 else (bif (ilt n ((getR sR l (idxN 0 (ixT n l))).1)) then 0 else ((getR sR l (idxN 0 (ixT n l))).1))
def f51r1 (w : Bool) (v : Bool) (l : List (El sR)) (n : Int) : Int := bif (ilt (ixT n l) 0) then 0 else (bif (ilt n ((getR sR l (idxN 0 (ixT n l))).1)) then 0 else ((getR sR l (idxN 0 (ixT n l))).2))
def f51r2 (w : Bool) (v : Bool) (l : List (El sR)) (n : Int) : Bool := bif (ilt (ixT n l) 0) then false else (bif (ilt n ((getR sR l (idxN 0 (ixT n l))).1)) then false else true)
theorem f51_1 (w : Bool) (v : Bool) (l : List (El sR)) (n : Int)  (d0 : (ilt (ixT n l) 0) = true) (s0 : (smR l) = true) : ACalls Try.prog 51 [AV.ptr 0 0, AV.v (.int .i64 n)] [AObj.cells 0 w [AV.sw 1 2], AObj.rows v sR l] (AV.tup [AV.agg [AV.v (.int .i64 0), AV.v (.int .i64 0)], AV.v (Value.bool false)]) [] [] :=
  ACalls.nb (res := AV.tup [AV.agg [AV.v (.int .i64 0), AV.v (.int .i64 0)], AV.v (Value.bool false)]) (.of_out [Orc.call [1, 2] (AV.v (.int .i64 (ixT n l))) [] [], Orc.br true, Orc.br true] [0, 1] [ACalls Try.prog 47 [AV.sw 0 2, AV.fn (Fn.func 67) [AV.ptr 1 0]] [AObj.rows v sR l, AObj.cells 0 true [AV.v (.int .i64 n)]] (AV.v (.int .i64 (ixT n l))) [] [], Mixed Try.prog, isB (ilt (ixT n l) 0) true, isB true true] Try.func51 (by kernel_rfl) (by kernel_rfl) (.cons (by apply g47t <;> (first | exact (s0))) (.cons (by show _ = _; kernel_rfl) (.cons d0 (.cons (by show _ = _; kernel_rfl) .nil)))))
theorem f51_2 (w : Bool) (v : Bool) (l : List (El sR)) (n : Int)  (d0 : (ilt (ixT n l) 0) = false) (d1 : (ilt n ((getR sR l (idxN 0 (ixT n l))).1)) = true) (s0 : (smR l) = true) (s1 : ((ilt (ixT n l) 0) = false) → inB (ixT n l) (lenR sR l)) (s2 : ((ilt (ixT n l) 0) = false) → ltN (idxN 0 (ixT n l)) (lenR sR l)) : ACalls Try.prog 51 [AV.ptr 0 0, AV.v (.int .i64 n)] [AObj.cells 0 w [AV.sw 1 2], AObj.rows v sR l] (AV.tup [AV.agg [AV.v (.int .i64 0), AV.v (.int .i64 0)], AV.v (Value.bool false)]) [] [] :=
  ACalls.nb (res := AV.tup [AV.agg [AV.v (.int .i64 0), AV.v (.int .i64 0)], AV.v (Value.bool false)]) (.of_out [Orc.call [1, 2] (AV.v (.int .i64 (ixT n l))) [] [], Orc.br false, Orc.br true] [0, 1] [ACalls Try.prog 47 [AV.sw 0 2, AV.fn (Fn.func 67) [AV.ptr 1 0]] [AObj.rows v sR l, AObj.cells 0 true [AV.v (.int .i64 n)]] (AV.v (.int .i64 (ixT n l))) [] [], Mixed Try.prog, isB (ilt (ixT n l) 0) false, inB (ixT n l) (lenR sR l), ltN (idxN 0 (ixT n l)) (lenR sR l), isB (ilt n ((getR sR l (idxN 0 (ixT n l))).1)) true] Try.func51 (by kernel_rfl) (by kernel_rfl) (.cons (by apply g47t <;> (first | exact (s0))) (.cons (by show _ = _; kernel_rfl) (.cons d0 (.cons (s1 d0) (.cons (s2 d0) (.cons d1 .nil)))))))
theorem f51_3 (w : Bool) (v : Bool) (l : List (El sR)) (n : Int)  (d0 : (ilt (ixT n l) 0) = false) (d1 : (ilt n ((getR sR l (idxN 0 (ixT n l))).1)) = false) (s0 : (smR l) = true) (s1 : ((ilt (ixT n l) 0) = false) → inB (ixT n l) (lenR sR l)) (s2 : ((ilt (ixT n l) 0) = false) → ltN (idxN 0 (ixT n l)) (lenR sR l)) (s3 : ((ilt (ixT n l) 0) = false) → ((ilt n ((getR sR l (idxN 0 (ixT n l))).1)) = false) → inB (ixT n l) (lenR sR l)) (s4 : ((ilt (ixT n l) 0) = false) → ((ilt n ((getR sR l (idxN 0 (ixT n l))).1)) = false) → ltN (idxN 0 (ixT n l)) (lenR sR l)) : ACalls Try.prog 51 [AV.ptr 0 0, AV.v (.int .i64 n)] [AObj.cells 0 w [AV.sw 1 2], AObj.rows v sR l] (AV.tup [AV.agg [AV.v (.int .i64 ((getR sR l (idxN 0 (ixT n l))).1)), AV.v (.int .i64 ((getR sR l (idxN 0 (ixT n l))).2))], AV.v (Value.bool true)]) [] [] :=
  ACalls.nb (res := AV.tup [AV.agg [AV.v (.int .i64 ((getR sR l (idxN 0 (ixT n l))).1)), AV.v (.int .i64 ((getR sR l (idxN 0 (ixT n l))).2))], AV.v (Value.bool true)]) (.of_out [Orc.call [1, 2] (AV.v (.int .i64 (ixT n l))) [] [], Orc.br false, Orc.br false] [0, 1] [ACalls Try.prog 47 [AV.sw 0 2, AV.fn (Fn.func 67) [AV.ptr 1 0]] [AObj.rows v sR l, AObj.cells 0 true [AV.v (.int .i64 n)]] (AV.v (.int .i64 (ixT n l))) [] [], Mixed Try.prog, isB (ilt (ixT n l) 0) false, inB (ixT n l) (lenR sR l), ltN (idxN 0 (ixT n l)) (lenR sR l), isB (ilt n ((getR sR l (idxN 0 (ixT n l))).1)) false, inB (ixT n l) (lenR sR l), ltN (idxN 0 (ixT n l)) (lenR sR l)] Try.func51 (by kernel_rfl) (by kernel_rfl) (.cons (by apply g47t <;> (first | exact (s0))) (.cons (by show _ = _; kernel_rfl) (.cons d0 (.cons (s1 d0) (.cons (s2 d0) (.cons d1 (.cons (s3 d0 d1) (.cons (s4 d0 d1) .nil)))))))))
theorem f51 (w : Bool) (v : Bool) (l : List (El sR)) (n : Int) (s0 : (smR l) = true) (s1 : ((ilt (ixT n l) 0) = false) → inB (ixT n l) (lenR sR l)) (s2 : ((ilt (ixT n l) 0) = false) → ltN (idxN 0 (ixT n l)) (lenR sR l)) (s3 : ((ilt (ixT n l) 0) = false) → ((ilt n ((getR sR l (idxN 0 (ixT n l))).1)) = false) → inB (ixT n l) (lenR sR l)) (s4 : ((ilt (ixT n l) 0) = false) → ((ilt n ((getR sR l (idxN 0 (ixT n l))).1)) = false) → ltN (idxN 0 (ixT n l)) (lenR sR l)) : ACalls Try.prog 51 [AV.ptr 0 0, AV.v (.int .i64 n)] [AObj.cells 0 w [AV.sw 1 2], AObj.rows v sR l] (AV.tup [AV.agg [AV.v (.int .i64 (f51r0 w v l n)), AV.v (.int .i64 (f51r1 w v l n))], AV.v (Value.bool (f51r2 w v l n))]) [] [] := by
  have h := (ACalls.cond (ilt (ixT n l) 0) (fun d0 => (f51_1 w v l n d0 s0)) (fun d0 => (ACalls.cond (ilt n ((getR sR l (idxN 0 (ixT n l))).1)) (fun d1 => (f51_2 w v l n d0 d1 s0 s1 s2)) (fun d1 => (f51_3 w v l n d0 d1 s0 s1 s2 s3 s4)))))
  simp only [c_int, c_bool, c_str, c_agg, c_tup, c_fn, c_ifc, c_sl, c_pe, c_ptr, c_rows, c_siter, c_consA, c_consU, c_consO, c_cells, c_ints, c_bools, c_strs, c_same] at h
  exact h
end Go.Proofs.Ytffoldigaififaa.Sk

set_option maxRecDepth 100000
set_option linter.all false
set_option maxHeartbeats 4000000
set_option linter.unusedSimpArgs false
set_option linter.unusedVariables false
namespace Go.Proofs.Ytffoldigaififaa.Sk
open Go.Abs
def fdA (l : List (El sR)) (n : Int) : Int := f51r0 true true l n
def fdB (l : List (El sR)) (n : Int) : Int := f51r1 true true l n
def fdI (l : List (El sR)) (n : Int) : Bool := f51r2 true true l n
theorem ixT_in {l : List (El sR)} {n : Int} (h : ilt (ixT n l) 0 = false) : inB (ixT n l) (lenR sR l) ∧ ltN (idxN 0 (ixT n l)) (lenR sR l) := by
  rw [ilt_d, decide_eq_false_iff_not] at h
  rcases ixF_in (fun r => ilt n r.2) l 0 with e | ⟨j, e, hj⟩
  · exact absurd (show ixT n l < 0 from by unfold ixT; omega) h
  · have e : ixT n l = ((0 + j : Nat) : Int) := e
    rw [e]
    exact ⟨⟨by omega, by unfold lenR; omega⟩, by unfold ltN idxN lenR; omega⟩
theorem g51 (w v : Bool) (l : List (El sR)) (n : Int) (h : smR l = true) : ACalls Try.prog 51 [AV.ptr 0 0, AV.v (.int .i64 n)] [AObj.cells 0 w [AV.sw 1 2], AObj.rows v sR l] (AV.tup [AV.agg [AV.v (.int .i64 (fdA l n)), AV.v (.int .i64 (fdB l n))], AV.v (Value.bool (fdI l n))]) [] [] :=
  f51 w v l n h (fun e => (ixT_in e).1) (fun e => (ixT_in e).2) (fun e _ => (ixT_in e).1) (fun e _ => (ixT_in e).2)
theorem f29_1 (w : Bool) (v : Bool) (l : List (El sR)) (n : Int)  (s0 : (smR l) = true) : ACalls Try.prog 29 [AV.ptr 0 0, AV.v (.int .i64 n)] [AObj.cells 0 w [AV.sw 1 2], AObj.rows v sR l] (AV.v (Value.bool (fdI l n))) [] [] :=
  ACalls.nb (res := AV.v (Value.bool (fdI l n))) (.of_out [Orc.call [0, 1] (AV.tup [AV.agg [AV.v (.int .i64 (fdA l n)), AV.v (.int .i64 (fdB l n))], AV.v (Value.bool (fdI l n))]) [] []] [0, 1] [ACalls Try.prog 51 [AV.ptr 0 0, AV.v (.int .i64 n)] [AObj.cells 0 w [AV.sw 1 2], AObj.rows v sR l] (AV.tup [AV.agg [AV.v (.int .i64 (fdA l n)), AV.v (.int .i64 (fdB l n))], AV.v (Value.bool (fdI l n))]) [] []] Try.func29 (by kernel_rfl) (by kernel_rfl) (.cons (by apply g51 <;> (first | exact (s0))) .nil))
theorem f29 (w : Bool) (v : Bool) (l : List (El sR)) (n : Int) (s0 : (smR l) = true) : ACalls Try.prog 29 [AV.ptr 0 0, AV.v (.int .i64 n)] [AObj.cells 0 w [AV.sw 1 2], AObj.rows v sR l] (AV.v (Value.bool (fdI l n))) [] [] := (f29_1 w v l n s0)
def f33r0 (w : Bool) (v : Bool) (l : List (El sR)) (n : Int) : Int := bif (fdI l (imax n 0)) then (fdB l (imax n 0)) else (imax n 0)
theorem f33_1 (w : Bool) (v : Bool) (l : List (El sR)) (n : Int)  (d0 : (fdI l (imax n 0)) = true) (s0 : (smR l) = true) : ACalls Try.prog 33 [AV.ptr 0 0, AV.v (.int .i64 n)] [AObj.cells 0 w [AV.sw 1 2], AObj.rows v sR l] (AV.v (.int .i64 (fdB l (imax n 0)))) [] [] :=
  ACalls.nb (res := AV.v (.int .i64 (fdB l (imax n 0)))) (.of_out [Orc.call [0, 1] (AV.tup [AV.agg [AV.v (.int .i64 (fdA l (imax n 0))), AV.v (.int .i64 (fdB l (imax n 0)))], AV.v (Value.bool (fdI l (imax n 0)))]) [] [], Orc.br true] [0, 1] [ACalls Try.prog 51 [AV.ptr 0 0, AV.v (.int .i64 (imax n 0))] [AObj.cells 0 w [AV.sw 1 2], AObj.rows v sR l] (AV.tup [AV.agg [AV.v (.int .i64 (fdA l (imax n 0))), AV.v (.int .i64 (fdB l (imax n 0)))], AV.v (Value.bool (fdI l (imax n 0)))]) [] [], isB (fdI l (imax n 0)) true] Try.func33 (by kernel_rfl) (by kernel_rfl) (.cons (by apply g51 <;> (first | exact (s0))) (.cons d0 .nil)))
theorem f33_2 (w : Bool) (v : Bool) (l : List (El sR)) (n : Int)  (d0 : (fdI l (imax n 0)) = false) (s0 : (smR l) = true) : ACalls Try.prog 33 [AV.ptr 0 0, AV.v (.int .i64 n)] [AObj.cells 0 w [AV.sw 1 2], AObj.rows v sR l] (AV.v (.int .i64 (imax n 0))) [] [] :=
  ACalls.nb (res := AV.v (.int .i64 (imax n 0))) (.of_out [Orc.call [0, 1] (AV.tup [AV.agg [AV.v (.int .i64 (fdA l (imax n 0))), AV.v (.int .i64 (fdB l (imax n 0)))], AV.v (Value.bool (fdI l (imax n 0)))]) [] [], Orc.br false] [0, 1] [ACalls Try.prog 51 [AV.ptr 0 0, AV.v (.int .i64 (imax n 0))] [AObj.cells 0 w [AV.sw 1 2], AObj.rows v sR l] (AV.tup [AV.agg [AV.v (.int .i64 (fdA l (imax n 0))), AV.v (.int .i64 (fdB l (imax n 0)))], AV.v (Value.bool (fdI l (imax n 0)))]) [] [], isB (fdI l (imax n 0)) false] Try.func33 (by kernel_rfl) (by kernel_rfl) (.cons (by apply g51 <;> (first | exact (s0))) (.cons d0 .nil)))
theorem f33 (w : Bool) (v : Bool) (l : List (El sR)) (n : Int) (s0 : (smR l) = true) : ACalls Try.prog 33 [AV.ptr 0 0, AV.v (.int .i64 n)] [AObj.cells 0 w [AV.sw 1 2], AObj.rows v sR l] (AV.v (.int .i64 (f33r0 w v l n))) [] [] := by
  have h := (ACalls.cond (fdI l (imax n 0)) (fun d0 => (f33_1 w v l n d0 s0)) (fun d0 => (f33_2 w v l n d0 s0)))
  simp only [c_int, c_bool, c_str, c_agg, c_tup, c_fn, c_ifc, c_sl, c_pe, c_ptr, c_rows, c_siter, c_consA, c_consU, c_consO, c_cells, c_ints, c_bools, c_strs, c_same] at h
  exact h
def L31S (w : Bool) (v : Bool) (l : List (El sR)) (n : Int) (x14 : Int) (x5 : Int) (x15 : Int) : Tm := (tg [(1, AV.v (.int .i64 n)), (2, AV.v (.int .i64 0)), (0, AV.v (.int .i64 x5)), (7, AV.sw 1 2), (0, AV.v (.int .i64 x14)), (0, AV.v (.int .i64 x15))] 25)
def L31H (w : Bool) (v : Bool) (l : List (El sR)) (n : Int) (x14 : Int) (x5 : Int) (x15 : Int) : List AObj := [AObj.cells 0 w [AV.sw 1 2], AObj.rows v sR l]
def L31T (w : Bool) (v : Bool) (l : List (El sR)) (n : Int) (o0 : Int) : Tm := (tg [(4, AV.v (.int .i64 0)), (0, AV.v (.int .i64 o0))] 35)
def L31U (w : Bool) (v : Bool) (l : List (El sR)) (n : Int) (o0 : Int) : List AObj := [AObj.cells 0 w [AV.sw 1 2], AObj.rows v sR l]
theorem L31_1 (w : Bool) (v : Bool) (l : List (El sR)) (n : Int) (x14 : Int) (x5 : Int) (x15 : Int)  (d0 : (ilt x15 x14) = true) (d1 : (ilt n ((getR sR l (idxN 0 x15)).1)) = true) (s0 : inB x15 (lenR sR l)) (s1 : ltN (idxN 0 x15) (lenR sR l)) {e : AExit} {tm2 : Tm} {h2 : List AObj} (b : ARun Try.prog 2 (.loop (lp Try.f31 0)) (L31S w v l n  (x14) (iadd .i64 x5 (isub .i64 ((getR sR l (idxN 0 x15)).2) ((getR sR l (idxN 0 x15)).1))) (iadd .i64 x15 1)) (L31H w v l n  (x14) (iadd .i64 x5 (isub .i64 ((getR sR l (idxN 0 x15)).2) ((getR sR l (idxN 0 x15)).1))) (iadd .i64 x15 1)) e tm2 h2) : ARun Try.prog 2 (.loop (lp Try.f31 0)) (L31S w v l n  x14 x5 x15) (L31H w v l n  x14 x5 x15) e tm2 h2 :=
  .round [Orc.br true, Orc.br true, Orc.call [] (AV.v (.int .i64 (isub .i64 ((getR sR l (idxN 0 x15)).2) ((getR sR l (idxN 0 x15)).1)))) [] []] [1, 4, 5, 13, 14, 15] [0, 1] [isB (ilt x15 x14) true, inB x15 (lenR sR l), ltN (idxN 0 x15) (lenR sR l), isB (ilt n ((getR sR l (idxN 0 x15)).1)) true, ACalls Try.prog 52 [AV.agg [AV.v (.int .i64 ((getR sR l (idxN 0 x15)).1)), AV.v (.int .i64 ((getR sR l (idxN 0 x15)).2))]] [] (AV.v (.int .i64 (isub .i64 ((getR sR l (idxN 0 x15)).2) ((getR sR l (idxN 0 x15)).1)))) [] []] (by kernel_rfl) (.cons d0 (.cons (s0) (.cons (s1) (.cons d1 (.cons (by apply f52) .nil))))) b
theorem L31_2 (w : Bool) (v : Bool) (l : List (El sR)) (n : Int) (x14 : Int) (x5 : Int) (x15 : Int)  (d0 : (ilt x15 x14) = true) (d1 : (ilt n ((getR sR l (idxN 0 x15)).1)) = false) (d2 : (ilt n (isub .i64 ((getR sR l (idxN 0 x15)).2) 1)) = true) (s0 : inB x15 (lenR sR l)) (s1 : ltN (idxN 0 x15) (lenR sR l)) {e : AExit} {tm2 : Tm} {h2 : List AObj} (b : ARun Try.prog 2 (.loop (lp Try.f31 0)) (L31S w v l n  (x14) (iadd .i64 x5 (isub .i64 (isub .i64 ((getR sR l (idxN 0 x15)).2) 1) n)) (iadd .i64 x15 1)) (L31H w v l n  (x14) (iadd .i64 x5 (isub .i64 (isub .i64 ((getR sR l (idxN 0 x15)).2) 1) n)) (iadd .i64 x15 1)) e tm2 h2) : ARun Try.prog 2 (.loop (lp Try.f31 0)) (L31S w v l n  x14 x5 x15) (L31H w v l n  x14 x5 x15) e tm2 h2 :=
  .round [Orc.br true, Orc.br false, Orc.br true] [1, 4, 5, 13, 14, 15] [0, 1] [isB (ilt x15 x14) true, inB x15 (lenR sR l), ltN (idxN 0 x15) (lenR sR l), isB (ilt n ((getR sR l (idxN 0 x15)).1)) false, isB (ilt n (isub .i64 ((getR sR l (idxN 0 x15)).2) 1)) true] (by kernel_rfl) (.cons d0 (.cons (s0) (.cons (s1) (.cons d1 (.cons d2 .nil))))) b
theorem L31_3 (w : Bool) (v : Bool) (l : List (El sR)) (n : Int) (x14 : Int) (x5 : Int) (x15 : Int)  (d0 : (ilt x15 x14) = true) (d1 : (ilt n ((getR sR l (idxN 0 x15)).1)) = false) (d2 : (ilt n (isub .i64 ((getR sR l (idxN 0 x15)).2) 1)) = false) (s0 : inB x15 (lenR sR l)) (s1 : ltN (idxN 0 x15) (lenR sR l)) {e : AExit} {tm2 : Tm} {h2 : List AObj} (b : ARun Try.prog 2 (.loop (lp Try.f31 0)) (L31S w v l n  (x14) (x5) (iadd .i64 x15 1)) (L31H w v l n  (x14) (x5) (iadd .i64 x15 1)) e tm2 h2) : ARun Try.prog 2 (.loop (lp Try.f31 0)) (L31S w v l n  x14 x5 x15) (L31H w v l n  x14 x5 x15) e tm2 h2 :=
  .round [Orc.br true, Orc.br false, Orc.br false] [1, 4, 5, 13, 14, 15] [0, 1] [isB (ilt x15 x14) true, inB x15 (lenR sR l), ltN (idxN 0 x15) (lenR sR l), isB (ilt n ((getR sR l (idxN 0 x15)).1)) false, isB (ilt n (isub .i64 ((getR sR l (idxN 0 x15)).2) 1)) false] (by kernel_rfl) (.cons d0 (.cons (s0) (.cons (s1) (.cons d1 (.cons d2 .nil))))) b
theorem L31_4 (w : Bool) (v : Bool) (l : List (El sR)) (n : Int) (x14 : Int) (x5 : Int) (x15 : Int)  (d0 : (ilt x15 x14) = false) : ARun Try.prog 2 (.loop (lp Try.f31 0)) (L31S w v l n  x14 x5 x15) (L31H w v l n  x14 x5 x15) (AExit.exit 0) (L31T w v l n  (x5)) (L31U w v l n  (x5)) :=
  .last [Orc.br false] [4, 5] [0, 1] [isB (ilt x15 x14) false] (by kernel_rfl) (.cons d0 .nil)
def L31B (w : Bool) (v : Bool) (l : List (El sR)) (n : Int) (x14 : Int) (x5 : Int) (x15 : Int) : Option (((Int) × (Int) × (Int)) ⊕ ((Int))) := (bif ilt x15 x14 then (bif ilt n ((getR sR l (idxN 0 x15)).1) then bif decide (inB x15 (lenR sR l)) then bif decide (ltN (idxN 0 x15) (lenR sR l)) then some (.inl (x14, iadd .i64 x5 (isub .i64 ((getR sR l (idxN 0 x15)).2) ((getR sR l (idxN 0 x15)).1)), iadd .i64 x15 1)) else none else none else (bif ilt n (isub .i64 ((getR sR l (idxN 0 x15)).2) 1) then bif decide (inB x15 (lenR sR l)) then bif decide (ltN (idxN 0 x15) (lenR sR l)) then some (.inl (x14, iadd .i64 x5 (isub .i64 (isub .i64 ((getR sR l (idxN 0 x15)).2) 1) n), iadd .i64 x15 1)) else none else none else bif decide (inB x15 (lenR sR l)) then bif decide (ltN (idxN 0 x15) (lenR sR l)) then some (.inl (x14, x5, iadd .i64 x15 1)) else none else none)) else some (.inr (x5)))
def L31L (w : Bool) (v : Bool) (l : List (El sR)) (n : Int) : Nat → Int → Int → Int → Option ((Int))
  | 0, _, _, _ => none
  | fuel + 1, x14, x5, x15 => match L31B w v l n  x14 x5 x15 with
    | none => none
    | some (.inl s) => L31L w v l n fuel s.1 s.2.1 s.2.2
    | some (.inr o) => some o
def L31K (w : Bool) (v : Bool) (l : List (El sR)) (n : Int) (fuel : Nat) : Option (((Int) × (Int) × (Int)) ⊕ ((Int))) → Option ((Int))
  | none => none
  | some (.inl s) => L31L w v l n fuel s.1 s.2.1 s.2.2
  | some (.inr o) => some o
theorem L31LK (w : Bool) (v : Bool) (l : List (El sR)) (n : Int) (fuel : Nat) (x14 : Int) (x5 : Int) (x15 : Int) : L31L w v l n (fuel + 1)  x14 x5 x15 = L31K w v l n fuel (L31B w v l n  x14 x5 x15) := by
  rw [L31L]; cases L31B w v l n  x14 x5 x15 with
  | none => rfl
  | some v => cases v <;> rfl
theorem L31P (w : Bool) (v : Bool) (l : List (El sR)) (n : Int) (fuel : Nat) (ih : ∀ (x14 : Int) (x5 : Int) (x15 : Int) (o0 : Int) (_ : L31L w v l n fuel  x14 x5 x15 = some (o0)), ARun Try.prog 2 (.loop (lp Try.f31 0)) (L31S w v l n  x14 x5 x15) (L31H w v l n  x14 x5 x15) (AExit.exit 0) (L31T w v l n  o0) (L31U w v l n  o0)) (x14 : Int) (x5 : Int) (x15 : Int) (o0 : Int) (h : L31K w v l n fuel (L31B w v l n  x14 x5 x15) = some (o0)) : ARun Try.prog 2 (.loop (lp Try.f31 0)) (L31S w v l n  x14 x5 x15) (L31H w v l n  x14 x5 x15) (AExit.exit 0) (L31T w v l n  o0) (L31U w v l n  o0) := by
  unfold L31B at h
  exact (splitK h (fun d0 h => (splitK h (fun d1 h => (chkK rfl h (fun s0 h => chkK rfl h (fun s1 h => L31_1 w v l n  x14 x5 x15 d0 d1 s0 s1 (ih (x14) (iadd .i64 x5 (isub .i64 ((getR sR l (idxN 0 x15)).2) ((getR sR l (idxN 0 x15)).1))) (iadd .i64 x15 1) o0 h))))) (fun d1 h => (splitK h (fun d2 h => (chkK rfl h (fun s0 h => chkK rfl h (fun s1 h => L31_2 w v l n  x14 x5 x15 d0 d1 d2 s0 s1 (ih (x14) (iadd .i64 x5 (isub .i64 (isub .i64 ((getR sR l (idxN 0 x15)).2) 1) n)) (iadd .i64 x15 1) o0 h))))) (fun d2 h => (chkK rfl h (fun s0 h => chkK rfl h (fun s1 h => L31_3 w v l n  x14 x5 x15 d0 d1 d2 s0 s1 (ih (x14) (x5) (iadd .i64 x15 1) o0 h))))))))) (fun d0 h => ((by cases h; exact L31_4 w v l n  x14 x5 x15 d0))))
theorem L31 (w : Bool) (v : Bool) (l : List (El sR)) (n : Int) : ∀ (fuel : Nat) (x14 : Int) (x5 : Int) (x15 : Int) (o0 : Int) (_ : L31L w v l n  fuel  x14 x5 x15 = some (o0)), ARun Try.prog 2 (.loop (lp Try.f31 0)) (L31S w v l n  x14 x5 x15) (L31H w v l n  x14 x5 x15) (AExit.exit 0) (L31T w v l n  o0) (L31U w v l n  o0)
  | 0, _, _, _, _, h => by cases h
  | fuel + 1, x14, x5, x15, o0, h => L31P w v l n fuel (L31 w v l n fuel)  x14 x5 x15  o0 (by rw [L31LK] at h; exact h)
theorem f31_1 (w : Bool) (v : Bool) (l : List (El sR)) (n : Int) (L31_0_fuel : Nat) (L31_0_o0 : Int)  (L31_0_h0 : (L31L w v l n L31_0_fuel (nlen (lenR sR l)) 0 0) = (some L31_0_o0)) : ACalls Try.prog 31 [AV.ptr 0 0, AV.v (.int .i64 n)] [AObj.cells 0 w [AV.sw 1 2], AObj.rows v sR l] (AV.v (.int .i64 L31_0_o0)) [] [] :=
  ACalls.nb (res := AV.v (.int .i64 L31_0_o0)) (.of_out [Orc.loop [1, 4, 5, 13, 14, 15] [0, 1] (AExit.exit 0) (tg [(4, AV.v (.int .i64 0)), (0, AV.v (.int .i64 L31_0_o0))] 35) [AObj.cells 0 w [AV.sw 1 2], AObj.rows v sR l]] [0, 1] [_] Try.func31 (by kernel_rfl) (by kernel_rfl) (.cons (L31 _ _ _ _ _ _ _ _ _ (L31_0_h0)) .nil))
theorem f31 (w : Bool) (v : Bool) (l : List (El sR)) (n : Int) (L31_0_fuel : Nat) (L31_0_o0 : Int) (L31_0_h0 : (L31L w v l n L31_0_fuel (nlen (lenR sR l)) 0 0) = (some L31_0_o0)) : ACalls Try.prog 31 [AV.ptr 0 0, AV.v (.int .i64 n)] [AObj.cells 0 w [AV.sw 1 2], AObj.rows v sR l] (AV.v (.int .i64 L31_0_o0)) [] [] := (f31_1 w v l n L31_0_fuel L31_0_o0 L31_0_h0)
end Go.Proofs.Ytffoldigaififaa.Sk

/- The board's iterator over what is not there. -/
set_option linter.all false
namespace Go.Proofs.Ytffoldigaififaa.Sk
open Go.Abs Go.RowKit Go.Shelf Go.Proofs
def Kept (p : Prop) : Prop := p
/-- the least number from n on that is not there -/
def hol (l : List (El sR)) (n : Int) : Int := bif fdI l (imax n 0) then fdB l (imax n 0) else imax n 0
theorem fdB_gt {l : List (El sR)} {n : Int} (h : fdI l n = true) : n < fdB l n := by
  unfold fdI f51r2 at h
  unfold fdB f51r1
  cases h1 : ilt (ixT n l) 0 with
  | true => rw [h1] at h; simp at h
  | false =>
    rw [h1] at h
    simp only [cond_false] at h ⊢
    cases h2 : ilt n (getR sR l (idxN 0 (ixT n l))).1 with
    | true => rw [h2] at h; simp at h
    | false =>
      simp only [cond_false]
      have key : ∀ (l : List (El sR)) (i : Nat), ixF (fun r => ilt n r.2) l i = -1 ∨ ∃ (j : Nat) (hj : j < l.length), ixF (fun r => ilt n r.2) l i = ((i + j : Nat) : Int) ∧ n < l[j].2 := by
        intro l
        induction l with
        | nil => intro i; exact .inl rfl
        | cons r l ih =>
          intro i
          unfold ixF
          cases hr : ilt n r.2 with
          | true => exact .inr ⟨0, by simp, rfl, by rw [ilt_d, decide_eq_true_eq] at hr; exact hr⟩
          | false =>
            rcases ih (i + 1) with h | ⟨j, hj, h, hn⟩
            · exact .inl h
            · exact .inr ⟨j + 1, by simpa using hj, by simp only [cond_false]; rw [h]; omega, by simpa using hn⟩
      rcases key l 0 with h | ⟨j, hj, h, hn⟩
      · rw [ilt_d, decide_eq_false_iff_not] at h1
        unfold ixT at h1; omega
      · have : ixT n l = (j : Int) := by unfold ixT; rw [h]; simp
        rw [this, getR_get hj]; exact hn
theorem imax_le (n : Int) : n ≤ imax n 0 ∧ 0 ≤ imax n 0 := by
  unfold imax; omega
theorem hol_ge (l : List (El sR)) (n : Int) : n ≤ hol l n ∧ 0 ≤ hol l n := by
  have := imax_le n
  unfold hol
  cases h : fdI l (imax n 0) with
  | false => exact this
  | true => have := fdB_gt h; simp only [cond_true]; omega
def hsF (l : List (El sR)) (h : Int) : Nat → Int → List Int
  | 0, _ => []
  | f + 1, n => if n < h then n :: hsF l h f (hol l (n + 1)) else []
/-- the numbers below h that are not there, from a on -/
def hsL (l : List (El sR)) (a h : Int) : List Int := hsF l h (h.toNat + 1) (hol l a)
def hcB (l : List (El sR)) (a h : Int) (m : List Int) : List AObj := [.cells 0 false [.v (.int .i64 a), .v (.int .i64 h), .ptr 1 0, .mp 2], .cells 0 false [.sw 3 2], .imap false m, .rows false sR l]
theorem hol_fact (l : List (El sR)) (n : Int) (s : smR l = true) : ACalls Try.prog 33 [AV.ptr 0 0, AV.v (.int .i64 n)] [AObj.cells 0 false [AV.sw 1 2], AObj.rows false sR l] (AV.v (.int .i64 (hol l n))) [] [] := f33 false false l n s
theorem _root_.Go.Abs.RelH.below' {P : Program} {σ : Sg} {h : List AObj} {w W : World} (hr : RelH P σ h w) (hb : Below w.heap.size w W) : RelH P σ h W := hr.below hb
set_option maxRecDepth 100000 in
set_option maxHeartbeats 4000000 in
theorem holes_y (l : List (El sR)) (a h : Int) (m : List Int) (s : smR l = true) (hh : h ≤ 2000000000000) : MvYields Try.prog 42 [.ptr 0 0] (hcB l a h m) (fun x : Int => [.int .i64 x]) (hsL l a h) := by
  refine ⟨⟨_, Try.func42, by kernel_rfl, by kernel_rfl⟩, fun σ w hf hr hw q J Jx W hb hJ hJx hY h0 => ?_⟩
  have hrW := hr.below hb
  have d0 : σ.dom 0 := (hf 0).2 (show 0 < 4 by decide)
  have d1 : σ.dom 1 := (hf 1).2 (show 1 < 4 by decide)
  have e33 : ∀ args w, (callFunc 33 args).run Try.prog w = .ok (.enter 33 args) w := enters_of Try.func33 (by kernel_rfl) rfl
  have two : ∀ {W' : World}, RelH Try.prog σ (hcB l a h m) W' → ∃ σ' : Sg, Full σ' [AObj.cells 0 false [.sw 1 2], .rows false sR l] ∧ RelH Try.prog σ' [AObj.cells 0 false [.sw 1 2], .rows false sR l] W' ∧ σ'.dom 0 ∧ den σ' (.ptr 0 0) = den σ (.ptr 1 0) := fun {W'} hr' => by
    refine ⟨σ.via [1, 3], fun b => Iff.rfl, hr'.via (fun b hb => (hf b).2 (by simp at hb; rcases hb with rfl | rfl; exact (show 1 < 4 by decide); exact (show 3 < 4 by decide))) (by decide) (by kernel_rfl), (show 0 < 2 by decide), rfl⟩
  have cellA : ∀ {W' : World}, RelH Try.prog σ (hcB l a h m) W' → W'.cell? ⟨σ.at_ 0, (σ.loc 0).off + 0, none⟩ = some (.int .i64 a) := fun hr' =>
    blk_cell hr' d0 (o := .cells 0 false [.v (.int .i64 a), .v (.int .i64 h), .ptr 1 0, .mp 2]) rfl rfl rfl (i := 0) rfl
  have cellH : ∀ {W' : World}, RelH Try.prog σ (hcB l a h m) W' → W'.cell? ⟨σ.at_ 0, (σ.loc 0).off + 0 + 1, none⟩ = some (.int .i64 h) := fun hr' =>
    blk_cell hr' d0 (o := .cells 0 false [.v (.int .i64 a), .v (.int .i64 h), .ptr 1 0, .mp 2]) rfl rfl rfl (i := 1) rfl
  have cellS : ∀ {W' : World}, RelH Try.prog σ (hcB l a h m) W' → W'.cell? ⟨σ.at_ 0, (σ.loc 0).off + 0 + 2, none⟩ = some (den σ (.ptr 1 0)) := fun hr' =>
    blk_cell hr' d0 (o := .cells 0 false [.v (.int .i64 a), .v (.int .i64 h), .ptr 1 0, .mp 2]) rfl rfl rfl (i := 2) rfl
  show CallsIn Fence.wide 3 Try.prog 42 #[.pointer (some ⟨σ.at_ 0, (σ.loc 0).off + 0, none⟩), .func (.yield q) #[] #[]] W _
  generalize hv : den σ (.ptr 1 0) = sv at two cellS
  generalize (σ.loc 0).off + 0 = oo at cellA cellH cellS ⊢
  generalize σ.at_ 0 = bb at cellA cellH cellS ⊢
  have c33 : ∀ {W' : World} {n : Int}, RelH Try.prog σ (hcB l a h m) W' → CallsIn Fence.wide 2 Try.prog 33 #[sv, .int .i64 n] W' fun e W2 => e = .returned (.int .i64 (hol l n)) ∧ W'.grownBy W2 none := fun {W' n} hr' => by
    obtain ⟨σ', f1, f2, f3, f4⟩ := two hr'
    have := (hol_fact l n s).quiet rfl f1 f2 (σ := σ') ⟨f3, trivial, trivial⟩
    rw [show (denL σ' [.ptr 0 0, .v (.int .i64 n)]).toArray = #[sv, .int .i64 n] by show #[den σ' (.ptr 0 0), den σ' (.v (.int .i64 n))] = _; rw [f4]; rfl] at this
    refine this.mono ?_
    rintro e W2 ⟨rfl, -, hg, -⟩
    exact ⟨rfl, hg⟩
  have hfn : ∀ f, Fence.wide.fn f := fun _ => trivial
  have hro : Fence.wide.round = none := rfl
  generalize Fence.wide = F at hY c33 hfn hro ⊢
  have f33' := hfn 33
  refine callsIn_of_wp Try.func42 rfl (hfn 42) ?_ hro
  simp only [Try.ntmps42, List.size_toArray, List.length_cons, List.length_nil, Nat.reduceAdd, Nat.reduceSub, Array.replicate_succ, Array.replicate_zero, List.push_toArray, List.append_toArray, List.nil_append, List.cons_append]
  have kA := cell_regrown (cellA hrW)
  have kS := cell_regrown (cellS hrW)
  have cQ : ∀ d os, CallsIn F 2 Try.prog 33 #[sv, .int .i64 a] (Go.Sort.grow (redrawn W d) os) fun e w'' => e = .returned (.int .i64 (hol l a)) ∧ ∃ p : Regrown, w'' = Go.Sort.grow (redrawn W p.d) p.os := fun d os =>
    CallsIn.regrown_of ((c33 (hrW.below' (below_regrown W d os))).mono fun e w' ⟨k1, k2⟩ => ⟨k1, k2.os, k2.tape, k2.output, k2.size, fun k hk => k2.block k hk (by simp)⟩)
  gi_wp2
  refine wpIn_region_quiet_below hro (by kernel_rfl) (by kernel_rfl) ?_
  repeat (quiet_step_in (first | exact ⟨hn, cQ _ _⟩ | exact cQ _ _))
  refine wpQuietIn_nil ?_
  intro _ hw'
  obtain ⟨⟨dq, osq⟩, hw''⟩ := hw'
  have hb1 := below_regrown W dq osq
  have hr1 := hrW.below' hb1
  have hj1 : J [] (Go.Sort.grow (redrawn W dq) osq) := hJ _ _ _ none h0 ⟨hb1.os, hb1.tape, hb1.output, hb1.size, fun k hk _ => hb1.block k hk⟩ (fun r e => by simp at e)
  rw [← hw''] at hr1 hj1
  clear hw'' kA kS cQ hb1
  gi_wp2
  gi_loopw [4] (fun i wr => ∃ (n : Int) (f : Nat) (pre : List Int), i = .int .i64 n ∧ 0 ≤ n ∧ (h - n).toNat < f ∧ pre ++ hsF l h f n = hsL l a h ∧ Kept (RelH Try.prog σ (hcB l a h m) wr) ∧ Kept (J pre wr)) (fun i _ => (h - intOf i).toNat)
  case atStart => exact ⟨hol l a, h.toNat + 1, [], rfl, (hol_ge l a).2, by have := (hol_ge l a).2; omega, rfl, hr1, hj1⟩
  case round =>
    obtain ⟨n, f, pre, rfl, hn0, hf1, hpre, HR, HJ⟩ := hrel
    have kH := cellH HR
    obtain ⟨f, rfl⟩ : ∃ g, f = g + 1 := ⟨f - 1, by omega⟩
    by_cases hlt : n < h
    · have hpx : pre ++ [n] <+: hsL l a h := ⟨hsF l h f (hol l (n + 1)), by rw [← hpre, hsF, if_pos hlt]; simp⟩
      gi_wp2
      obtain ⟨fn, tmps, assign, body, hy, hR⟩ := hY pre n _ HJ hpx
      rw [hy, Oper.uponIn_round]
      refine ⟨fun _ => by decide, hR.mono ?_⟩
      rintro e W3 (⟨rfl, hJ3, hk3⟩ | ⟨rfl, hJx3⟩)
      · have hr3 : Kept (RelH Try.prog σ (hcB l a h m) W3) := hk3 HR
        have kS3 := cellS hr3
        gi_wp2_with (gi_at_call 33; refine (c33 (n := n + 1) hr3).mono ?_; rintro e w2 ⟨rfl, hg2⟩)
        go_roundw
        case rel => exact ⟨hol l (n + 1), f, pre ++ [n], rfl, (hol_ge l (n + 1)).2, by have := (hol_ge l (n + 1)).1; omega, by rw [← hpre, hsF, if_pos hlt]; simp, RelH.grown2 hr3 hg2 (fun r e => by simp at e), hJ _ _ _ _ hJ3 hg2 (fun r e => by simp at e)⟩
        case measure => have := (hol_ge l (n + 1)).1; simp [intOf]; omega
      · gi_wp2
        refine bodyPost_ret (results_none rfl _ _ _) rfl ?_
        exact ⟨⟨_, rfl⟩, .inr ⟨pre ++ [n], ⟨by simp, hpx⟩, hJx3⟩⟩
    · gi_wp2
      go_end0
      refine ⟨⟨_, rfl⟩, .inl ?_⟩
      rw [hsF, if_neg (by omega), List.append_nil] at hpre
      rw [← hpre]; exact HJ
end Go.Proofs.Ytffoldigaififaa.Sk

set_option maxRecDepth 100000
set_option linter.all false
set_option maxHeartbeats 4000000
namespace Go.Proofs.Ytffoldigaififaa.Sk
open Go.Abs Go.Shelf
def df_ren : Go.Shelf.Ren := ⟨fun | 5 => 61 | n => n, fun | 23 => 80 | 24 => 4 | 26 => 2 | 27 => 106 | n => n, fun n => n⟩
theorem df_lays : SlLaysDf.n5 Try.prog df_ren := {
  mixed := by kernel_rfl
  f5 := ⟨"maps.DeleteFunc[map[int64]bool,int64,bool]", by decide, Try.func61.trans (congrArg some (by kernel_rfl))⟩
  t0 := Try.underlying0
  a0 := Try.isAgg0
  z0 := Try.sizeOf0
  v0 := Try.zeroValue0
  t4 := Try.underlying4
  a4 := Try.isAgg4
  z4 := Try.sizeOf4
  v4 := Try.zeroValue4
  t23 := Try.underlying80
  a23 := Try.isAgg80
  z23 := Try.sizeOf80
  v23 := Try.zeroValue80
  a24 := Try.isAgg4
  z24 := Try.sizeOf4
  a26 := Try.isAgg2
  z26 := Try.sizeOf2
  t27 := Try.underlying106
  a27 := Try.isAgg106
  z27 := Try.sizeOf106
  v27 := Try.zeroValue106 }
end Go.Proofs.Ytffoldigaififaa.Sk

set_option maxRecDepth 100000
set_option linter.all false
set_option maxHeartbeats 4000000
set_option linter.unusedSimpArgs false
set_option linter.unusedVariables false
namespace Go.Proofs.Ytffoldigaififaa.Sk
open Go.Abs
def abF (n : Int) : Int → List (El sR) → Int
  | s, [] => s
  | s, r :: l => abF n (bif ilt n r.1 then iadd .i64 s (isub .i64 r.2 r.1) else bif ilt n (isub .i64 r.2 1) then iadd .i64 s (isub .i64 (isub .i64 r.2 1) n) else s) l
def abR (l : List (El sR)) (n : Int) : Int := abF n 0 l
theorem l31 (w v : Bool) (l : List (El sR)) (n : Int) (hl : l.length ≤ 100000) : ∀ (j i : Nat) (s : Int), i + j = l.length → L31L w v l n (j + 1) (nlen (lenR sR l)) s (i : Int) = some (abF n s (l.drop i))
  | 0, i, s, h => by
    have e0 : ilt (i : Int) (nlen (lenR sR l)) = false := by rw [ilt_d]; exact decide_eq_false (by unfold nlen lenR; omega)
    rw [L31LK]; unfold L31B; rw [e0, List.drop_eq_nil_of_le (by omega)]; rfl
  | j + 1, i, s, h => by
    have hi : i < l.length := by omega
    have e0 : ilt (i : Int) (nlen (lenR sR l)) = true := by rw [ilt_d]; exact decide_eq_true (by unfold nlen lenR; omega)
    rw [L31LK]; unfold L31B
    rw [e0, (inR hi).1, (inR hi).2, ad1 (by omega), getR_get hi, List.drop_eq_getElem_cons hi]
    unfold abF
    cases h1 : ilt n (l[i]).1 with
    | true => exact l31 w v l n hl j (i + 1) _ (by omega)
    | false =>
      cases h2 : ilt n (isub .i64 (l[i]).2 1) with
      | true => simp only [h1, h2, cond_true, cond_false]; exact l31 w v l n hl j (i + 1) _ (by omega)
      | false => simp only [h1, h2, cond_true, cond_false]; exact l31 w v l n hl j (i + 1) _ (by omega)
theorem g31 (w v : Bool) (l : List (El sR)) (n : Int) (h : smR l = true) : ACalls Try.prog 31 [AV.ptr 0 0, AV.v (.int .i64 n)] [AObj.cells 0 w [AV.sw 1 2], AObj.rows v sR l] (AV.v (.int .i64 (abR l n))) [] [] := by
  have hl : l.length ≤ 100000 := of_decide_eq_true h
  have := l31 w v l n hl l.length 0 0 (by omega)
  rw [List.drop_zero] at this
  exact f31 w v l n _ _ this
def f18r0 (w : Bool) (v : Bool) (y : Bool) (l : List (El sR)) (a : Int) (h : Int) (m : List Int) (n : Int) : Bool := bif (ile a n) then (bif (ilt n h) then (bif (notB (fdI l n)) then (ile 3 (abR l n)) else false) else false) else false
theorem f18_1 (w : Bool) (v : Bool) (y : Bool) (l : List (El sR)) (a : Int) (h : Int) (m : List Int) (n : Int)  (d0 : (ile a n) = true) (d1 : (ilt n h) = true) (d2 : (notB (fdI l n)) = true) (s0 : ((ile a n) = true) → ((ilt n h) = true) → (smR l) = true) (s1 : ((ile a n) = true) → ((ilt n h) = true) → ((notB (fdI l n)) = true) → (smR l) = true) : ACalls Try.prog 18 [AV.ptr 0 0, AV.v (.int .i64 n)] [AObj.cells 0 w [AV.v (.int .i64 a), AV.v (.int .i64 h), AV.ptr 1 0, AV.mp 2], AObj.cells 0 v [AV.sw 3 2], AObj.imap true m, AObj.rows y sR l] (AV.v (Value.bool (ile 3 (abR l n)))) [] [] :=
  ACalls.nb (res := AV.v (Value.bool (ile 3 (abR l n)))) (.of_out [Orc.br true, Orc.br true, Orc.call [1, 3] (AV.v (Value.bool (fdI l n))) [] [], Orc.br true, Orc.call [1, 3] (AV.v (.int .i64 (abR l n))) [] []] [0, 1, 2, 3] [isB (ile a n) true, isB (ilt n h) true, ACalls Try.prog 29 [AV.ptr 0 0, AV.v (.int .i64 n)] [AObj.cells 0 v [AV.sw 1 2], AObj.rows y sR l] (AV.v (Value.bool (fdI l n))) [] [], isB (notB (fdI l n)) true, ACalls Try.prog 31 [AV.ptr 0 0, AV.v (.int .i64 n)] [AObj.cells 0 v [AV.sw 1 2], AObj.rows y sR l] (AV.v (.int .i64 (abR l n))) [] []] Try.func18 (by kernel_rfl) (by kernel_rfl) (.cons d0 (.cons d1 (.cons (by apply f29 <;> (first | exact (s0 d0 d1))) (.cons d2 (.cons (by apply g31 <;> (first | exact (s1 d0 d1 d2))) .nil))))))
theorem f18_2 (w : Bool) (v : Bool) (y : Bool) (l : List (El sR)) (a : Int) (h : Int) (m : List Int) (n : Int)  (d0 : (ile a n) = true) (d1 : (ilt n h) = true) (d2 : (notB (fdI l n)) = false) (s0 : ((ile a n) = true) → ((ilt n h) = true) → (smR l) = true) : ACalls Try.prog 18 [AV.ptr 0 0, AV.v (.int .i64 n)] [AObj.cells 0 w [AV.v (.int .i64 a), AV.v (.int .i64 h), AV.ptr 1 0, AV.mp 2], AObj.cells 0 v [AV.sw 3 2], AObj.imap true m, AObj.rows y sR l] (AV.v (Value.bool false)) [] [] :=
  ACalls.nb (res := AV.v (Value.bool false)) (.of_out [Orc.br true, Orc.br true, Orc.call [1, 3] (AV.v (Value.bool (fdI l n))) [] [], Orc.br false] [0, 1, 2, 3] [isB (ile a n) true, isB (ilt n h) true, ACalls Try.prog 29 [AV.ptr 0 0, AV.v (.int .i64 n)] [AObj.cells 0 v [AV.sw 1 2], AObj.rows y sR l] (AV.v (Value.bool (fdI l n))) [] [], isB (notB (fdI l n)) false] Try.func18 (by kernel_rfl) (by kernel_rfl) (.cons d0 (.cons d1 (.cons (by apply f29 <;> (first | exact (s0 d0 d1))) (.cons d2 .nil)))))
theorem f18_3 (w : Bool) (v : Bool) (y : Bool) (l : List (El sR)) (a : Int) (h : Int) (m : List Int) (n : Int)  (d0 : (ile a n) = true) (d1 : (ilt n h) = false) : ACalls Try.prog 18 [AV.ptr 0 0, AV.v (.int .i64 n)] [AObj.cells 0 w [AV.v (.int .i64 a), AV.v (.int .i64 h), AV.ptr 1 0, AV.mp 2], AObj.cells 0 v [AV.sw 3 2], AObj.imap true m, AObj.rows y sR l] (AV.v (Value.bool false)) [] [] :=
  ACalls.nb (res := AV.v (Value.bool false)) (.of_out [Orc.br true, Orc.br false, Orc.br false] [0, 1, 2, 3] [isB (ile a n) true, isB (ilt n h) false, isB false false] Try.func18 (by kernel_rfl) (by kernel_rfl) (.cons d0 (.cons d1 (.cons (by show _ = _; kernel_rfl) .nil))))
theorem f18_4 (w : Bool) (v : Bool) (y : Bool) (l : List (El sR)) (a : Int) (h : Int) (m : List Int) (n : Int)  (d0 : (ile a n) = false) : ACalls Try.prog 18 [AV.ptr 0 0, AV.v (.int .i64 n)] [AObj.cells 0 w [AV.v (.int .i64 a), AV.v (.int .i64 h), AV.ptr 1 0, AV.mp 2], AObj.cells 0 v [AV.sw 3 2], AObj.imap true m, AObj.rows y sR l] (AV.v (Value.bool false)) [] [] :=
  ACalls.nb (res := AV.v (Value.bool false)) (.of_out [Orc.br false, Orc.br false, Orc.br false] [0, 1, 2, 3] [isB (ile a n) false, isB false false, isB false false] Try.func18 (by kernel_rfl) (by kernel_rfl) (.cons d0 (.cons (by show _ = _; kernel_rfl) (.cons (by show _ = _; kernel_rfl) .nil))))
theorem f18 (w : Bool) (v : Bool) (y : Bool) (l : List (El sR)) (a : Int) (h : Int) (m : List Int) (n : Int) (s0 : ((ile a n) = true) → ((ilt n h) = true) → (smR l) = true) (s1 : ((ile a n) = true) → ((ilt n h) = true) → ((notB (fdI l n)) = true) → (smR l) = true) : ACalls Try.prog 18 [AV.ptr 0 0, AV.v (.int .i64 n)] [AObj.cells 0 w [AV.v (.int .i64 a), AV.v (.int .i64 h), AV.ptr 1 0, AV.mp 2], AObj.cells 0 v [AV.sw 3 2], AObj.imap true m, AObj.rows y sR l] (AV.v (Value.bool (f18r0 w v y l a h m n))) [] [] := by
  have h := (ACalls.cond (ile a n) (fun d0 => (ACalls.cond (ilt n h) (fun d1 => (ACalls.cond (notB (fdI l n)) (fun d2 => (f18_1 w v y l a h m n d0 d1 d2 s0 s1)) (fun d2 => (f18_2 w v y l a h m n d0 d1 d2 s0)))) (fun d1 => (f18_3 w v y l a h m n d0 d1)))) (fun d0 => (f18_4 w v y l a h m n d0)))
  simp only [c_int, c_bool, c_str, c_agg, c_tup, c_fn, c_ifc, c_sl, c_pe, c_ptr, c_rows, c_siter, c_consA, c_consU, c_consO, c_cells, c_ints, c_bools, c_strs, c_same] at h
  exact h
theorem f62d_1 (w : Bool) (v : Bool) (x : Bool) (y : Bool) (l : List (El sR)) (a : Int) (h : Int) (n : Int) (q : Bool)  (d0 : (ilt n a) = true) : ACalls Try.prog 62 [AV.v (.int .i64 n), AV.v (Value.bool q), AV.ptr 1 0] [AObj.dead, AObj.cells 0 w [AV.ptr 2 0], AObj.cells 0 v [AV.v (.int .i64 a), AV.v (.int .i64 h), AV.ptr 3 0, AV.mp 0], AObj.cells 0 x [AV.sw 4 2], AObj.rows y sR l] (AV.v (Value.bool true)) [] [] :=
  ACalls.nb (res := AV.v (Value.bool true)) (.of_out [Orc.br true] [0, 1, 2, 3, 4] [isB (ilt n a) true] Try.func62 (by kernel_rfl) (by kernel_rfl) (.cons d0 .nil))
theorem f62d_2 (w : Bool) (v : Bool) (x : Bool) (y : Bool) (l : List (El sR)) (a : Int) (h : Int) (n : Int) (q : Bool)  (d0 : (ilt n a) = false) (s0 : ((ilt n a) = false) → (smR l) = true) : ACalls Try.prog 62 [AV.v (.int .i64 n), AV.v (Value.bool q), AV.ptr 1 0] [AObj.dead, AObj.cells 0 w [AV.ptr 2 0], AObj.cells 0 v [AV.v (.int .i64 a), AV.v (.int .i64 h), AV.ptr 3 0, AV.mp 0], AObj.cells 0 x [AV.sw 4 2], AObj.rows y sR l] (AV.v (Value.bool (fdI l n))) [] [] :=
  ACalls.nb (res := AV.v (Value.bool (fdI l n))) (.of_out [Orc.br false, Orc.call [3, 4] (AV.v (Value.bool (fdI l n))) [] []] [0, 1, 2, 3, 4] [isB (ilt n a) false, ACalls Try.prog 29 [AV.ptr 0 0, AV.v (.int .i64 n)] [AObj.cells 0 x [AV.sw 1 2], AObj.rows y sR l] (AV.v (Value.bool (fdI l n))) [] []] Try.func62 (by kernel_rfl) (by kernel_rfl) (.cons d0 (.cons (by apply f29 <;> (first | exact (s0 d0))) .nil)))
theorem f62d (w : Bool) (v : Bool) (x : Bool) (y : Bool) (l : List (El sR)) (a : Int) (h : Int) (n : Int) (q : Bool) (s0 : ((ilt n a) = false) → (smR l) = true) : ACalls Try.prog 62 [AV.v (.int .i64 n), AV.v (Value.bool q), AV.ptr 1 0] [AObj.dead, AObj.cells 0 w [AV.ptr 2 0], AObj.cells 0 v [AV.v (.int .i64 a), AV.v (.int .i64 h), AV.ptr 3 0, AV.mp 0], AObj.cells 0 x [AV.sw 4 2], AObj.rows y sR l] (AV.v (Value.bool (bif (ilt n a) then true else (fdI l n)))) [] [] := by
  have h := (ACalls.cond (ilt n a) (fun d0 => (f62d_1 w v x y l a h n q d0)) (fun d0 => (f62d_2 w v x y l a h n q d0 s0)))
  simp only [c_int, c_bool, c_str, c_agg, c_tup, c_fn, c_ifc, c_sl, c_pe, c_ptr, c_rows, c_siter, c_consA, c_consU, c_consO, c_cells, c_ints, c_bools, c_strs, c_same] at h
  exact h
end Go.Proofs.Ytffoldigaififaa.Sk

set_option linter.all false
set_option maxRecDepth 100000
set_option maxHeartbeats 4000000
namespace Go.Proofs.Ytffoldigaififaa.Sk
open Go.Abs
/-- what is not forgotten -/
def keepR (l : List (El sR)) (a : Int) (m : List Int) : List Int := m.filter (fun n => !(bif ilt n a then true else fdI l n))
theorem g61 (w v x y : Bool) (l : List (El sR)) (a h : Int) (m : List Int) (s : smR l = true) :
    ACalls Try.prog 61 [.mp 0, .fn (.func 62) [.ptr 1 0]] [.imap true m, .cells 0 w [.ptr 2 0], .cells 0 v [.v (.int .i64 a), .v (.int .i64 h), .ptr 3 0, .mp 0], .cells 0 x [.sw 4 2], .rows y sR l] (.tup []) [(0, .imap true (keepR l a m))] [] :=
  ACalls.mapDf df_lays Try.underlying2 Try.underlying4 ⟨_, Try.func61, by kernel_rfl, by kernel_rfl⟩ (g := 62) (cs := [.ptr 1 0]) (hs := [.cells 0 w [.ptr 2 0], .cells 0 v [.v (.int .i64 a), .v (.int .i64 h), .ptr 3 0, .mp 0], .cells 0 x [.sw 4 2], .rows y sR l]) (fun n => bif ilt n a then true else fdI l n) (by kernel_rfl)
    (fun n b => f62d false false false false l a h n b (fun _ => s)) m
/-- is a number lost? -/
def loR (l : List (El sR)) (a h n : Int) : Bool := f18r0 true true true l a h [] n
theorem g18 (w v y : Bool) (l : List (El sR)) (a h : Int) (m : List Int) (n : Int) (s : smR l = true) :
    ACalls Try.prog 18 [.ptr 0 0, .v (.int .i64 n)] [.cells 0 w [.v (.int .i64 a), .v (.int .i64 h), .ptr 1 0, .mp 2], .cells 0 v [.sw 3 2], .imap true m, .rows y sR l] (.v (.bool (loR l a h n))) [] [] := f18 w v y l a h m n (fun _ _ => s) (fun _ _ _ => s)
end Go.Proofs.Ytffoldigaififaa.Sk

set_option linter.all false
set_option maxRecDepth 100000
set_option maxHeartbeats 4000000
namespace Go.Proofs.Ytffoldigaififaa.Sk
open Go.Abs
theorem hsF_in {l : List (El sR)} {h : Int} : ∀ {f : Nat} {n x : Int}, 0 ≤ n → x ∈ hsF l h f n → 0 ≤ x ∧ x < h
  | 0, _, _, _, hx => by simp [hsF] at hx
  | f + 1, n, x, hn, hx => by
    rw [hsF] at hx
    split at hx
    · rcases List.mem_cons.1 hx with rfl | hx
      · exact ⟨hn, by assumption⟩
      · exact hsF_in (hol_ge l (n + 1)).2 hx
    · simp at hx
theorem hsL_in {l : List (El sR)} {a h : Int} {pre : List Int} {x : Int} (hp : pre ++ [x] <+: hsL l a h) : 0 ≤ x ∧ x < h :=
  hsF_in (hol_ge l a).2 (hp.subset (by simp) : x ∈ hsL l a h)
/-- is a number under way? -/
def wyR (l : List (El sR)) (a h : Int) (m : List Int) (n : Int) : Bool := bif notB (loR l a h n) then true else memI n m
def ppL (l : List (El sR)) (a h : Int) (m : List Int) (pre : List Int) : Int := pre.foldl (fun c x => bif wyR l a h m x then iadd .i64 c 1 else c) 0
def pipR (l : List (El sR)) (a h : Int) (m : List Int) : Int := ppL l a h m (hsL l a h)
def ppH (w v y : Bool) (l : List (El sR)) (a h : Int) (m : List Int) (c : Int) : List AObj := [.cells 0 w [.v (.int .i64 a), .v (.int .i64 h), .ptr 1 0, .mp 2], .cells 0 v [.sw 3 2], .imap true m, .rows y sR l, .cells 0 true [.ptr 0 0], .cells 0 true [.v (.int .i64 c)]]
def ppT : Tm := [none, some (.ptr 4 0), none, some (.ptr 5 0), none, none, some (.mv (.func 42) [.ptr 0 0])] ++ List.replicate 16 none
def ppX (x : Int) : Tm := [none, some (.ptr 4 0), none, some (.ptr 5 0), some (.v (.int .i64 x)), none, some (.mv (.func 42) [.ptr 0 0]), some (.v (.int .i64 x))] ++ List.replicate 15 none
theorem ppL_snoc (l : List (El sR)) (a h : Int) (m : List Int) (pre : List Int) (x : Int) : ppL l a h m (pre ++ [x]) = bif wyR l a h m x then iadd .i64 (ppL l a h m pre) 1 else ppL l a h m pre := by
  unfold ppL; rw [List.foldl_append]; rfl
theorem pp_round (w v y : Bool) (l : List (El sR)) (a h : Int) (m : List Int) (c x : Int) (s : smR l = true) (hx : i64P x) : ∃ T, ARun Try.prog 6 (rgB (rg Try.f16 0)) (ppX x) (ppH w v y l a h m c) .normal T (ppH w v y l a h m (bif wyR l a h m x then iadd .i64 c 1 else c)) := by
  have hc : ACalls Try.prog 18 [.ptr 0 0, .v (.int .i64 x)] [.cells 0 w [.v (.int .i64 a), .v (.int .i64 h), .ptr 1 0, .mp 2], .cells 0 v [.sw 3 2], .imap true m, .rows y sR l] (.v (.bool (loR l a h x))) [] [] := g18 w v y l a h m x s
  unfold wyR
  cases h1 : notB (loR l a h x) with
  | true => exact ⟨_, roundA_sound (orc := [.call [0, 1, 2, 3] (.v (.bool (loR l a h x))) [] [], .br true, .br true]) (keep := []) (κ := [0, 1, 2, 3, 4, 5]) (cs := [ACalls Try.prog 18 [.ptr 0 0, .v (.int .i64 x)] [.cells 0 w [.v (.int .i64 a), .v (.int .i64 h), .ptr 1 0, .mp 2], .cells 0 v [.sw 3 2], .imap true m, .rows y sR l] (.v (.bool (loR l a h x))) [] [], isB (notB (loR l a h x)) true, isB true true]) (tm1 := List.replicate 23 none) (by kernel_rfl) ⟨hc, h1, rfl, trivial⟩⟩
  | false =>
    cases h2 : memI x m with
    | true => exact ⟨_, roundA_sound (orc := [.call [0, 1, 2, 3] (.v (.bool (loR l a h x))) [] [], .br false, .br true]) (keep := []) (κ := [0, 1, 2, 3, 4, 5]) (cs := [ACalls Try.prog 18 [.ptr 0 0, .v (.int .i64 x)] [.cells 0 w [.v (.int .i64 a), .v (.int .i64 h), .ptr 1 0, .mp 2], .cells 0 v [.sw 3 2], .imap true m, .rows y sR l] (.v (.bool (loR l a h x))) [] [], isB (notB (loR l a h x)) false, i64P x, isB (memI x m) true]) (tm1 := List.replicate 23 none) (by kernel_rfl) ⟨hc, h1, hx, h2, trivial⟩⟩
    | false => exact ⟨_, roundA_sound (orc := [.call [0, 1, 2, 3] (.v (.bool (loR l a h x))) [] [], .br false, .br false]) (keep := []) (κ := [0, 1, 2, 3, 4, 5]) (cs := [ACalls Try.prog 18 [.ptr 0 0, .v (.int .i64 x)] [.cells 0 w [.v (.int .i64 a), .v (.int .i64 h), .ptr 1 0, .mp 2], .cells 0 v [.sw 3 2], .imap true m, .rows y sR l] (.v (.bool (loR l a h x))) [] [], isB (notB (loR l a h x)) false, i64P x, isB (memI x m) false]) (tm1 := List.replicate 23 none) (by kernel_rfl) ⟨hc, h1, hx, h2, trivial⟩⟩
theorem i64_of {x h : Int} (h1 : 0 ≤ x ∧ x < h) (hh : h ≤ 2000000000000) : i64P x := by
  unfold i64P Lit.wf
  have e1 : IntKind.i64.min = -9223372036854775808 := by decide
  have e2 : IntKind.i64.max = 9223372036854775807 := by decide
  simp only [e1, e2, Bool.and_eq_true, decide_eq_true_eq]
  omega
theorem pp_loop (w v y : Bool) (l : List (El sR)) (a h : Int) (m : List Int) (s : smR l = true) (hh : h ≤ 2000000000000) :
    RangeMv Try.prog 6 (rgG (rg Try.f16 0)) (rgP (rg Try.f16 0)) (rgH (rg Try.f16 0)) (rgB (rg Try.f16 0)) [(4, 7)] ppX ppT ppT (ppH w v y l a h m 0) [.cells 0 w [.v (.int .i64 a), .v (.int .i64 h), .ptr 1 0, .mp 2], .cells 0 v [.sw 3 2], .imap true m, .rows y sR l]
      42 [.ptr 0 0] [.ptr 0 0] [0, 1, 2, 3] [1, 3, 6] (fun x : Int => [.int .i64 x]) (hsL l a h) (fun pre => ppH w v y l a h m (ppL l a h m pre)) (fun pre => ppH w v y l a h m (ppL l a h m pre)) (fun _ => .ret) (fun _ => false) where
  ren := by kernel_rfl
  n0le := by show 6 ≤ 6; decide
  gv := by kernel_rfl
  lbv := by kernel_rfl
  nd := by kernel_rfl
  ilt := by kernel_rfl
  yields := holes_y l a h m s hh
  H0 := rfl
  it := fun _ => by kernel_rfl
  len := fun _ => by show 6 ≤ 6; decide
  lenx := fun _ => by show 6 ≤ 6; decide
  old := fun _ => by kernel_rfl
  oldx := fun _ => by kernel_rfl
  bodyOk := by kernel_rfl
  encl := fun _ => by kernel_rfl
  head := .reg (id := 3) (by kernel_rfl)
  rtv := fun _ => by kernel_rfl
  round := fun pre x hlt => ⟨fun _ => by
    obtain ⟨T, hT⟩ := pp_round w v y l a h m (ppL l a h m pre) x s (i64_of (hsL_in hlt) hh)
    exact ⟨T, by rw [ppL_snoc]; exact hT⟩, fun e => by simp at e⟩
theorem g16 (w v y : Bool) (l : List (El sR)) (a h : Int) (m : List Int) (s : smR l = true) (hh : h ≤ 2000000000000) : ACalls Try.prog 16 [.ptr 0 0] [.cells 0 w [.v (.int .i64 a), .v (.int .i64 h), .ptr 1 0, .mp 2], .cells 0 v [.sw 3 2], .imap true m, .rows y sR l] (.v (.int .i64 (pipR l a h m))) [] [] :=
  .of_out [.loop [1, 3, 6] [0, 1, 2, 3, 4, 5] .normal ppT (ppH w v y l a h m (pipR l a h m))] [0, 1, 2, 3] [ARun Try.prog 4 (rg Try.f16 0) ppT (ppH w v y l a h m 0) .normal ppT (ppH w v y l a h m (pipR l a h m))] Try.func16 (by kernel_rfl) (by kernel_rfl)
    (.cons (((pp_loop w v y l a h m s hh).all (fun _ _ => rfl)).fewer (n := 4) (by decide) (by show 6 ≤ 6; decide)) .nil)
end Go.Proofs.Ytffoldigaififaa.Sk

set_option linter.all false
set_option maxRecDepth 100000
set_option maxHeartbeats 4000000
namespace Go.Proofs.Ytffoldigaififaa.Sk
open Go.Abs
theorem g61c : ACalls Try.prog 61 [.mp 0, .fn (.func 62) [.ptr 1 0]] [.imap true [], .cells 0 true [.ptr 2 0], .cells 0 true [.v (.int .i64 0), .v (.int .i64 5), .ptr 3 0, .mp 0], .cells 0 true [.sw 4 2], .rows true [CK.int .i64, CK.int .i64] [(2, 5)]] (.tup []) [(0, .imap true [])] [] :=
  g61 true true true true [(2, 5)] 0 5 [] rfl
theorem g16c : ACalls Try.prog 16 [.ptr 0 0] [.cells 0 true [.v (.int .i64 0), .v (.int .i64 5), .ptr 1 0, .mp 2], .cells 0 true [.sw 3 2], .imap true [], .rows true [CK.int .i64, CK.int .i64] [(2, 5)]] (.v (.int .i64 0)) [] [] := by
  have := g16 true true true [(2, 5)] 0 5 [] rfl (by omega)
  rw [show pipR [(2, 5)] 0 5 [] = 0 by decide +kernel] at this
  exact this
end Go.Proofs.Ytffoldigaififaa.Sk
