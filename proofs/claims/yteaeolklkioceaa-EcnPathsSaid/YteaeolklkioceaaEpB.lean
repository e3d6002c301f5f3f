import Derived.Test.YteaeolklkioceaaAbsO
import Derived.Test.YteaeolklkioceaaEpAH
set_option maxRecDepth 100000
set_option linter.all false
set_option maxHeartbeats 0
set_option linter.unusedSimpArgs false
set_option linter.unusedVariables false
namespace Go.Proofs.Yteaeolklkioceaa.Ec
open Go.Abs
def I41S (c : Int) (l : List Bool) (x6 : Int) (y1 : List Int) (x7 : Bool) (x8 : Int) : Tm := (tg [(0, AV.v (.int .i64 c)), (0, AV.sw 0 1), (2, AV.v (Value.slice none 0 0)), (0, AV.sw 1 1), (0, AV.v (.int .i64 x6)), (0, AV.v (Value.bool x7)), (0, AV.v (.int .i64 x8)), (3, AV.b true)] 31)
def I41H (c : Int) (l : List Bool) (x6 : Int) (y1 : List Int) (x7 : Bool) (x8 : Int) : List AObj := [AObj.bools 0 false l, AObj.ints 0 true .i64 y1]
def I41T (c : Int) (l : List Bool) (o0 : Int) (o1 : Bool) (o2 : Int) (o3 : List Int) : Tm := (tg [(0, AV.v (.int .i64 c)), (0, AV.sw 0 1), (2, AV.v (Value.slice none 0 0)), (0, AV.sw 1 1), (0, AV.v (.int .i64 o0)), (0, AV.v (Value.bool o1)), (0, AV.v (.int .i64 o2)), (3, AV.b true), (4, AV.b false)] 26)
def I41U (c : Int) (l : List Bool) (o0 : Int) (o1 : Bool) (o2 : Int) (o3 : List Int) : List AObj := [AObj.bools 0 false l, AObj.ints 0 true .i64 o3]
theorem I41_1 (c : Int) (l : List Bool) (x6 : Int) (y1 : List Int) (x7 : Bool) (x8 : Int)  (d0 : (ile x8 x6) = true) (d1 : (x7) = true) {e : AExit} {tm2 : Tm} {h2 : List AObj} (b : ARun Try.prog 1 (.loop (lp Try.f41 1)) (I41S c l  (x6) (y1) (true) (iadd .i64 x8 1)) (I41H c l  (x6) (y1) (true) (iadd .i64 x8 1)) e tm2 h2) : ARun Try.prog 1 (.loop (lp Try.f41 1)) (I41S c l  x6 y1 x7 x8) (I41H c l  x6 y1 x7 x8) e tm2 h2 :=
  .round [Orc.br true, Orc.br true] [0, 1, 4, 5, 6, 7, 8, 12] [0, 1] [isB (ile x8 x6) true, isB x7 true] (by kernel_rfl) (.cons d0 (.cons d1 .nil)) b
theorem I41_2 (c : Int) (l : List Bool) (x6 : Int) (y1 : List Int) (x7 : Bool) (x8 : Int)  (d0 : (ile x8 x6) = true) (d1 : (x7) = false) (s0 : inB x8 (lenB l)) (s1 : ltN (idxN 0 x8) (lenB l)) {e : AExit} {tm2 : Tm} {h2 : List AObj} (b : ARun Try.prog 1 (.loop (lp Try.f41 1)) (I41S c l  (x6) (y1) (getB l (idxN 0 x8)) (iadd .i64 x8 1)) (I41H c l  (x6) (y1) (getB l (idxN 0 x8)) (iadd .i64 x8 1)) e tm2 h2) : ARun Try.prog 1 (.loop (lp Try.f41 1)) (I41S c l  x6 y1 x7 x8) (I41H c l  x6 y1 x7 x8) e tm2 h2 :=
  .round [Orc.br true, Orc.br false] [0, 1, 4, 5, 6, 7, 8, 12] [0, 1] [isB (ile x8 x6) true, isB x7 false, inB x8 (lenB l), ltN (idxN 0 x8) (lenB l)] (by kernel_rfl) (.cons d0 (.cons d1 (.cons (s0) (.cons (s1) .nil)))) b
theorem I41_3 (c : Int) (l : List Bool) (x6 : Int) (y1 : List Int) (x7 : Bool) (x8 : Int)  (d0 : (ile x8 x6) = false) : ARun Try.prog 1 (.loop (lp Try.f41 1)) (I41S c l  x6 y1 x7 x8) (I41H c l  x6 y1 x7 x8) (AExit.exit 2) (I41T c l  (x6) (x7) (x8) (y1)) (I41U c l  (x6) (x7) (x8) (y1)) :=
  .last [Orc.br false] [0, 1, 4, 5, 6, 7, 8, 12, 17, 35] [0, 1] [isB (ile x8 x6) false] (by kernel_rfl) (.cons d0 .nil)
def I41L (c : Int) (l : List Bool) : Nat → Int → List Int → Bool → Int → Option (Int × Bool × Int × List Int)
  | 0, _, _, _, _ => none
  | fuel + 1, x6, y1, x7, x8 => (bif ile x8 x6 then (bif x7 then I41L c l  fuel (x6) (y1) (true) (iadd .i64 x8 1) else bif decide (inB x8 (lenB l)) then bif decide (ltN (idxN 0 x8) (lenB l)) then I41L c l  fuel (x6) (y1) (getB l (idxN 0 x8)) (iadd .i64 x8 1) else none else none) else some (x6, x7, x8, y1))
theorem I41 (c : Int) (l : List Bool) : ∀ (fuel : Nat) (x6 : Int) (y1 : List Int) (x7 : Bool) (x8 : Int) (o0 : Int) (o1 : Bool) (o2 : Int) (o3 : List Int) (_ : I41L c l  fuel  x6 y1 x7 x8 = some (o0, o1, o2, o3)), ARun Try.prog 1 (.loop (lp Try.f41 1)) (I41S c l  x6 y1 x7 x8) (I41H c l  x6 y1 x7 x8) (AExit.exit 2) (I41T c l  o0 o1 o2 o3) (I41U c l  o0 o1 o2 o3)
  | 0, _, _, _, _, _, _, _, _, h => by simp [I41L] at h
  | fuel + 1, x6, y1, x7, x8, o0, o1, o2, o3, h => by
    simp only [I41L] at h
    exact (splitB h (fun d0 h => (splitB h (fun d1 h => (I41_1 c l  x6 y1 x7 x8 d0 d1 (I41 c l  fuel (x6) (y1) (true) (iadd .i64 x8 1) o0 o1 o2 o3 h))) (fun d1 h => (chk h (fun s0 h => chk h (fun s1 h => I41_2 c l  x6 y1 x7 x8 d0 d1 s0 s1 (I41 c l  fuel (x6) (y1) (getB l (idxN 0 x8)) (iadd .i64 x8 1) o0 o1 o2 o3 h))))))) (fun d0 h => ((by cases h; exact I41_3 c l  x6 y1 x7 x8 d0))))
/-- is one of the first marked? -/
def anyB (l : List Bool) (x : Int) : Bool := (l.take (x.toNat + 1)).any id
def inP (x : Int) (l : List Bool) : Bool := decide (0 ≤ x ∧ x < (l.length : Int) ∧ l.length ≤ 1000)
theorem any_succ (l : List Bool) (k : Nat) (hk : k < l.length) : (l.take (k + 1)).any id = ((l.take k).any id || l[k]) := by
  rw [List.take_succ_eq_append_getElem hk, List.any_append]; simp
theorem i41 (c : Int) (l : List Bool) (x : Int) (y : List Int) (hx : inP x l = true) : ∀ (j k : Nat), (k : Int) + j = x + 1 →
    I41L c l (j + 1) x y ((l.take k).any id) (k : Int) = some (x, anyB l x, iadd .i64 x 1, y)
  | 0, k, h => by
    have hx := of_decide_eq_true hx
    have e1 : iadd .i64 x 1 = (k : Int) := by unfold iadd; rw [w_i64_in (by omega)]; omega
    have e2 : anyB l x = (l.take k).any id := by unfold anyB; rw [show x.toNat + 1 = k by omega]
    rw [I41L, show ile (k : Int) x = false from by simp only [ile_d, decide_eq_false_iff_not]; omega, e1, e2]; rfl
  | j + 1, k, h => by
    have hx2 := of_decide_eq_true hx
    have hk : k < l.length := by omega
    have e3 : iadd .i64 (k : Int) 1 = ((k + 1 : Nat) : Int) := by unfold iadd; rw [w_i64_in (by omega)]; omega
    have eg : getB l (idxN 0 (k : Int)) = l[k] := by
      unfold getB idxN; rw [Int.toNat_natCast, Nat.zero_add, List.getD_eq_getElem?_getD, List.getElem?_eq_getElem hk, Option.getD_some]
    have i1 := decide_eq_true (show inB (k : Int) (lenB l) from ⟨by omega, by unfold lenB; omega⟩)
    have i2 := decide_eq_true (show ltN (idxN 0 (k : Int)) (lenB l) from by unfold ltN idxN lenB; omega)
    have ih := i41 c l x y hx j (k + 1) (by omega)
    rw [any_succ l k hk] at ih
    rw [I41L, show ile (k : Int) x = true from by simp only [ile_d, decide_eq_true_eq]; omega, e3, eg, i1, i2]
    cases ha : (l.take k).any id with
    | true => rw [ha, Bool.true_or] at ih; exact ih
    | false => rw [ha, Bool.false_or] at ih; exact ih
theorem in41 (c : Int) (l : List Bool) (x6 : Int) (y1 : List Int) (h : inP x6 l = true) :
    ARun Try.prog 1 (.loop (lp Try.f41 1)) (I41S c l x6 y1 false 0) (I41H c l x6 y1 false 0) (.exit 2) (I41T c l x6 (anyB l x6) (iadd .i64 x6 1) y1) (I41U c l x6 (anyB l x6) (iadd .i64 x6 1) y1) := by
  have hx := of_decide_eq_true h
  have := i41 c l x6 y1 h (x6 + 1).toNat 0 (by omega)
  exact I41 c l _ x6 y1 false 0 _ _ _ _ this
def L41S (c : Int) (l : List Bool) (x6 : Int) (y1 : List Int) : Tm := (tg [(0, AV.v (.int .i64 c)), (0, AV.sw 0 1), (2, AV.v (Value.slice none 0 0)), (0, AV.sw 1 1), (0, AV.v (.int .i64 x6))] 37)
def L41H (c : Int) (l : List Bool) (x6 : Int) (y1 : List Int) : List AObj := [AObj.bools 0 false l, AObj.ints 0 true .i64 y1]
def L41T (c : Int) (l : List Bool) (o0 : List Int) : Tm := (tg [(4, AV.v (Value.slice none 0 0)), (0, AV.sw 1 1)] 38)
def L41U (c : Int) (l : List Bool) (o0 : List Int) : List AObj := [AObj.bools 0 false l, AObj.ints 0 true .i64 o0]
theorem L41_1 (c : Int) (l : List Bool) (x6 : Int) (y1 : List Int)  (d0 : (ilt x6 (nlen (lenB l))) = true) (d1 : (anyB l x6) = true) (d2 : (f44r0 c) = true) (d3 : (ine c 0) = true) (s0 : inP x6 l = true) (s1 : fitN (addN (lenI y1) 1) 8) {e : AExit} {tm2 : Tm} {h2 : List AObj} (b : ARun Try.prog 1 (.loop (lp Try.f41 0)) (L41S c l  (iadd .i64 x6 1) (appI y1 [3])) (L41H c l  (iadd .i64 x6 1) (appI y1 [3])) e tm2 h2) : ARun Try.prog 1 (.loop (lp Try.f41 0)) (L41S c l  x6 y1) (L41H c l  x6 y1) e tm2 h2 :=
  .round [Orc.br true, Orc.loop [0, 1, 4, 5, 6, 7, 8, 12] [0, 1] (AExit.exit 2) (tg [(0, AV.v (.int .i64 c)), (0, AV.sw 0 1), (2, AV.v (Value.slice none 0 0)), (0, AV.sw 1 1), (0, AV.v (.int .i64 x6)), (0, AV.v (Value.bool (anyB l x6))), (0, AV.v (.int .i64 (iadd .i64 x6 1))), (3, AV.b true), (4, AV.b false)] 26) [AObj.bools 0 false l, AObj.ints 0 true .i64 y1], Orc.br true, Orc.call [] (AV.v (Value.bool (f44r0 c))) [] [], Orc.br true, Orc.br true] [0, 1, 4, 5, 6] [0, 3] [isB (ilt x6 (nlen (lenB l))) true, ARun Try.prog 1 (lp Try.f41 1).loop (I41S c l x6 y1 false 0) (I41H c l x6 y1 false 0) (AExit.exit 2) (I41T c l x6 (anyB l x6) (iadd .i64 x6 1) y1) (I41U c l x6 (anyB l x6) (iadd .i64 x6 1) y1), isB (anyB l x6) true, ACalls Try.prog 44 [AV.v (.int .i64 c)] [] (AV.v (Value.bool (f44r0 c))) [] [], isB (f44r0 c) true, isB (ine c 0) true, fitN (addN (lenI y1) 1) 8] (by kernel_rfl) (.cons d0 (.cons (in41 _ _ _ _ (s0)) (.cons d1 (.cons (by apply f44) (.cons d2 (.cons d3 (.cons (s1) .nil))))))) b
theorem L41_2 (c : Int) (l : List Bool) (x6 : Int) (y1 : List Int)  (d0 : (ilt x6 (nlen (lenB l))) = true) (d1 : (anyB l x6) = true) (d2 : (f44r0 c) = true) (d3 : (ine c 0) = false) (s0 : inP x6 l = true) (s1 : fitN (addN (lenI y1) (lenI [c])) 8) {e : AExit} {tm2 : Tm} {h2 : List AObj} (b : ARun Try.prog 1 (.loop (lp Try.f41 0)) (L41S c l  (iadd .i64 x6 1) (appI y1 [c])) (L41H c l  (iadd .i64 x6 1) (appI y1 [c])) e tm2 h2) : ARun Try.prog 1 (.loop (lp Try.f41 0)) (L41S c l  x6 y1) (L41H c l  x6 y1) e tm2 h2 :=
  .round [Orc.br true, Orc.loop [0, 1, 4, 5, 6, 7, 8, 12] [0, 1] (AExit.exit 2) (tg [(0, AV.v (.int .i64 c)), (0, AV.sw 0 1), (2, AV.v (Value.slice none 0 0)), (0, AV.sw 1 1), (0, AV.v (.int .i64 x6)), (0, AV.v (Value.bool (anyB l x6))), (0, AV.v (.int .i64 (iadd .i64 x6 1))), (3, AV.b true), (4, AV.b false)] 26) [AObj.bools 0 false l, AObj.ints 0 true .i64 y1], Orc.br true, Orc.call [] (AV.v (Value.bool (f44r0 c))) [] [], Orc.br true, Orc.br false] [0, 1, 4, 5, 6] [0, 3] [isB (ilt x6 (nlen (lenB l))) true, ARun Try.prog 1 (lp Try.f41 1).loop (I41S c l x6 y1 false 0) (I41H c l x6 y1 false 0) (AExit.exit 2) (I41T c l x6 (anyB l x6) (iadd .i64 x6 1) y1) (I41U c l x6 (anyB l x6) (iadd .i64 x6 1) y1), isB (anyB l x6) true, ACalls Try.prog 44 [AV.v (.int .i64 c)] [] (AV.v (Value.bool (f44r0 c))) [] [], isB (f44r0 c) true, isB (ine c 0) false, fitN (addN (lenI y1) (lenI [c])) 8] (by kernel_rfl) (.cons d0 (.cons (in41 _ _ _ _ (s0)) (.cons d1 (.cons (by apply f44) (.cons d2 (.cons d3 (.cons (s1) .nil))))))) b
theorem L41_3 (c : Int) (l : List Bool) (x6 : Int) (y1 : List Int)  (d0 : (ilt x6 (nlen (lenB l))) = true) (d1 : (anyB l x6) = true) (d2 : (f44r0 c) = false) (s0 : inP x6 l = true) (s1 : fitN (addN (lenI y1) (lenI [c])) 8) {e : AExit} {tm2 : Tm} {h2 : List AObj} (b : ARun Try.prog 1 (.loop (lp Try.f41 0)) (L41S c l  (iadd .i64 x6 1) (appI y1 [c])) (L41H c l  (iadd .i64 x6 1) (appI y1 [c])) e tm2 h2) : ARun Try.prog 1 (.loop (lp Try.f41 0)) (L41S c l  x6 y1) (L41H c l  x6 y1) e tm2 h2 :=
  .round [Orc.br true, Orc.loop [0, 1, 4, 5, 6, 7, 8, 12] [0, 1] (AExit.exit 2) (tg [(0, AV.v (.int .i64 c)), (0, AV.sw 0 1), (2, AV.v (Value.slice none 0 0)), (0, AV.sw 1 1), (0, AV.v (.int .i64 x6)), (0, AV.v (Value.bool (anyB l x6))), (0, AV.v (.int .i64 (iadd .i64 x6 1))), (3, AV.b true), (4, AV.b false)] 26) [AObj.bools 0 false l, AObj.ints 0 true .i64 y1], Orc.br true, Orc.call [] (AV.v (Value.bool (f44r0 c))) [] [], Orc.br false, Orc.br false] [0, 1, 4, 5, 6] [0, 3] [isB (ilt x6 (nlen (lenB l))) true, ARun Try.prog 1 (lp Try.f41 1).loop (I41S c l x6 y1 false 0) (I41H c l x6 y1 false 0) (AExit.exit 2) (I41T c l x6 (anyB l x6) (iadd .i64 x6 1) y1) (I41U c l x6 (anyB l x6) (iadd .i64 x6 1) y1), isB (anyB l x6) true, ACalls Try.prog 44 [AV.v (.int .i64 c)] [] (AV.v (Value.bool (f44r0 c))) [] [], isB (f44r0 c) false, isB false false, fitN (addN (lenI y1) (lenI [c])) 8] (by kernel_rfl) (.cons d0 (.cons (in41 _ _ _ _ (s0)) (.cons d1 (.cons (by apply f44) (.cons d2 (.cons (by show _ = _; kernel_rfl) (.cons (s1) .nil))))))) b
theorem L41_4 (c : Int) (l : List Bool) (x6 : Int) (y1 : List Int)  (d0 : (ilt x6 (nlen (lenB l))) = true) (d1 : (anyB l x6) = false) (s0 : inP x6 l = true) (s1 : fitN (addN (lenI y1) (lenI [c])) 8) {e : AExit} {tm2 : Tm} {h2 : List AObj} (b : ARun Try.prog 1 (.loop (lp Try.f41 0)) (L41S c l  (iadd .i64 x6 1) (appI y1 [c])) (L41H c l  (iadd .i64 x6 1) (appI y1 [c])) e tm2 h2) : ARun Try.prog 1 (.loop (lp Try.f41 0)) (L41S c l  x6 y1) (L41H c l  x6 y1) e tm2 h2 :=
  .round [Orc.br true, Orc.loop [0, 1, 4, 5, 6, 7, 8, 12] [0, 1] (AExit.exit 2) (tg [(0, AV.v (.int .i64 c)), (0, AV.sw 0 1), (2, AV.v (Value.slice none 0 0)), (0, AV.sw 1 1), (0, AV.v (.int .i64 x6)), (0, AV.v (Value.bool (anyB l x6))), (0, AV.v (.int .i64 (iadd .i64 x6 1))), (3, AV.b true), (4, AV.b false)] 26) [AObj.bools 0 false l, AObj.ints 0 true .i64 y1], Orc.br false, Orc.br false, Orc.br false] [0, 1, 4, 5, 6] [0, 3] [isB (ilt x6 (nlen (lenB l))) true, ARun Try.prog 1 (lp Try.f41 1).loop (I41S c l x6 y1 false 0) (I41H c l x6 y1 false 0) (AExit.exit 2) (I41T c l x6 (anyB l x6) (iadd .i64 x6 1) y1) (I41U c l x6 (anyB l x6) (iadd .i64 x6 1) y1), isB (anyB l x6) false, isB false false, isB false false, fitN (addN (lenI y1) (lenI [c])) 8] (by kernel_rfl) (.cons d0 (.cons (in41 _ _ _ _ (s0)) (.cons d1 (.cons (by show _ = _; kernel_rfl) (.cons (by show _ = _; kernel_rfl) (.cons (s1) .nil)))))) b
theorem L41_5 (c : Int) (l : List Bool) (x6 : Int) (y1 : List Int)  (d0 : (ilt x6 (nlen (lenB l))) = false) : ARun Try.prog 1 (.loop (lp Try.f41 0)) (L41S c l  x6 y1) (L41H c l  x6 y1) (AExit.exit 0) (L41T c l  (y1)) (L41U c l  (y1)) :=
  .last [Orc.br false] [4, 5] [0, 1] [isB (ilt x6 (nlen (lenB l))) false] (by kernel_rfl) (.cons d0 .nil)
def L41L (c : Int) (l : List Bool) : Nat → Int → List Int → Option (List Int)
  | 0, _, _ => none
  | fuel + 1, x6, y1 => (bif ilt x6 (nlen (lenB l)) then (bif anyB l x6 then (bif f44r0 c then (bif ine c 0 then bif decide (inP x6 l = true) then bif decide (fitN (addN (lenI y1) 1) 8) then L41L c l  fuel (iadd .i64 x6 1) (appI y1 [3]) else none else none else bif decide (inP x6 l = true) then bif decide (fitN (addN (lenI y1) (lenI [c])) 8) then L41L c l  fuel (iadd .i64 x6 1) (appI y1 [c]) else none else none) else bif decide (inP x6 l = true) then bif decide (fitN (addN (lenI y1) (lenI [c])) 8) then L41L c l  fuel (iadd .i64 x6 1) (appI y1 [c]) else none else none) else bif decide (inP x6 l = true) then bif decide (fitN (addN (lenI y1) (lenI [c])) 8) then L41L c l  fuel (iadd .i64 x6 1) (appI y1 [c]) else none else none) else some (y1))
theorem L41 (c : Int) (l : List Bool) : ∀ (fuel : Nat) (x6 : Int) (y1 : List Int) (o0 : List Int) (_ : L41L c l  fuel  x6 y1 = some (o0)), ARun Try.prog 1 (.loop (lp Try.f41 0)) (L41S c l  x6 y1) (L41H c l  x6 y1) (AExit.exit 0) (L41T c l  o0) (L41U c l  o0)
  | 0, _, _, _, h => by simp [L41L] at h
  | fuel + 1, x6, y1, o0, h => by
    simp only [L41L] at h
    exact (splitB h (fun d0 h => (splitB h (fun d1 h => (splitB h (fun d2 h => (splitB h (fun d3 h => (chk h (fun s0 h => chk h (fun s1 h => L41_1 c l  x6 y1 d0 d1 d2 d3 s0 s1 (L41 c l  fuel (iadd .i64 x6 1) (appI y1 [3]) o0 h))))) (fun d3 h => (chk h (fun s0 h => chk h (fun s1 h => L41_2 c l  x6 y1 d0 d1 d2 d3 s0 s1 (L41 c l  fuel (iadd .i64 x6 1) (appI y1 [c]) o0 h))))))) (fun d2 h => (chk h (fun s0 h => chk h (fun s1 h => L41_3 c l  x6 y1 d0 d1 d2 s0 s1 (L41 c l  fuel (iadd .i64 x6 1) (appI y1 [c]) o0 h))))))) (fun d1 h => (chk h (fun s0 h => chk h (fun s1 h => L41_4 c l  x6 y1 d0 d1 s0 s1 (L41 c l  fuel (iadd .i64 x6 1) (appI y1 [c]) o0 h))))))) (fun d0 h => ((by cases h; exact L41_5 c l  x6 y1 d0))))
theorem f41_1 (c : Int) (l : List Bool) (L41_0_fuel : Nat) (L41_0_o0 : List Int)  (L41_0_h0 : L41L c l L41_0_fuel 0 [] = some L41_0_o0) : ACalls Try.prog 41 [AV.v (.int .i64 c), AV.sw 0 1] [AObj.bools 0 false l] (AV.sw 1 1) [] [AObj.ints 0 true .i64 L41_0_o0] :=
  ACalls.nb (res := AV.sw 1 1) (.of_out [Orc.fin (Gh.nil 5 1 (AObj.ints 0 true .i64 [])), Orc.loop [0, 1, 4, 5, 6] [0, 1] (AExit.exit 0) (tg [(4, AV.v (Value.slice none 0 0)), (0, AV.sw 1 1)] 38) [AObj.bools 0 false l, AObj.ints 0 true .i64 L41_0_o0]] [0, 1] [_] Try.func41 (by kernel_rfl) (by kernel_rfl) (.cons (L41 _ _ _ _ _ _ (L41_0_h0)) .nil))
theorem f41 (c : Int) (l : List Bool) (L41_0_fuel : Nat) (L41_0_o0 : List Int) (L41_0_h0 : L41L c l L41_0_fuel 0 [] = some L41_0_o0) : ACalls Try.prog 41 [AV.v (.int .i64 c), AV.sw 0 1] [AObj.bools 0 false l] (AV.sw 1 1) [] [AObj.ints 0 true .i64 L41_0_o0] := (f41_1 c l L41_0_fuel L41_0_o0 L41_0_h0)
end Go.Proofs.Yteaeolklkioceaa.Ec
