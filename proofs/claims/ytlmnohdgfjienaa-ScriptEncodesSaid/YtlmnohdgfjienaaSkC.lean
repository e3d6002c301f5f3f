import Derived.Test.YtlmnohdgfjienaaAbsO
import Derived.Test.YtlmnohdgfjienaaSkB
import Derived.Test.YtlmnohdgfjienaaSkA
import Derived.Test.YtlmnohdgfjienaaAbsWf
set_option maxRecDepth 100000
set_option linter.all false
set_option maxHeartbeats 0
set_option linter.unusedSimpArgs false
set_option linter.unusedVariables false
namespace Go.Proofs.Ytlmnohdgfjienaa.Cf
open Go.Abs Go.Proofs.Ytlmnohdgfjienaa.Code Go.Proofs.Ytlmnohdgfjienaa.Code

/-- numbers that may be put behind these bytes -/
def okZ (m l : List Int) : Bool := l.all i64B && decide (m.length + 10 * l.length ≤ 50000)
theorem zb_cons (x : Int) (l : List Int) : zb (x :: l) = vb (zz x) ++ zb l := rfl
theorem zzB {x : Int} (h : i64B x = true) : u64B (zz x) = true := by
  unfold i64B at h; unfold u64B zz; simp at *; split <;> omega
theorem zb_len {l : List Int} (h : l.all i64B = true) : (zb l).length ≤ 10 * l.length := by
  induction l with
  | nil => simp [zb]
  | cons x l ih =>
    simp only [List.all_cons, Bool.and_eq_true] at h
    have := vb_len (zzB h.1)
    have := ih h.2
    rw [zb_cons, List.length_append, List.length_cons]; omega
theorem incI {i n : Nat} (h : n ≤ 1000000) (hi : i < n) : iadd .i64 (i : Int) 1 = ((i + 1 : Nat) : Int) := inc h hi
theorem l16z (v : Bool) (l : List Int) (ha : l.all i64B = true) (hs : l.length ≤ 1000000) : ∀ (k i : Nat) (y : List Int), i + k = l.length → y.length + 10 * k ≤ 50000 →
    L16L v l (k + 1) (nlen (lenI l)) (i : Int) y = some (y ++ zb (l.drop i))
  | 0, i, y, e, hy => by
    rw [L16L, lt_f (show lenI l ≤ i by unfold lenI; omega), List.drop_eq_nil_of_le (by omega)]; simp [zb]
  | k + 1, i, y, e, hy => by
    have hi : i < l.length := by omega
    have hx : i64B l[i] = true := List.all_eq_true.1 ha _ (List.getElem_mem hi)
    have hv := vb_len (zzB hx)
    rw [L16L, lt_t (show i < lenI l from hi), in_t (show i < lenI l from hi), ix0, l_t (show i < lenI l from hi), inc hs hi]
    rw [show getI l i = l[i] from by unfold getI; rw [List.getD_eq_getElem?_getD, List.getElem?_eq_getElem hi]; rfl, decide_eq_true hx, decide_eq_true (show y.length ≤ 50000 by omega)]
    simp only [cond_true]
    rw [show y.append (vb (zz l[i])) = y ++ vb (zz l[i]) from rfl, l16z v l ha hs k (i + 1) _ (by omega) (by rw [List.length_append]; omega), List.drop_eq_getElem_cons hi, zb_cons, List.append_assoc]
theorem l19z (v : Bool) (l : List Int) (ha : l.all i64B = true) (hs : l.length ≤ 1000000) : ∀ (k i : Nat) (y : List Int), i + k = l.length → y.length + 10 * k ≤ 50000 →
    L19L v l (k + 1) (i : Int) y = some (y ++ zb (l.drop i))
  | 0, i, y, e, hy => by
    rw [L19L, lt_f (show lenI l ≤ i by unfold lenI; omega), List.drop_eq_nil_of_le (by omega)]; simp [zb]
  | k + 1, i, y, e, hy => by
    have hi : i < l.length := by omega
    have hx : i64B l[i] = true := List.all_eq_true.1 ha _ (List.getElem_mem hi)
    have hv := vb_len (zzB hx)
    rw [L19L, lt_t (show i < lenI l from hi), in_t (show i < lenI l from hi), ix0, l_t (show i < lenI l from hi), inc hs hi]
    rw [show getI l i = l[i] from by unfold getI; rw [List.getD_eq_getElem?_getD, List.getElem?_eq_getElem hi]; rfl, decide_eq_true hx, decide_eq_true (show y.length ≤ 50000 by omega), decide_eq_true (zzB hx)]
    simp only [cond_true]
    rw [show y.append (vb (zz l[i])) = y ++ vb (zz l[i]) from rfl, l19z v l ha hs k (i + 1) _ (by omega) (by rw [List.length_append]; omega), List.drop_eq_getElem_cons hi, zb_cons, List.append_assoc]
theorem g16 (v : Bool) (m l : List Int) (h : okZ m l = true) : ACalls Try.prog 16 [AV.sw 0 1, AV.sw 1 1] [AObj.ints 0 true .u8 m, AObj.ints 0 v .i64 l] (AV.sw 2 1) [(0, AObj.dead)] [AObj.ints 0 true .u8 (m ++ zb l)] := by
  unfold okZ at h; simp only [Bool.and_eq_true, decide_eq_true_eq] at h
  have a := l16z v l h.1 (by omega) l.length 0 m (by omega) h.2
  exact f16 v m l _ _ a
theorem g19 (v : Bool) (m l : List Int) (h : okZ m l = true) : ACalls Try.prog 19 [AV.sw 0 1, AV.sw 1 1] [AObj.ints 0 true .u8 m, AObj.ints 0 v .i64 l] (AV.sw 2 1) [(0, AObj.dead)] [AObj.ints 0 true .u8 (m ++ zb l)] := by
  unfold okZ at h; simp only [Bool.and_eq_true, decide_eq_true_eq] at h
  have a := l19z v l h.1 (by omega) l.length 0 m (by omega) h.2
  exact f19 v m l _ _ a
def f20r0 (k : Int) (m : Int) (f : Int) (t : Int) (l : Int) (o : Int) (g : Int) (d : Int) (a : Int) (b : Int) (x : Int) : List Int := [m, f, t, l, o, g, d, a, b, x]
theorem f20_1 (k : Int) (m : Int) (f : Int) (t : Int) (l : Int) (o : Int) (g : Int) (d : Int) (a : Int) (b : Int) (x : Int)  : ACalls Try.prog 20 [AV.agg [AV.v (.int .i64 k), AV.v (.int .i64 m), AV.v (.int .i64 f), AV.v (.int .i64 t), AV.v (.int .i64 l), AV.v (.int .i64 o), AV.v (.int .i64 g), AV.v (.int .i64 d), AV.v (.int .i64 a), AV.v (.int .i64 b)], AV.v (.int .i64 x)] [] (AV.sw 0 1) [] [AObj.ints 0 true .i64 [m, f, t, l, o, g, d, a, b, x]] :=
  ACalls.nb (res := AV.sw 0 1) (.of_out [] [1] [] Try.func20 (by kernel_rfl) (by kernel_rfl) .nil)
theorem f20 (k : Int) (m : Int) (f : Int) (t : Int) (l : Int) (o : Int) (g : Int) (d : Int) (a : Int) (b : Int) (x : Int) : ACalls Try.prog 20 [AV.agg [AV.v (.int .i64 k), AV.v (.int .i64 m), AV.v (.int .i64 f), AV.v (.int .i64 t), AV.v (.int .i64 l), AV.v (.int .i64 o), AV.v (.int .i64 g), AV.v (.int .i64 d), AV.v (.int .i64 a), AV.v (.int .i64 b)], AV.v (.int .i64 x)] [] (AV.sw 0 1) [] [AObj.ints 0 true .i64 [m, f, t, l, o, g, d, a, b, x]] := (f20_1 k m f t l o g d a b x)
end Go.Proofs.Ytlmnohdgfjienaa.Cf

set_option maxRecDepth 100000
set_option linter.all false
set_option maxHeartbeats 0
set_option linter.unusedSimpArgs false
set_option linter.unusedVariables false
namespace Go.Proofs.Ytlmnohdgfjienaa.Cf
open Go.Abs Go.Proofs.Ytlmnohdgfjienaa.Code Go.Proofs.Ytlmnohdgfjienaa.Code
def L8aS (j0 : List (El FF)) (j1 j2 j3 : List Int) (r a0 a1 a2 a3 a4 a5 a6 a7 y z : Int) (x30 : Int) (y5 : List Int) (x31 : Int) : Tm := (tg [(1, AV.ptr 4 0), (0, AV.v (Value.slice none 0 0)), (0, AV.v (.int .i64 0)), (2, AV.sw 5 1), (22, AV.sw 0 10), (0, AV.v (.int .i64 x30)), (0, AV.v (.int .i64 x31))] 100)
def L8aH (j0 : List (El FF)) (j1 j2 j3 : List Int) (r a0 a1 a2 a3 a4 a5 a6 a7 y z : Int) (x30 : Int) (y5 : List Int) (x31 : Int) : List AObj := [AObj.rows false FF j0, AObj.ints 0 false .i64 j1, AObj.ints 0 false .i64 j2, AObj.ints 0 false IntKind.u32 j3, AObj.cells 0 true [AV.sw 0 10, AV.sw 1 1, AV.v (.int .i64 r), AV.v (.int .i64 a0), AV.v (.int .i64 a1), AV.v (.int .i64 a2), AV.v (.int .i64 a3), AV.v (.int .i64 a4), AV.v (.int .i64 a5), AV.v (.int .i64 a6), AV.v (.int .i64 a7), AV.sw 2 1, AV.sw 3 1, AV.v (.int .i64 y), AV.v (.int .i64 z)], AObj.ints 0 true IntKind.u8 y5]
def L8aT (j0 : List (El FF)) (j1 j2 j3 : List Int) (r a0 a1 a2 a3 a4 a5 a6 a7 y z : Int) (o0 : List Int) : Tm := (tg [(1, AV.ptr 4 0), (0, AV.v (Value.slice none 0 0)), (0, AV.v (.int .i64 0)), (2, AV.sw 5 1)] 125)
def L8aU (j0 : List (El FF)) (j1 j2 j3 : List Int) (r a0 a1 a2 a3 a4 a5 a6 a7 y z : Int) (o0 : List Int) : List AObj := [AObj.rows false FF j0, AObj.ints 0 false .i64 j1, AObj.ints 0 false .i64 j2, AObj.ints 0 false IntKind.u32 j3, AObj.cells 0 true [AV.sw 0 10, AV.sw 1 1, AV.v (.int .i64 r), AV.v (.int .i64 a0), AV.v (.int .i64 a1), AV.v (.int .i64 a2), AV.v (.int .i64 a3), AV.v (.int .i64 a4), AV.v (.int .i64 a5), AV.v (.int .i64 a6), AV.v (.int .i64 a7), AV.sw 2 1, AV.sw 3 1, AV.v (.int .i64 y), AV.v (.int .i64 z)], AObj.ints 0 true IntKind.u8 o0]
theorem L8a_1 (j0 : List (El FF)) (j1 j2 j3 : List Int) (r a0 a1 a2 a3 a4 a5 a6 a7 y z : Int) (x30 : Int) (y5 : List Int) (x31 : Int)  (d0 : (ilt x31 x30) = true) (s0 : inB x31 (lenR FF j0)) (s1 : ltN (idxN 0 x31) (lenR FF j0)) (s2 : u64B (icv .u64 (getR FF j0 (idxN 0 x31)).1) = true) (s3 : y5.length ≤ 50000) (s4 : inB x31 (lenI j1)) (s5 : ltN (idxN 0 x31) (lenI j1)) (s6 : okZ (y5.append (vb (icv .u64 (getR FF j0 (idxN 0 x31)).1))) [(getR FF j0 (idxN 0 x31)).snd.1, (getR FF j0 (idxN 0 x31)).snd.snd.1, (getR FF j0 (idxN 0 x31)).snd.snd.snd.1, (getR FF j0 (idxN 0 x31)).snd.snd.snd.snd.1, (getR FF j0 (idxN 0 x31)).snd.snd.snd.snd.snd.1, (getR FF j0 (idxN 0 x31)).snd.snd.snd.snd.snd.snd.1, (getR FF j0 (idxN 0 x31)).snd.snd.snd.snd.snd.snd.snd.1, (getR FF j0 (idxN 0 x31)).snd.snd.snd.snd.snd.snd.snd.snd.1, (getR FF j0 (idxN 0 x31)).snd.snd.snd.snd.snd.snd.snd.snd.2, getI j1 (idxN 0 x31)] = true) {e : AExit} {tm2 : Tm} {h2 : List AObj} (b : ARun Try.prog 4 (.loop (lp Try.f8 0)) (L8aS j0 j1 j2 j3 r a0 a1 a2 a3 a4 a5 a6 a7 y z  (x30) ((y5.append (vb (icv .u64 (getR FF j0 (idxN 0 x31)).1))).append (zb [(getR FF j0 (idxN 0 x31)).snd.1, (getR FF j0 (idxN 0 x31)).snd.snd.1, (getR FF j0 (idxN 0 x31)).snd.snd.snd.1, (getR FF j0 (idxN 0 x31)).snd.snd.snd.snd.1, (getR FF j0 (idxN 0 x31)).snd.snd.snd.snd.snd.1, (getR FF j0 (idxN 0 x31)).snd.snd.snd.snd.snd.snd.1, (getR FF j0 (idxN 0 x31)).snd.snd.snd.snd.snd.snd.snd.1, (getR FF j0 (idxN 0 x31)).snd.snd.snd.snd.snd.snd.snd.snd.1, (getR FF j0 (idxN 0 x31)).snd.snd.snd.snd.snd.snd.snd.snd.2, getI j1 (idxN 0 x31)])) (iadd .i64 x31 1)) (L8aH j0 j1 j2 j3 r a0 a1 a2 a3 a4 a5 a6 a7 y z  (x30) ((y5.append (vb (icv .u64 (getR FF j0 (idxN 0 x31)).1))).append (zb [(getR FF j0 (idxN 0 x31)).snd.1, (getR FF j0 (idxN 0 x31)).snd.snd.1, (getR FF j0 (idxN 0 x31)).snd.snd.snd.1, (getR FF j0 (idxN 0 x31)).snd.snd.snd.snd.1, (getR FF j0 (idxN 0 x31)).snd.snd.snd.snd.snd.1, (getR FF j0 (idxN 0 x31)).snd.snd.snd.snd.snd.snd.1, (getR FF j0 (idxN 0 x31)).snd.snd.snd.snd.snd.snd.snd.1, (getR FF j0 (idxN 0 x31)).snd.snd.snd.snd.snd.snd.snd.snd.1, (getR FF j0 (idxN 0 x31)).snd.snd.snd.snd.snd.snd.snd.snd.2, getI j1 (idxN 0 x31)])) (iadd .i64 x31 1)) e tm2 h2) : ARun Try.prog 4 (.loop (lp Try.f8 0)) (L8aS j0 j1 j2 j3 r a0 a1 a2 a3 a4 a5 a6 a7 y z  x30 y5 x31) (L8aH j0 j1 j2 j3 r a0 a1 a2 a3 a4 a5 a6 a7 y z  x30 y5 x31) e tm2 h2 :=
  .round [Orc.br true, Orc.call [5, 7] (AV.sw 2 1) [] [AObj.ints 0 true IntKind.u8 (y5.append (vb (icv .u64 (getR FF j0 (idxN 0 x31)).1)))], Orc.call [8, 9] (AV.sw 2 1) [(0, AObj.dead)] [AObj.ints 0 true IntKind.u8 ((y5.append (vb (icv .u64 (getR FF j0 (idxN 0 x31)).1))).append (zb [(getR FF j0 (idxN 0 x31)).snd.1, (getR FF j0 (idxN 0 x31)).snd.snd.1, (getR FF j0 (idxN 0 x31)).snd.snd.snd.1, (getR FF j0 (idxN 0 x31)).snd.snd.snd.snd.1, (getR FF j0 (idxN 0 x31)).snd.snd.snd.snd.snd.1, (getR FF j0 (idxN 0 x31)).snd.snd.snd.snd.snd.snd.1, (getR FF j0 (idxN 0 x31)).snd.snd.snd.snd.snd.snd.snd.1, (getR FF j0 (idxN 0 x31)).snd.snd.snd.snd.snd.snd.snd.snd.1, (getR FF j0 (idxN 0 x31)).snd.snd.snd.snd.snd.snd.snd.snd.2, getI j1 (idxN 0 x31)]))]] [1, 2, 3, 6, 29, 30, 31] [0, 1, 2, 3, 4, 10] [isB (ilt x31 x30) true, inB x31 (lenR FF j0), ltN (idxN 0 x31) (lenR FF j0), ACalls Try.prog 15 [AV.sw 0 1, AV.sw 1 1] [AObj.ints 0 true IntKind.u8 y5, AObj.ints 0 true .u64 [icv .u64 (getR FF j0 (idxN 0 x31)).1]] (AV.sw 2 1) [] [AObj.ints 0 true IntKind.u8 (y5.append (vb (icv .u64 (getR FF j0 (idxN 0 x31)).1)))], Mixed Try.prog, inB x31 (lenI j1), ltN (idxN 0 x31) (lenI j1), ACalls Try.prog 16 [AV.sw 0 1, AV.sw 1 1] [AObj.ints 0 true IntKind.u8 (y5.append (vb (icv .u64 (getR FF j0 (idxN 0 x31)).1))), AObj.ints 0 true .i64 [(getR FF j0 (idxN 0 x31)).snd.1, (getR FF j0 (idxN 0 x31)).snd.snd.1, (getR FF j0 (idxN 0 x31)).snd.snd.snd.1, (getR FF j0 (idxN 0 x31)).snd.snd.snd.snd.1, (getR FF j0 (idxN 0 x31)).snd.snd.snd.snd.snd.1, (getR FF j0 (idxN 0 x31)).snd.snd.snd.snd.snd.snd.1, (getR FF j0 (idxN 0 x31)).snd.snd.snd.snd.snd.snd.snd.1, (getR FF j0 (idxN 0 x31)).snd.snd.snd.snd.snd.snd.snd.snd.1, (getR FF j0 (idxN 0 x31)).snd.snd.snd.snd.snd.snd.snd.snd.2, getI j1 (idxN 0 x31)]] (AV.sw 2 1) [(0, AObj.dead)] [AObj.ints 0 true IntKind.u8 ((y5.append (vb (icv .u64 (getR FF j0 (idxN 0 x31)).1))).append (zb [(getR FF j0 (idxN 0 x31)).snd.1, (getR FF j0 (idxN 0 x31)).snd.snd.1, (getR FF j0 (idxN 0 x31)).snd.snd.snd.1, (getR FF j0 (idxN 0 x31)).snd.snd.snd.snd.1, (getR FF j0 (idxN 0 x31)).snd.snd.snd.snd.snd.1, (getR FF j0 (idxN 0 x31)).snd.snd.snd.snd.snd.snd.1, (getR FF j0 (idxN 0 x31)).snd.snd.snd.snd.snd.snd.snd.1, (getR FF j0 (idxN 0 x31)).snd.snd.snd.snd.snd.snd.snd.snd.1, (getR FF j0 (idxN 0 x31)).snd.snd.snd.snd.snd.snd.snd.snd.2, getI j1 (idxN 0 x31)]))]] (by kernel_rfl) (.cons d0 (.cons (s0) (.cons (s1) (.cons (by apply Go.Proofs.Ytlmnohdgfjienaa.Code.g15a <;> (first | exact (s2) | exact (s3))) (.cons (by show _ = _; kernel_rfl) (.cons (s4) (.cons (s5) (.cons (by apply g16 <;> (first | exact (s6))) .nil)))))))) b
theorem L8a_2 (j0 : List (El FF)) (j1 j2 j3 : List Int) (r a0 a1 a2 a3 a4 a5 a6 a7 y z : Int) (x30 : Int) (y5 : List Int) (x31 : Int)  (d0 : (ilt x31 x30) = false) : ARun Try.prog 4 (.loop (lp Try.f8 0)) (L8aS j0 j1 j2 j3 r a0 a1 a2 a3 a4 a5 a6 a7 y z  x30 y5 x31) (L8aH j0 j1 j2 j3 r a0 a1 a2 a3 a4 a5 a6 a7 y z  x30 y5 x31) (AExit.exit 0) (L8aT j0 j1 j2 j3 r a0 a1 a2 a3 a4 a5 a6 a7 y z  (y5)) (L8aU j0 j1 j2 j3 r a0 a1 a2 a3 a4 a5 a6 a7 y z  (y5)) :=
  .last [Orc.br false] [1, 2, 3, 6, 9, 11, 110, 111, 112, 113] [0, 1, 2, 3, 4, 5] [isB (ilt x31 x30) false] (by kernel_rfl) (.cons d0 .nil)
def L8aL (j0 : List (El FF)) (j1 j2 j3 : List Int) (r a0 a1 a2 a3 a4 a5 a6 a7 y z : Int) : Nat → Int → List Int → Int → Option (List Int)
  | 0, _, _, _ => none
  | fuel + 1, x30, y5, x31 => (bif ilt x31 x30 then bif decide (inB x31 (lenR FF j0)) then bif decide (ltN (idxN 0 x31) (lenR FF j0)) then bif decide (u64B (icv .u64 (getR FF j0 (idxN 0 x31)).1) = true) then bif decide (y5.length ≤ 50000) then bif decide (inB x31 (lenI j1)) then bif decide (ltN (idxN 0 x31) (lenI j1)) then bif decide (okZ (y5.append (vb (icv .u64 (getR FF j0 (idxN 0 x31)).1))) [(getR FF j0 (idxN 0 x31)).snd.1, (getR FF j0 (idxN 0 x31)).snd.snd.1, (getR FF j0 (idxN 0 x31)).snd.snd.snd.1, (getR FF j0 (idxN 0 x31)).snd.snd.snd.snd.1, (getR FF j0 (idxN 0 x31)).snd.snd.snd.snd.snd.1, (getR FF j0 (idxN 0 x31)).snd.snd.snd.snd.snd.snd.1, (getR FF j0 (idxN 0 x31)).snd.snd.snd.snd.snd.snd.snd.1, (getR FF j0 (idxN 0 x31)).snd.snd.snd.snd.snd.snd.snd.snd.1, (getR FF j0 (idxN 0 x31)).snd.snd.snd.snd.snd.snd.snd.snd.2, getI j1 (idxN 0 x31)] = true) then L8aL j0 j1 j2 j3 r a0 a1 a2 a3 a4 a5 a6 a7 y z  fuel (x30) ((y5.append (vb (icv .u64 (getR FF j0 (idxN 0 x31)).1))).append (zb [(getR FF j0 (idxN 0 x31)).snd.1, (getR FF j0 (idxN 0 x31)).snd.snd.1, (getR FF j0 (idxN 0 x31)).snd.snd.snd.1, (getR FF j0 (idxN 0 x31)).snd.snd.snd.snd.1, (getR FF j0 (idxN 0 x31)).snd.snd.snd.snd.snd.1, (getR FF j0 (idxN 0 x31)).snd.snd.snd.snd.snd.snd.1, (getR FF j0 (idxN 0 x31)).snd.snd.snd.snd.snd.snd.snd.1, (getR FF j0 (idxN 0 x31)).snd.snd.snd.snd.snd.snd.snd.snd.1, (getR FF j0 (idxN 0 x31)).snd.snd.snd.snd.snd.snd.snd.snd.2, getI j1 (idxN 0 x31)])) (iadd .i64 x31 1) else none else none else none else none else none else none else none else some (y5))
theorem L8a (j0 : List (El FF)) (j1 j2 j3 : List Int) (r a0 a1 a2 a3 a4 a5 a6 a7 y z : Int) : ∀ (fuel : Nat) (x30 : Int) (y5 : List Int) (x31 : Int) (o0 : List Int) (_ : L8aL j0 j1 j2 j3 r a0 a1 a2 a3 a4 a5 a6 a7 y z  fuel  x30 y5 x31 = some (o0)), ARun Try.prog 4 (.loop (lp Try.f8 0)) (L8aS j0 j1 j2 j3 r a0 a1 a2 a3 a4 a5 a6 a7 y z  x30 y5 x31) (L8aH j0 j1 j2 j3 r a0 a1 a2 a3 a4 a5 a6 a7 y z  x30 y5 x31) (AExit.exit 0) (L8aT j0 j1 j2 j3 r a0 a1 a2 a3 a4 a5 a6 a7 y z  o0) (L8aU j0 j1 j2 j3 r a0 a1 a2 a3 a4 a5 a6 a7 y z  o0)
  | 0, _, _, _, _, h => by simp [L8aL] at h
  | fuel + 1, x30, y5, x31, o0, h => by
    simp only [L8aL] at h
    exact (splitB h (fun d0 h => (chk h (fun s0 h => chk h (fun s1 h => chk h (fun s2 h => chk h (fun s3 h => chk h (fun s4 h => chk h (fun s5 h => chk h (fun s6 h => L8a_1 j0 j1 j2 j3 r a0 a1 a2 a3 a4 a5 a6 a7 y z  x30 y5 x31 d0 s0 s1 s2 s3 s4 s5 s6 (L8a j0 j1 j2 j3 r a0 a1 a2 a3 a4 a5 a6 a7 y z  fuel (x30) ((y5.append (vb (icv .u64 (getR FF j0 (idxN 0 x31)).1))).append (zb [(getR FF j0 (idxN 0 x31)).snd.1, (getR FF j0 (idxN 0 x31)).snd.snd.1, (getR FF j0 (idxN 0 x31)).snd.snd.snd.1, (getR FF j0 (idxN 0 x31)).snd.snd.snd.snd.1, (getR FF j0 (idxN 0 x31)).snd.snd.snd.snd.snd.1, (getR FF j0 (idxN 0 x31)).snd.snd.snd.snd.snd.snd.1, (getR FF j0 (idxN 0 x31)).snd.snd.snd.snd.snd.snd.snd.1, (getR FF j0 (idxN 0 x31)).snd.snd.snd.snd.snd.snd.snd.snd.1, (getR FF j0 (idxN 0 x31)).snd.snd.snd.snd.snd.snd.snd.snd.2, getI j1 (idxN 0 x31)])) (iadd .i64 x31 1) o0 h)))))))))) (fun d0 h => ((by cases h; exact L8a_2 j0 j1 j2 j3 r a0 a1 a2 a3 a4 a5 a6 a7 y z  x30 y5 x31 d0))))
def L8bS (j0 : List (El FF)) (j1 j2 j3 : List Int) (r a0 a1 a2 a3 a4 a5 a6 a7 y z : Int) (x111 : Int) (y5 : List Int) (x112 : Int) : Tm := (tg [(1, AV.ptr 4 0), (0, AV.v (Value.slice none 0 0)), (0, AV.v (.int .i64 0)), (2, AV.sw 5 1), (103, AV.sw 3 1), (0, AV.v (.int .i64 x111)), (0, AV.v (.int .i64 x112))] 19)
def L8bH (j0 : List (El FF)) (j1 j2 j3 : List Int) (r a0 a1 a2 a3 a4 a5 a6 a7 y z : Int) (x111 : Int) (y5 : List Int) (x112 : Int) : List AObj := [AObj.rows false FF j0, AObj.ints 0 false .i64 j1, AObj.ints 0 false .i64 j2, AObj.ints 0 false IntKind.u32 j3, AObj.cells 0 true [AV.sw 0 10, AV.sw 1 1, AV.v (.int .i64 r), AV.v (.int .i64 a0), AV.v (.int .i64 a1), AV.v (.int .i64 a2), AV.v (.int .i64 a3), AV.v (.int .i64 a4), AV.v (.int .i64 a5), AV.v (.int .i64 a6), AV.v (.int .i64 a7), AV.sw 2 1, AV.sw 3 1, AV.v (.int .i64 y), AV.v (.int .i64 z)], AObj.ints 0 true IntKind.u8 y5]
def L8bT (j0 : List (El FF)) (j1 j2 j3 : List Int) (r a0 a1 a2 a3 a4 a5 a6 a7 y z : Int) (o0 : List Int) : Tm := (tg [(1, AV.ptr 4 0), (0, AV.v (Value.slice none 0 0)), (0, AV.v (.int .i64 0)), (2, AV.sw 5 1)] 125)
def L8bU (j0 : List (El FF)) (j1 j2 j3 : List Int) (r a0 a1 a2 a3 a4 a5 a6 a7 y z : Int) (o0 : List Int) : List AObj := [AObj.rows false FF j0, AObj.ints 0 false .i64 j1, AObj.ints 0 false .i64 j2, AObj.ints 0 false IntKind.u32 j3, AObj.cells 0 true [AV.sw 0 10, AV.sw 1 1, AV.v (.int .i64 r), AV.v (.int .i64 a0), AV.v (.int .i64 a1), AV.v (.int .i64 a2), AV.v (.int .i64 a3), AV.v (.int .i64 a4), AV.v (.int .i64 a5), AV.v (.int .i64 a6), AV.v (.int .i64 a7), AV.sw 2 1, AV.sw 3 1, AV.v (.int .i64 y), AV.v (.int .i64 z)], AObj.ints 0 true IntKind.u8 o0]
theorem L8b_1 (j0 : List (El FF)) (j1 j2 j3 : List Int) (r a0 a1 a2 a3 a4 a5 a6 a7 y z : Int) (x111 : Int) (y5 : List Int) (x112 : Int)  (d0 : (ilt x112 x111) = true) (s0 : inB x112 (lenI j3)) (s1 : ltN (idxN 0 x112) (lenI j3)) (s2 : u64B (icv .u64 (getI j3 (idxN 0 x112))) = true) (s3 : y5.length ≤ 50000) {e : AExit} {tm2 : Tm} {h2 : List AObj} (b : ARun Try.prog 4 (.loop (lp Try.f8 1)) (L8bS j0 j1 j2 j3 r a0 a1 a2 a3 a4 a5 a6 a7 y z  (x111) (y5.append (vb (icv .u64 (getI j3 (idxN 0 x112))))) (iadd .i64 x112 1)) (L8bH j0 j1 j2 j3 r a0 a1 a2 a3 a4 a5 a6 a7 y z  (x111) (y5.append (vb (icv .u64 (getI j3 (idxN 0 x112))))) (iadd .i64 x112 1)) e tm2 h2) : ARun Try.prog 4 (.loop (lp Try.f8 1)) (L8bS j0 j1 j2 j3 r a0 a1 a2 a3 a4 a5 a6 a7 y z  x111 y5 x112) (L8bH j0 j1 j2 j3 r a0 a1 a2 a3 a4 a5 a6 a7 y z  x111 y5 x112) e tm2 h2 :=
  .round [Orc.br true, Orc.call [5, 6] (AV.sw 2 1) [] [AObj.ints 0 true IntKind.u8 (y5.append (vb (icv .u64 (getI j3 (idxN 0 x112)))))]] [1, 2, 3, 6, 110, 111, 112] [0, 1, 2, 3, 4, 7] [isB (ilt x112 x111) true, inB x112 (lenI j3), ltN (idxN 0 x112) (lenI j3), ACalls Try.prog 15 [AV.sw 0 1, AV.sw 1 1] [AObj.ints 0 true IntKind.u8 y5, AObj.ints 0 true .u64 [icv .u64 (getI j3 (idxN 0 x112))]] (AV.sw 2 1) [] [AObj.ints 0 true IntKind.u8 (y5.append (vb (icv .u64 (getI j3 (idxN 0 x112)))))]] (by kernel_rfl) (.cons d0 (.cons (s0) (.cons (s1) (.cons (by apply Go.Proofs.Ytlmnohdgfjienaa.Code.g15a <;> (first | exact (s2) | exact (s3))) .nil)))) b
theorem L8b_2 (j0 : List (El FF)) (j1 j2 j3 : List Int) (r a0 a1 a2 a3 a4 a5 a6 a7 y z : Int) (x111 : Int) (y5 : List Int) (x112 : Int)  (d0 : (ilt x112 x111) = false) : ARun Try.prog 4 (.loop (lp Try.f8 1)) (L8bS j0 j1 j2 j3 r a0 a1 a2 a3 a4 a5 a6 a7 y z  x111 y5 x112) (L8bH j0 j1 j2 j3 r a0 a1 a2 a3 a4 a5 a6 a7 y z  x111 y5 x112) (AExit.exit 2) (L8bT j0 j1 j2 j3 r a0 a1 a2 a3 a4 a5 a6 a7 y z  (y5)) (L8bU j0 j1 j2 j3 r a0 a1 a2 a3 a4 a5 a6 a7 y z  (y5)) :=
  .last [Orc.br false] [1, 2, 3, 6] [0, 1, 2, 3, 4, 5] [isB (ilt x112 x111) false] (by kernel_rfl) (.cons d0 .nil)
def L8bL (j0 : List (El FF)) (j1 j2 j3 : List Int) (r a0 a1 a2 a3 a4 a5 a6 a7 y z : Int) : Nat → Int → List Int → Int → Option (List Int)
  | 0, _, _, _ => none
  | fuel + 1, x111, y5, x112 => (bif ilt x112 x111 then bif decide (inB x112 (lenI j3)) then bif decide (ltN (idxN 0 x112) (lenI j3)) then bif decide (u64B (icv .u64 (getI j3 (idxN 0 x112))) = true) then bif decide (y5.length ≤ 50000) then L8bL j0 j1 j2 j3 r a0 a1 a2 a3 a4 a5 a6 a7 y z  fuel (x111) (y5.append (vb (icv .u64 (getI j3 (idxN 0 x112))))) (iadd .i64 x112 1) else none else none else none else none else some (y5))
theorem L8b (j0 : List (El FF)) (j1 j2 j3 : List Int) (r a0 a1 a2 a3 a4 a5 a6 a7 y z : Int) : ∀ (fuel : Nat) (x111 : Int) (y5 : List Int) (x112 : Int) (o0 : List Int) (_ : L8bL j0 j1 j2 j3 r a0 a1 a2 a3 a4 a5 a6 a7 y z  fuel  x111 y5 x112 = some (o0)), ARun Try.prog 4 (.loop (lp Try.f8 1)) (L8bS j0 j1 j2 j3 r a0 a1 a2 a3 a4 a5 a6 a7 y z  x111 y5 x112) (L8bH j0 j1 j2 j3 r a0 a1 a2 a3 a4 a5 a6 a7 y z  x111 y5 x112) (AExit.exit 2) (L8bT j0 j1 j2 j3 r a0 a1 a2 a3 a4 a5 a6 a7 y z  o0) (L8bU j0 j1 j2 j3 r a0 a1 a2 a3 a4 a5 a6 a7 y z  o0)
  | 0, _, _, _, _, h => by simp [L8bL] at h
  | fuel + 1, x111, y5, x112, o0, h => by
    simp only [L8bL] at h
    exact (splitB h (fun d0 h => (chk h (fun s0 h => chk h (fun s1 h => chk h (fun s2 h => chk h (fun s3 h => L8b_1 j0 j1 j2 j3 r a0 a1 a2 a3 a4 a5 a6 a7 y z  x111 y5 x112 d0 s0 s1 s2 s3 (L8b j0 j1 j2 j3 r a0 a1 a2 a3 a4 a5 a6 a7 y z  fuel (x111) (y5.append (vb (icv .u64 (getI j3 (idxN 0 x112))))) (iadd .i64 x112 1) o0 h))))))) (fun d0 h => ((by cases h; exact L8b_2 j0 j1 j2 j3 r a0 a1 a2 a3 a4 a5 a6 a7 y z  x111 y5 x112 d0))))
def f8r0 (j0 : List (El FF)) (j1 j2 j3 : List Int) (r a0 a1 a2 a3 a4 a5 a6 a7 y z : Int) (L8a_0_fuel : Nat) (L8a_0_o0 : List Int) (L8b_1_fuel : Nat) (L8b_1_o0 : List Int) : Int := bif ine (ckE r a0 a1 a2 a3 a4 a5 a6 a7 y z (lenR FF j0) (lenI j1) (lenI j2) (lenI j3) (fb j0 j1) (pix j2)) 0 then ckE r a0 a1 a2 a3 a4 a5 a6 a7 y z (lenR FF j0) (lenI j1) (lenI j2) (lenI j3) (fb j0 j1) (pix j2) else 0
def f8r1 (j0 : List (El FF)) (j1 j2 j3 : List Int) (r a0 a1 a2 a3 a4 a5 a6 a7 y z : Int) (L8a_0_fuel : Nat) (L8a_0_o0 : List Int) (L8b_1_fuel : Nat) (L8b_1_o0 : List Int) : List Int := bif ine (ckE r a0 a1 a2 a3 a4 a5 a6 a7 y z (lenR FF j0) (lenI j1) (lenI j2) (lenI j3) (fb j0 j1) (pix j2)) 0 then [] else (L8b_1_o0.append (vb (icv .u64 y))).append (zb [z])
theorem f8_1 (j0 : List (El FF)) (j1 j2 j3 : List Int) (r a0 a1 a2 a3 a4 a5 a6 a7 y z : Int)  (d0 : (ine (ckE r a0 a1 a2 a3 a4 a5 a6 a7 y z (lenR FF j0) (lenI j1) (lenI j2) (lenI j3) (fb j0 j1) (pix j2)) 0) = true) : ACalls Try.prog 8 [(cC r a0 a1 a2 a3 a4 a5 a6 a7 y z)] (hH j0 j1 j2 j3) (AV.tup [AV.sw 4 1, AV.v (.int .i64 (ckE r a0 a1 a2 a3 a4 a5 a6 a7 y z (lenR FF j0) (lenI j1) (lenI j2) (lenI j3) (fb j0 j1) (pix j2)))]) [] [AObj.ints 0 true IntKind.u8 []] :=
  ACalls.nb (res := AV.tup [AV.sw 4 1, AV.v (.int .i64 (ckE r a0 a1 a2 a3 a4 a5 a6 a7 y z (lenR FF j0) (lenI j1) (lenI j2) (lenI j3) (fb j0 j1) (pix j2)))]) (.of_out [Orc.call [0, 1, 2, 3] (AV.tup [AV.v (.int .i64 (ckE r a0 a1 a2 a3 a4 a5 a6 a7 y z (lenR FF j0) (lenI j1) (lenI j2) (lenI j3) (fb j0 j1) (pix j2))), AV.v (.int .i64 (ckK r a0 a1 a2 a3 a4 a5 a6 a7 y z (lenR FF j0) (lenI j1) (lenI j2) (lenI j3) (fb j0 j1) (pix j2)))]) [] [], Orc.br true, Orc.fin (Gh.nil 2 1 (AObj.ints 0 true IntKind.u8 []))] [0, 1, 2, 3, 5] [ACalls Try.prog 14 [(cC r a0 a1 a2 a3 a4 a5 a6 a7 y z)] (hH j0 j1 j2 j3) (AV.tup [AV.v (.int .i64 (ckE r a0 a1 a2 a3 a4 a5 a6 a7 y z (lenR FF j0) (lenI j1) (lenI j2) (lenI j3) (fb j0 j1) (pix j2))), AV.v (.int .i64 (ckK r a0 a1 a2 a3 a4 a5 a6 a7 y z (lenR FF j0) (lenI j1) (lenI j2) (lenI j3) (fb j0 j1) (pix j2)))]) [] [], isB (ine (ckE r a0 a1 a2 a3 a4 a5 a6 a7 y z (lenR FF j0) (lenI j1) (lenI j2) (lenI j3) (fb j0 j1) (pix j2)) 0) true] Try.func8 (by kernel_rfl) (by kernel_rfl) (.cons (by apply g14) (.cons d0 .nil)))
theorem f8_2 (j0 : List (El FF)) (j1 j2 j3 : List Int) (r a0 a1 a2 a3 a4 a5 a6 a7 y z : Int) (L8a_0_fuel : Nat) (L8a_0_o0 : List Int) (L8b_1_fuel : Nat) (L8b_1_o0 : List Int)  (d0 : (ine (ckE r a0 a1 a2 a3 a4 a5 a6 a7 y z (lenR FF j0) (lenI j1) (lenI j2) (lenI j3) (fb j0 j1) (pix j2)) 0) = false) (L8a_0_h0 : ((ine (ckE r a0 a1 a2 a3 a4 a5 a6 a7 y z (lenR FF j0) (lenI j1) (lenI j2) (lenI j3) (fb j0 j1) (pix j2)) 0) = false) → L8aL j0 j1 j2 j3 r a0 a1 a2 a3 a4 a5 a6 a7 y z L8a_0_fuel (nlen (lenR FF j0)) (76 :: 69 :: 65 :: 84 :: vb (icv .u64 (nlen (lenR FF j0)))) 0 = some L8a_0_o0) (L8b_1_h0 : ((ine (ckE r a0 a1 a2 a3 a4 a5 a6 a7 y z (lenR FF j0) (lenI j1) (lenI j2) (lenI j3) (fb j0 j1) (pix j2)) 0) = false) → L8bL j0 j1 j2 j3 r a0 a1 a2 a3 a4 a5 a6 a7 y z L8b_1_fuel (nlen (lenI j3)) ((((L8a_0_o0.append (zb [r, a0, a1, a2, a3, a4, a5, a6, a7])).append (vb (icv .u64 (nlen (lenI j2))))).append (zb j2)).append (vb (icv .u64 (nlen (lenI j3))))) 0 = some L8b_1_o0) (s0 : ((ine (ckE r a0 a1 a2 a3 a4 a5 a6 a7 y z (lenR FF j0) (lenI j1) (lenI j2) (lenI j3) (fb j0 j1) (pix j2)) 0) = false) → u64B (icv .u64 (nlen (lenR FF j0))) = true) (s1 : ((ine (ckE r a0 a1 a2 a3 a4 a5 a6 a7 y z (lenR FF j0) (lenI j1) (lenI j2) (lenI j3) (fb j0 j1) (pix j2)) 0) = false) → okZ L8a_0_o0 [r, a0, a1, a2, a3, a4, a5, a6, a7] = true) (s2 : ((ine (ckE r a0 a1 a2 a3 a4 a5 a6 a7 y z (lenR FF j0) (lenI j1) (lenI j2) (lenI j3) (fb j0 j1) (pix j2)) 0) = false) → u64B (icv .u64 (nlen (lenI j2))) = true) (s3 : ((ine (ckE r a0 a1 a2 a3 a4 a5 a6 a7 y z (lenR FF j0) (lenI j1) (lenI j2) (lenI j3) (fb j0 j1) (pix j2)) 0) = false) → (L8a_0_o0.append (zb [r, a0, a1, a2, a3, a4, a5, a6, a7])).length ≤ 50000) (s4 : ((ine (ckE r a0 a1 a2 a3 a4 a5 a6 a7 y z (lenR FF j0) (lenI j1) (lenI j2) (lenI j3) (fb j0 j1) (pix j2)) 0) = false) → okZ ((L8a_0_o0.append (zb [r, a0, a1, a2, a3, a4, a5, a6, a7])).append (vb (icv .u64 (nlen (lenI j2))))) j2 = true) (s5 : ((ine (ckE r a0 a1 a2 a3 a4 a5 a6 a7 y z (lenR FF j0) (lenI j1) (lenI j2) (lenI j3) (fb j0 j1) (pix j2)) 0) = false) → u64B (icv .u64 (nlen (lenI j3))) = true) (s6 : ((ine (ckE r a0 a1 a2 a3 a4 a5 a6 a7 y z (lenR FF j0) (lenI j1) (lenI j2) (lenI j3) (fb j0 j1) (pix j2)) 0) = false) → (((L8a_0_o0.append (zb [r, a0, a1, a2, a3, a4, a5, a6, a7])).append (vb (icv .u64 (nlen (lenI j2))))).append (zb j2)).length ≤ 50000) (s7 : ((ine (ckE r a0 a1 a2 a3 a4 a5 a6 a7 y z (lenR FF j0) (lenI j1) (lenI j2) (lenI j3) (fb j0 j1) (pix j2)) 0) = false) → u64B (icv .u64 y) = true) (s8 : ((ine (ckE r a0 a1 a2 a3 a4 a5 a6 a7 y z (lenR FF j0) (lenI j1) (lenI j2) (lenI j3) (fb j0 j1) (pix j2)) 0) = false) → L8b_1_o0.length ≤ 50000) (s9 : ((ine (ckE r a0 a1 a2 a3 a4 a5 a6 a7 y z (lenR FF j0) (lenI j1) (lenI j2) (lenI j3) (fb j0 j1) (pix j2)) 0) = false) → okZ (L8b_1_o0.append (vb (icv .u64 y))) [z] = true) : ACalls Try.prog 8 [(cC r a0 a1 a2 a3 a4 a5 a6 a7 y z)] (hH j0 j1 j2 j3) (AV.tup [AV.sw 4 1, AV.v (.int .i64 0)]) [] [AObj.ints 0 true IntKind.u8 ((L8b_1_o0.append (vb (icv .u64 y))).append (zb [z]))] :=
  ACalls.nb (res := AV.tup [AV.sw 4 1, AV.v (.int .i64 0)]) (.of_out [Orc.call [0, 1, 2, 3] (AV.tup [AV.v (.int .i64 (ckE r a0 a1 a2 a3 a4 a5 a6 a7 y z (lenR FF j0) (lenI j1) (lenI j2) (lenI j3) (fb j0 j1) (pix j2))), AV.v (.int .i64 (ckK r a0 a1 a2 a3 a4 a5 a6 a7 y z (lenR FF j0) (lenI j1) (lenI j2) (lenI j3) (fb j0 j1) (pix j2)))]) [] [], Orc.br false, Orc.call [5, 6] (AV.sw 2 1) [] [AObj.ints 0 true IntKind.u8 (76 :: 69 :: 65 :: 84 :: vb (icv .u64 (nlen (lenR FF j0))))], Orc.loop [1, 2, 3, 6, 29, 30, 31] [0, 1, 2, 3, 4, 7] (AExit.exit 0) (tg [(1, AV.ptr 4 0), (0, AV.v (Value.slice none 0 0)), (0, AV.v (.int .i64 0)), (2, AV.sw 5 1)] 125) [AObj.rows false FF j0, AObj.ints 0 false .i64 j1, AObj.ints 0 false .i64 j2, AObj.ints 0 false IntKind.u32 j3, AObj.cells 0 true [AV.sw 0 10, AV.sw 1 1, AV.v (.int .i64 r), AV.v (.int .i64 a0), AV.v (.int .i64 a1), AV.v (.int .i64 a2), AV.v (.int .i64 a3), AV.v (.int .i64 a4), AV.v (.int .i64 a5), AV.v (.int .i64 a6), AV.v (.int .i64 a7), AV.sw 2 1, AV.sw 3 1, AV.v (.int .i64 y), AV.v (.int .i64 z)], AObj.ints 0 true IntKind.u8 L8a_0_o0], Orc.call [5, 7] (AV.sw 2 1) [(0, AObj.dead)] [AObj.ints 0 true IntKind.u8 (L8a_0_o0.append (zb [r, a0, a1, a2, a3, a4, a5, a6, a7]))], Orc.call [8, 9] (AV.sw 2 1) [] [AObj.ints 0 true IntKind.u8 ((L8a_0_o0.append (zb [r, a0, a1, a2, a3, a4, a5, a6, a7])).append (vb (icv .u64 (nlen (lenI j2)))))], Orc.call [10, 2] (AV.sw 2 1) [(0, AObj.dead)] [AObj.ints 0 true IntKind.u8 (((L8a_0_o0.append (zb [r, a0, a1, a2, a3, a4, a5, a6, a7])).append (vb (icv .u64 (nlen (lenI j2))))).append (zb j2))], Orc.call [11, 12] (AV.sw 2 1) [] [AObj.ints 0 true IntKind.u8 ((((L8a_0_o0.append (zb [r, a0, a1, a2, a3, a4, a5, a6, a7])).append (vb (icv .u64 (nlen (lenI j2))))).append (zb j2)).append (vb (icv .u64 (nlen (lenI j3)))))], Orc.loop [1, 2, 3, 6, 110, 111, 112] [0, 1, 2, 3, 4, 13] (AExit.exit 2) (tg [(1, AV.ptr 4 0), (0, AV.v (Value.slice none 0 0)), (0, AV.v (.int .i64 0)), (2, AV.sw 5 1)] 125) [AObj.rows false FF j0, AObj.ints 0 false .i64 j1, AObj.ints 0 false .i64 j2, AObj.ints 0 false IntKind.u32 j3, AObj.cells 0 true [AV.sw 0 10, AV.sw 1 1, AV.v (.int .i64 r), AV.v (.int .i64 a0), AV.v (.int .i64 a1), AV.v (.int .i64 a2), AV.v (.int .i64 a3), AV.v (.int .i64 a4), AV.v (.int .i64 a5), AV.v (.int .i64 a6), AV.v (.int .i64 a7), AV.sw 2 1, AV.sw 3 1, AV.v (.int .i64 y), AV.v (.int .i64 z)], AObj.ints 0 true IntKind.u8 L8b_1_o0], Orc.call [5, 6] (AV.sw 2 1) [] [AObj.ints 0 true IntKind.u8 (L8b_1_o0.append (vb (icv .u64 y)))], Orc.call [7, 8] (AV.sw 2 1) [(0, AObj.dead)] [AObj.ints 0 true IntKind.u8 ((L8b_1_o0.append (vb (icv .u64 y))).append (zb [z]))]] [0, 1, 2, 3, 9] [ACalls Try.prog 14 [(cC r a0 a1 a2 a3 a4 a5 a6 a7 y z)] (hH j0 j1 j2 j3) (AV.tup [AV.v (.int .i64 (ckE r a0 a1 a2 a3 a4 a5 a6 a7 y z (lenR FF j0) (lenI j1) (lenI j2) (lenI j3) (fb j0 j1) (pix j2))), AV.v (.int .i64 (ckK r a0 a1 a2 a3 a4 a5 a6 a7 y z (lenR FF j0) (lenI j1) (lenI j2) (lenI j3) (fb j0 j1) (pix j2)))]) [] [], isB (ine (ckE r a0 a1 a2 a3 a4 a5 a6 a7 y z (lenR FF j0) (lenI j1) (lenI j2) (lenI j3) (fb j0 j1) (pix j2)) 0) false, ACalls Try.prog 15 [AV.sw 0 1, AV.sw 1 1] [AObj.ints 0 false IntKind.u8 [76, 69, 65, 84], AObj.ints 0 true .u64 [icv .u64 (nlen (lenR FF j0))]] (AV.sw 2 1) [] [AObj.ints 0 true IntKind.u8 (76 :: 69 :: 65 :: 84 :: vb (icv .u64 (nlen (lenR FF j0))))], _, ACalls Try.prog 16 [AV.sw 0 1, AV.sw 1 1] [AObj.ints 0 true IntKind.u8 L8a_0_o0, AObj.ints 0 true .i64 [r, a0, a1, a2, a3, a4, a5, a6, a7]] (AV.sw 2 1) [(0, AObj.dead)] [AObj.ints 0 true IntKind.u8 (L8a_0_o0.append (zb [r, a0, a1, a2, a3, a4, a5, a6, a7]))], Mixed Try.prog, ACalls Try.prog 15 [AV.sw 0 1, AV.sw 1 1] [AObj.ints 0 true IntKind.u8 (L8a_0_o0.append (zb [r, a0, a1, a2, a3, a4, a5, a6, a7])), AObj.ints 0 true .u64 [icv .u64 (nlen (lenI j2))]] (AV.sw 2 1) [] [AObj.ints 0 true IntKind.u8 ((L8a_0_o0.append (zb [r, a0, a1, a2, a3, a4, a5, a6, a7])).append (vb (icv .u64 (nlen (lenI j2)))))], ACalls Try.prog 16 [AV.sw 0 1, AV.sw 1 1] [AObj.ints 0 true IntKind.u8 ((L8a_0_o0.append (zb [r, a0, a1, a2, a3, a4, a5, a6, a7])).append (vb (icv .u64 (nlen (lenI j2))))), AObj.ints 0 false .i64 j2] (AV.sw 2 1) [(0, AObj.dead)] [AObj.ints 0 true IntKind.u8 (((L8a_0_o0.append (zb [r, a0, a1, a2, a3, a4, a5, a6, a7])).append (vb (icv .u64 (nlen (lenI j2))))).append (zb j2))], ACalls Try.prog 15 [AV.sw 0 1, AV.sw 1 1] [AObj.ints 0 true IntKind.u8 (((L8a_0_o0.append (zb [r, a0, a1, a2, a3, a4, a5, a6, a7])).append (vb (icv .u64 (nlen (lenI j2))))).append (zb j2)), AObj.ints 0 true .u64 [icv .u64 (nlen (lenI j3))]] (AV.sw 2 1) [] [AObj.ints 0 true IntKind.u8 ((((L8a_0_o0.append (zb [r, a0, a1, a2, a3, a4, a5, a6, a7])).append (vb (icv .u64 (nlen (lenI j2))))).append (zb j2)).append (vb (icv .u64 (nlen (lenI j3)))))], _, Mixed Try.prog, ACalls Try.prog 15 [AV.sw 0 1, AV.sw 1 1] [AObj.ints 0 true IntKind.u8 L8b_1_o0, AObj.ints 0 true .u64 [icv .u64 y]] (AV.sw 2 1) [] [AObj.ints 0 true IntKind.u8 (L8b_1_o0.append (vb (icv .u64 y)))], ACalls Try.prog 16 [AV.sw 0 1, AV.sw 1 1] [AObj.ints 0 true IntKind.u8 (L8b_1_o0.append (vb (icv .u64 y))), AObj.ints 0 true .i64 [z]] (AV.sw 2 1) [(0, AObj.dead)] [AObj.ints 0 true IntKind.u8 ((L8b_1_o0.append (vb (icv .u64 y))).append (zb [z]))]] Try.func8 (by kernel_rfl) (by kernel_rfl) (.cons (by apply g14) (.cons d0 (.cons (by apply Go.Proofs.Ytlmnohdgfjienaa.Code.g15a <;> (first | exact (s0 d0) | (simp [nz, nn, inB, ltN]; done) | decide)) (.cons (L8a _ _ _ _ _ _ _ _ _ _ _ _ _ _ _ _ _ _ _ _ (L8a_0_h0 d0)) (.cons (by apply g16 <;> (first | exact (s1 d0))) (.cons (by show _ = _; kernel_rfl) (.cons (by apply Go.Proofs.Ytlmnohdgfjienaa.Code.g15a <;> (first | exact (s2 d0) | exact (s3 d0))) (.cons (by apply g16 <;> (first | exact (s4 d0))) (.cons (by apply Go.Proofs.Ytlmnohdgfjienaa.Code.g15a <;> (first | exact (s5 d0) | exact (s6 d0))) (.cons (L8b _ _ _ _ _ _ _ _ _ _ _ _ _ _ _ _ _ _ _ _ (L8b_1_h0 d0)) (.cons (by show _ = _; kernel_rfl) (.cons (by apply Go.Proofs.Ytlmnohdgfjienaa.Code.g15a <;> (first | exact (s7 d0) | exact (s8 d0))) (.cons (by apply g16 <;> (first | exact (s9 d0))) .nil))))))))))))))
theorem f8 (j0 : List (El FF)) (j1 j2 j3 : List Int) (r a0 a1 a2 a3 a4 a5 a6 a7 y z : Int) (L8a_0_fuel : Nat) (L8a_0_o0 : List Int) (L8b_1_fuel : Nat) (L8b_1_o0 : List Int) (L8a_0_h0 : ((ine (ckE r a0 a1 a2 a3 a4 a5 a6 a7 y z (lenR FF j0) (lenI j1) (lenI j2) (lenI j3) (fb j0 j1) (pix j2)) 0) = false) → L8aL j0 j1 j2 j3 r a0 a1 a2 a3 a4 a5 a6 a7 y z L8a_0_fuel (nlen (lenR FF j0)) (76 :: 69 :: 65 :: 84 :: vb (icv .u64 (nlen (lenR FF j0)))) 0 = some L8a_0_o0) (L8b_1_h0 : ((ine (ckE r a0 a1 a2 a3 a4 a5 a6 a7 y z (lenR FF j0) (lenI j1) (lenI j2) (lenI j3) (fb j0 j1) (pix j2)) 0) = false) → L8bL j0 j1 j2 j3 r a0 a1 a2 a3 a4 a5 a6 a7 y z L8b_1_fuel (nlen (lenI j3)) ((((L8a_0_o0.append (zb [r, a0, a1, a2, a3, a4, a5, a6, a7])).append (vb (icv .u64 (nlen (lenI j2))))).append (zb j2)).append (vb (icv .u64 (nlen (lenI j3))))) 0 = some L8b_1_o0) (s0 : ((ine (ckE r a0 a1 a2 a3 a4 a5 a6 a7 y z (lenR FF j0) (lenI j1) (lenI j2) (lenI j3) (fb j0 j1) (pix j2)) 0) = false) → u64B (icv .u64 (nlen (lenR FF j0))) = true) (s1 : ((ine (ckE r a0 a1 a2 a3 a4 a5 a6 a7 y z (lenR FF j0) (lenI j1) (lenI j2) (lenI j3) (fb j0 j1) (pix j2)) 0) = false) → okZ L8a_0_o0 [r, a0, a1, a2, a3, a4, a5, a6, a7] = true) (s2 : ((ine (ckE r a0 a1 a2 a3 a4 a5 a6 a7 y z (lenR FF j0) (lenI j1) (lenI j2) (lenI j3) (fb j0 j1) (pix j2)) 0) = false) → u64B (icv .u64 (nlen (lenI j2))) = true) (s3 : ((ine (ckE r a0 a1 a2 a3 a4 a5 a6 a7 y z (lenR FF j0) (lenI j1) (lenI j2) (lenI j3) (fb j0 j1) (pix j2)) 0) = false) → (L8a_0_o0.append (zb [r, a0, a1, a2, a3, a4, a5, a6, a7])).length ≤ 50000) (s4 : ((ine (ckE r a0 a1 a2 a3 a4 a5 a6 a7 y z (lenR FF j0) (lenI j1) (lenI j2) (lenI j3) (fb j0 j1) (pix j2)) 0) = false) → okZ ((L8a_0_o0.append (zb [r, a0, a1, a2, a3, a4, a5, a6, a7])).append (vb (icv .u64 (nlen (lenI j2))))) j2 = true) (s5 : ((ine (ckE r a0 a1 a2 a3 a4 a5 a6 a7 y z (lenR FF j0) (lenI j1) (lenI j2) (lenI j3) (fb j0 j1) (pix j2)) 0) = false) → u64B (icv .u64 (nlen (lenI j3))) = true) (s6 : ((ine (ckE r a0 a1 a2 a3 a4 a5 a6 a7 y z (lenR FF j0) (lenI j1) (lenI j2) (lenI j3) (fb j0 j1) (pix j2)) 0) = false) → (((L8a_0_o0.append (zb [r, a0, a1, a2, a3, a4, a5, a6, a7])).append (vb (icv .u64 (nlen (lenI j2))))).append (zb j2)).length ≤ 50000) (s7 : ((ine (ckE r a0 a1 a2 a3 a4 a5 a6 a7 y z (lenR FF j0) (lenI j1) (lenI j2) (lenI j3) (fb j0 j1) (pix j2)) 0) = false) → u64B (icv .u64 y) = true) (s8 : ((ine (ckE r a0 a1 a2 a3 a4 a5 a6 a7 y z (lenR FF j0) (lenI j1) (lenI j2) (lenI j3) (fb j0 j1) (pix j2)) 0) = false) → L8b_1_o0.length ≤ 50000) (s9 : ((ine (ckE r a0 a1 a2 a3 a4 a5 a6 a7 y z (lenR FF j0) (lenI j1) (lenI j2) (lenI j3) (fb j0 j1) (pix j2)) 0) = false) → okZ (L8b_1_o0.append (vb (icv .u64 y))) [z] = true) : ACalls Try.prog 8 [(cC r a0 a1 a2 a3 a4 a5 a6 a7 y z)] (hH j0 j1 j2 j3) (AV.tup [AV.sw 4 1, AV.v (.int .i64 (f8r0 j0 j1 j2 j3 r a0 a1 a2 a3 a4 a5 a6 a7 y z L8a_0_fuel L8a_0_o0 L8b_1_fuel L8b_1_o0))]) [] [AObj.ints 0 true IntKind.u8 (f8r1 j0 j1 j2 j3 r a0 a1 a2 a3 a4 a5 a6 a7 y z L8a_0_fuel L8a_0_o0 L8b_1_fuel L8b_1_o0)] := by
  have h := (ACalls.cond (ine (ckE r a0 a1 a2 a3 a4 a5 a6 a7 y z (lenR FF j0) (lenI j1) (lenI j2) (lenI j3) (fb j0 j1) (pix j2)) 0) (fun d0 => (f8_1 j0 j1 j2 j3 r a0 a1 a2 a3 a4 a5 a6 a7 y z d0)) (fun d0 => (f8_2 j0 j1 j2 j3 r a0 a1 a2 a3 a4 a5 a6 a7 y z L8a_0_fuel L8a_0_o0 L8b_1_fuel L8b_1_o0 d0 L8a_0_h0 L8b_1_h0 s0 s1 s2 s3 s4 s5 s6 s7 s8 s9)))
  simp only [c_int, c_bool, c_str, c_agg, c_tup, c_fn, c_ifc, c_sl, c_pe, c_ptr, c_rows, c_siter, c_consA, c_consU, c_consO, c_cells, c_ints, c_bools, c_strs, c_same] at h
  exact h
end Go.Proofs.Ytlmnohdgfjienaa.Cf

set_option maxRecDepth 100000
set_option linter.all false
set_option maxHeartbeats 0
set_option linter.unusedSimpArgs false
set_option linter.unusedVariables false
namespace Go.Proofs.Ytlmnohdgfjienaa.Cf
open Go.Abs Go.Proofs.Ytlmnohdgfjienaa.Code Go.Proofs.Ytlmnohdgfjienaa.Code
def L9aS (j0 : List (El FF)) (j1 j2 j3 : List Int) (r a0 a1 a2 a3 a4 a5 a6 a7 y z : Int) (y5 : List Int) (x7 : Int) : Tm := (tg [(1, AV.ptr 4 0), (0, AV.v (Value.slice none 0 0)), (0, AV.v (.int .i64 0)), (2, AV.sw 5 1), (0, AV.v (.int .i64 x7))] 108)
def L9aH (j0 : List (El FF)) (j1 j2 j3 : List Int) (r a0 a1 a2 a3 a4 a5 a6 a7 y z : Int) (y5 : List Int) (x7 : Int) : List AObj := [AObj.rows false FF j0, AObj.ints 0 false .i64 j1, AObj.ints 0 false .i64 j2, AObj.ints 0 false IntKind.u32 j3, AObj.cells 0 true [AV.sw 0 10, AV.sw 1 1, AV.v (.int .i64 r), AV.v (.int .i64 a0), AV.v (.int .i64 a1), AV.v (.int .i64 a2), AV.v (.int .i64 a3), AV.v (.int .i64 a4), AV.v (.int .i64 a5), AV.v (.int .i64 a6), AV.v (.int .i64 a7), AV.sw 2 1, AV.sw 3 1, AV.v (.int .i64 y), AV.v (.int .i64 z)], AObj.ints 0 true IntKind.u8 y5]
def L9aT (j0 : List (El FF)) (j1 j2 j3 : List Int) (r a0 a1 a2 a3 a4 a5 a6 a7 y z : Int) (o0 : List Int) : Tm := (tg [(1, AV.ptr 4 0), (0, AV.v (Value.slice none 0 0)), (0, AV.v (.int .i64 0)), (2, AV.sw 5 1)] 109)
def L9aU (j0 : List (El FF)) (j1 j2 j3 : List Int) (r a0 a1 a2 a3 a4 a5 a6 a7 y z : Int) (o0 : List Int) : List AObj := [AObj.rows false FF j0, AObj.ints 0 false .i64 j1, AObj.ints 0 false .i64 j2, AObj.ints 0 false IntKind.u32 j3, AObj.cells 0 true [AV.sw 0 10, AV.sw 1 1, AV.v (.int .i64 r), AV.v (.int .i64 a0), AV.v (.int .i64 a1), AV.v (.int .i64 a2), AV.v (.int .i64 a3), AV.v (.int .i64 a4), AV.v (.int .i64 a5), AV.v (.int .i64 a6), AV.v (.int .i64 a7), AV.sw 2 1, AV.sw 3 1, AV.v (.int .i64 y), AV.v (.int .i64 z)], AObj.ints 0 true IntKind.u8 o0]
theorem L9a_1 (j0 : List (El FF)) (j1 j2 j3 : List Int) (r a0 a1 a2 a3 a4 a5 a6 a7 y z : Int) (y5 : List Int) (x7 : Int)  (d0 : (ilt x7 (nlen (lenR FF j0))) = true) (s0 : inB x7 (lenR FF j0)) (s1 : ltN (idxN 0 x7) (lenR FF j0)) (s2 : u64B (icv .u64 (getR FF j0 (idxN 0 x7)).1) = true) (s3 : y5.length ≤ 50000) (s4 : inB x7 (lenI j1)) (s5 : ltN (idxN 0 x7) (lenI j1)) (s6 : okZ (y5.append (vb (icv .u64 (getR FF j0 (idxN 0 x7)).1))) [(getR FF j0 (idxN 0 x7)).snd.1, (getR FF j0 (idxN 0 x7)).snd.snd.1, (getR FF j0 (idxN 0 x7)).snd.snd.snd.1, (getR FF j0 (idxN 0 x7)).snd.snd.snd.snd.1, (getR FF j0 (idxN 0 x7)).snd.snd.snd.snd.snd.1, (getR FF j0 (idxN 0 x7)).snd.snd.snd.snd.snd.snd.1, (getR FF j0 (idxN 0 x7)).snd.snd.snd.snd.snd.snd.snd.1, (getR FF j0 (idxN 0 x7)).snd.snd.snd.snd.snd.snd.snd.snd.1, (getR FF j0 (idxN 0 x7)).snd.snd.snd.snd.snd.snd.snd.snd.2, getI j1 (idxN 0 x7)] = true) {e : AExit} {tm2 : Tm} {h2 : List AObj} (b : ARun Try.prog 4 (.loop (lp Try.f9 0)) (L9aS j0 j1 j2 j3 r a0 a1 a2 a3 a4 a5 a6 a7 y z  ((y5.append (vb (icv .u64 (getR FF j0 (idxN 0 x7)).1))).append (zb [(getR FF j0 (idxN 0 x7)).snd.1, (getR FF j0 (idxN 0 x7)).snd.snd.1, (getR FF j0 (idxN 0 x7)).snd.snd.snd.1, (getR FF j0 (idxN 0 x7)).snd.snd.snd.snd.1, (getR FF j0 (idxN 0 x7)).snd.snd.snd.snd.snd.1, (getR FF j0 (idxN 0 x7)).snd.snd.snd.snd.snd.snd.1, (getR FF j0 (idxN 0 x7)).snd.snd.snd.snd.snd.snd.snd.1, (getR FF j0 (idxN 0 x7)).snd.snd.snd.snd.snd.snd.snd.snd.1, (getR FF j0 (idxN 0 x7)).snd.snd.snd.snd.snd.snd.snd.snd.2, getI j1 (idxN 0 x7)])) (iadd .i64 x7 1)) (L9aH j0 j1 j2 j3 r a0 a1 a2 a3 a4 a5 a6 a7 y z  ((y5.append (vb (icv .u64 (getR FF j0 (idxN 0 x7)).1))).append (zb [(getR FF j0 (idxN 0 x7)).snd.1, (getR FF j0 (idxN 0 x7)).snd.snd.1, (getR FF j0 (idxN 0 x7)).snd.snd.snd.1, (getR FF j0 (idxN 0 x7)).snd.snd.snd.snd.1, (getR FF j0 (idxN 0 x7)).snd.snd.snd.snd.snd.1, (getR FF j0 (idxN 0 x7)).snd.snd.snd.snd.snd.snd.1, (getR FF j0 (idxN 0 x7)).snd.snd.snd.snd.snd.snd.snd.1, (getR FF j0 (idxN 0 x7)).snd.snd.snd.snd.snd.snd.snd.snd.1, (getR FF j0 (idxN 0 x7)).snd.snd.snd.snd.snd.snd.snd.snd.2, getI j1 (idxN 0 x7)])) (iadd .i64 x7 1)) e tm2 h2) : ARun Try.prog 4 (.loop (lp Try.f9 0)) (L9aS j0 j1 j2 j3 r a0 a1 a2 a3 a4 a5 a6 a7 y z  y5 x7) (L9aH j0 j1 j2 j3 r a0 a1 a2 a3 a4 a5 a6 a7 y z  y5 x7) e tm2 h2 :=
  .round [Orc.br true, Orc.call [5] (AV.sw 1 1) [] [AObj.ints 0 true IntKind.u8 (y5.append (vb (icv .u64 (getR FF j0 (idxN 0 x7)).1)))], Orc.call [] (AV.sw 0 1) [] [AObj.ints 0 true .i64 [(getR FF j0 (idxN 0 x7)).snd.1, (getR FF j0 (idxN 0 x7)).snd.snd.1, (getR FF j0 (idxN 0 x7)).snd.snd.snd.1, (getR FF j0 (idxN 0 x7)).snd.snd.snd.snd.1, (getR FF j0 (idxN 0 x7)).snd.snd.snd.snd.snd.1, (getR FF j0 (idxN 0 x7)).snd.snd.snd.snd.snd.snd.1, (getR FF j0 (idxN 0 x7)).snd.snd.snd.snd.snd.snd.snd.1, (getR FF j0 (idxN 0 x7)).snd.snd.snd.snd.snd.snd.snd.snd.1, (getR FF j0 (idxN 0 x7)).snd.snd.snd.snd.snd.snd.snd.snd.2, getI j1 (idxN 0 x7)]], Orc.call [6, 7] (AV.sw 2 1) [(0, AObj.dead)] [AObj.ints 0 true IntKind.u8 ((y5.append (vb (icv .u64 (getR FF j0 (idxN 0 x7)).1))).append (zb [(getR FF j0 (idxN 0 x7)).snd.1, (getR FF j0 (idxN 0 x7)).snd.snd.1, (getR FF j0 (idxN 0 x7)).snd.snd.snd.1, (getR FF j0 (idxN 0 x7)).snd.snd.snd.snd.1, (getR FF j0 (idxN 0 x7)).snd.snd.snd.snd.snd.1, (getR FF j0 (idxN 0 x7)).snd.snd.snd.snd.snd.snd.1, (getR FF j0 (idxN 0 x7)).snd.snd.snd.snd.snd.snd.snd.1, (getR FF j0 (idxN 0 x7)).snd.snd.snd.snd.snd.snd.snd.snd.1, (getR FF j0 (idxN 0 x7)).snd.snd.snd.snd.snd.snd.snd.snd.2, getI j1 (idxN 0 x7)]))]] [1, 2, 3, 6, 7] [0, 1, 2, 3, 4, 8] [isB (ilt x7 (nlen (lenR FF j0))) true, inB x7 (lenR FF j0), ltN (idxN 0 x7) (lenR FF j0), ACalls Try.prog 18 [AV.sw 0 1, AV.v (.int .u64 (icv .u64 (getR FF j0 (idxN 0 x7)).1))] [AObj.ints 0 true IntKind.u8 y5] (AV.sw 1 1) [] [AObj.ints 0 true IntKind.u8 (y5.append (vb (icv .u64 (getR FF j0 (idxN 0 x7)).1)))], Mixed Try.prog, inB x7 (lenR FF j0), ltN (idxN 0 x7) (lenR FF j0), inB x7 (lenI j1), ltN (idxN 0 x7) (lenI j1), ACalls Try.prog 20 [AV.agg [AV.v (.int .i64 (getR FF j0 (idxN 0 x7)).1), AV.v (.int .i64 (getR FF j0 (idxN 0 x7)).snd.1), AV.v (.int .i64 (getR FF j0 (idxN 0 x7)).snd.snd.1), AV.v (.int .i64 (getR FF j0 (idxN 0 x7)).snd.snd.snd.1), AV.v (.int .i64 (getR FF j0 (idxN 0 x7)).snd.snd.snd.snd.1), AV.v (.int .i64 (getR FF j0 (idxN 0 x7)).snd.snd.snd.snd.snd.1), AV.v (.int .i64 (getR FF j0 (idxN 0 x7)).snd.snd.snd.snd.snd.snd.1), AV.v (.int .i64 (getR FF j0 (idxN 0 x7)).snd.snd.snd.snd.snd.snd.snd.1), AV.v (.int .i64 (getR FF j0 (idxN 0 x7)).snd.snd.snd.snd.snd.snd.snd.snd.1), AV.v (.int .i64 (getR FF j0 (idxN 0 x7)).snd.snd.snd.snd.snd.snd.snd.snd.2)], AV.v (.int .i64 (getI j1 (idxN 0 x7)))] [] (AV.sw 0 1) [] [AObj.ints 0 true .i64 [(getR FF j0 (idxN 0 x7)).snd.1, (getR FF j0 (idxN 0 x7)).snd.snd.1, (getR FF j0 (idxN 0 x7)).snd.snd.snd.1, (getR FF j0 (idxN 0 x7)).snd.snd.snd.snd.1, (getR FF j0 (idxN 0 x7)).snd.snd.snd.snd.snd.1, (getR FF j0 (idxN 0 x7)).snd.snd.snd.snd.snd.snd.1, (getR FF j0 (idxN 0 x7)).snd.snd.snd.snd.snd.snd.snd.1, (getR FF j0 (idxN 0 x7)).snd.snd.snd.snd.snd.snd.snd.snd.1, (getR FF j0 (idxN 0 x7)).snd.snd.snd.snd.snd.snd.snd.snd.2, getI j1 (idxN 0 x7)]], ACalls Try.prog 19 [AV.sw 0 1, AV.sw 1 1] [AObj.ints 0 true IntKind.u8 (y5.append (vb (icv .u64 (getR FF j0 (idxN 0 x7)).1))), AObj.ints 0 true .i64 [(getR FF j0 (idxN 0 x7)).snd.1, (getR FF j0 (idxN 0 x7)).snd.snd.1, (getR FF j0 (idxN 0 x7)).snd.snd.snd.1, (getR FF j0 (idxN 0 x7)).snd.snd.snd.snd.1, (getR FF j0 (idxN 0 x7)).snd.snd.snd.snd.snd.1, (getR FF j0 (idxN 0 x7)).snd.snd.snd.snd.snd.snd.1, (getR FF j0 (idxN 0 x7)).snd.snd.snd.snd.snd.snd.snd.1, (getR FF j0 (idxN 0 x7)).snd.snd.snd.snd.snd.snd.snd.snd.1, (getR FF j0 (idxN 0 x7)).snd.snd.snd.snd.snd.snd.snd.snd.2, getI j1 (idxN 0 x7)]] (AV.sw 2 1) [(0, AObj.dead)] [AObj.ints 0 true IntKind.u8 ((y5.append (vb (icv .u64 (getR FF j0 (idxN 0 x7)).1))).append (zb [(getR FF j0 (idxN 0 x7)).snd.1, (getR FF j0 (idxN 0 x7)).snd.snd.1, (getR FF j0 (idxN 0 x7)).snd.snd.snd.1, (getR FF j0 (idxN 0 x7)).snd.snd.snd.snd.1, (getR FF j0 (idxN 0 x7)).snd.snd.snd.snd.snd.1, (getR FF j0 (idxN 0 x7)).snd.snd.snd.snd.snd.snd.1, (getR FF j0 (idxN 0 x7)).snd.snd.snd.snd.snd.snd.snd.1, (getR FF j0 (idxN 0 x7)).snd.snd.snd.snd.snd.snd.snd.snd.1, (getR FF j0 (idxN 0 x7)).snd.snd.snd.snd.snd.snd.snd.snd.2, getI j1 (idxN 0 x7)]))]] (by kernel_rfl) (.cons d0 (.cons (s0) (.cons (s1) (.cons (by apply Go.Proofs.Ytlmnohdgfjienaa.Code.g18 <;> (first | exact (s2) | exact (s3))) (.cons (by show _ = _; kernel_rfl) (.cons (s0) (.cons (s1) (.cons (s4) (.cons (s5) (.cons (by apply f20) (.cons (by apply g19 <;> (first | exact (s6))) .nil))))))))))) b
theorem L9a_2 (j0 : List (El FF)) (j1 j2 j3 : List Int) (r a0 a1 a2 a3 a4 a5 a6 a7 y z : Int) (y5 : List Int) (x7 : Int)  (d0 : (ilt x7 (nlen (lenR FF j0))) = false) : ARun Try.prog 4 (.loop (lp Try.f9 0)) (L9aS j0 j1 j2 j3 r a0 a1 a2 a3 a4 a5 a6 a7 y z  y5 x7) (L9aH j0 j1 j2 j3 r a0 a1 a2 a3 a4 a5 a6 a7 y z  y5 x7) (AExit.exit 0) (L9aT j0 j1 j2 j3 r a0 a1 a2 a3 a4 a5 a6 a7 y z  (y5)) (L9aU j0 j1 j2 j3 r a0 a1 a2 a3 a4 a5 a6 a7 y z  (y5)) :=
  .last [Orc.br false] [1, 2, 3, 6, 8, 9, 95] [0, 1, 2, 3, 4, 5] [isB (ilt x7 (nlen (lenR FF j0))) false] (by kernel_rfl) (.cons d0 .nil)
def L9aL (j0 : List (El FF)) (j1 j2 j3 : List Int) (r a0 a1 a2 a3 a4 a5 a6 a7 y z : Int) : Nat → List Int → Int → Option (List Int)
  | 0, _, _ => none
  | fuel + 1, y5, x7 => (bif ilt x7 (nlen (lenR FF j0)) then bif decide (inB x7 (lenR FF j0)) then bif decide (ltN (idxN 0 x7) (lenR FF j0)) then bif decide (u64B (icv .u64 (getR FF j0 (idxN 0 x7)).1) = true) then bif decide (y5.length ≤ 50000) then bif decide (inB x7 (lenI j1)) then bif decide (ltN (idxN 0 x7) (lenI j1)) then bif decide (okZ (y5.append (vb (icv .u64 (getR FF j0 (idxN 0 x7)).1))) [(getR FF j0 (idxN 0 x7)).snd.1, (getR FF j0 (idxN 0 x7)).snd.snd.1, (getR FF j0 (idxN 0 x7)).snd.snd.snd.1, (getR FF j0 (idxN 0 x7)).snd.snd.snd.snd.1, (getR FF j0 (idxN 0 x7)).snd.snd.snd.snd.snd.1, (getR FF j0 (idxN 0 x7)).snd.snd.snd.snd.snd.snd.1, (getR FF j0 (idxN 0 x7)).snd.snd.snd.snd.snd.snd.snd.1, (getR FF j0 (idxN 0 x7)).snd.snd.snd.snd.snd.snd.snd.snd.1, (getR FF j0 (idxN 0 x7)).snd.snd.snd.snd.snd.snd.snd.snd.2, getI j1 (idxN 0 x7)] = true) then L9aL j0 j1 j2 j3 r a0 a1 a2 a3 a4 a5 a6 a7 y z  fuel ((y5.append (vb (icv .u64 (getR FF j0 (idxN 0 x7)).1))).append (zb [(getR FF j0 (idxN 0 x7)).snd.1, (getR FF j0 (idxN 0 x7)).snd.snd.1, (getR FF j0 (idxN 0 x7)).snd.snd.snd.1, (getR FF j0 (idxN 0 x7)).snd.snd.snd.snd.1, (getR FF j0 (idxN 0 x7)).snd.snd.snd.snd.snd.1, (getR FF j0 (idxN 0 x7)).snd.snd.snd.snd.snd.snd.1, (getR FF j0 (idxN 0 x7)).snd.snd.snd.snd.snd.snd.snd.1, (getR FF j0 (idxN 0 x7)).snd.snd.snd.snd.snd.snd.snd.snd.1, (getR FF j0 (idxN 0 x7)).snd.snd.snd.snd.snd.snd.snd.snd.2, getI j1 (idxN 0 x7)])) (iadd .i64 x7 1) else none else none else none else none else none else none else none else some (y5))
theorem L9a (j0 : List (El FF)) (j1 j2 j3 : List Int) (r a0 a1 a2 a3 a4 a5 a6 a7 y z : Int) : ∀ (fuel : Nat) (y5 : List Int) (x7 : Int) (o0 : List Int) (_ : L9aL j0 j1 j2 j3 r a0 a1 a2 a3 a4 a5 a6 a7 y z  fuel  y5 x7 = some (o0)), ARun Try.prog 4 (.loop (lp Try.f9 0)) (L9aS j0 j1 j2 j3 r a0 a1 a2 a3 a4 a5 a6 a7 y z  y5 x7) (L9aH j0 j1 j2 j3 r a0 a1 a2 a3 a4 a5 a6 a7 y z  y5 x7) (AExit.exit 0) (L9aT j0 j1 j2 j3 r a0 a1 a2 a3 a4 a5 a6 a7 y z  o0) (L9aU j0 j1 j2 j3 r a0 a1 a2 a3 a4 a5 a6 a7 y z  o0)
  | 0, _, _, _, h => by simp [L9aL] at h
  | fuel + 1, y5, x7, o0, h => by
    simp only [L9aL] at h
    exact (splitB h (fun d0 h => (chk h (fun s0 h => chk h (fun s1 h => chk h (fun s2 h => chk h (fun s3 h => chk h (fun s4 h => chk h (fun s5 h => chk h (fun s6 h => L9a_1 j0 j1 j2 j3 r a0 a1 a2 a3 a4 a5 a6 a7 y z  y5 x7 d0 s0 s1 s2 s3 s4 s5 s6 (L9a j0 j1 j2 j3 r a0 a1 a2 a3 a4 a5 a6 a7 y z  fuel ((y5.append (vb (icv .u64 (getR FF j0 (idxN 0 x7)).1))).append (zb [(getR FF j0 (idxN 0 x7)).snd.1, (getR FF j0 (idxN 0 x7)).snd.snd.1, (getR FF j0 (idxN 0 x7)).snd.snd.snd.1, (getR FF j0 (idxN 0 x7)).snd.snd.snd.snd.1, (getR FF j0 (idxN 0 x7)).snd.snd.snd.snd.snd.1, (getR FF j0 (idxN 0 x7)).snd.snd.snd.snd.snd.snd.1, (getR FF j0 (idxN 0 x7)).snd.snd.snd.snd.snd.snd.snd.1, (getR FF j0 (idxN 0 x7)).snd.snd.snd.snd.snd.snd.snd.snd.1, (getR FF j0 (idxN 0 x7)).snd.snd.snd.snd.snd.snd.snd.snd.2, getI j1 (idxN 0 x7)])) (iadd .i64 x7 1) o0 h)))))))))) (fun d0 h => ((by cases h; exact L9a_2 j0 j1 j2 j3 r a0 a1 a2 a3 a4 a5 a6 a7 y z  y5 x7 d0))))
def L9bS (j0 : List (El FF)) (j1 j2 j3 : List Int) (r a0 a1 a2 a3 a4 a5 a6 a7 y z : Int) (y5 : List Int) (x9 : Int) : Tm := (tg [(1, AV.ptr 4 0), (0, AV.v (Value.slice none 0 0)), (0, AV.v (.int .i64 0)), (2, AV.sw 5 1), (2, AV.v (.int .i64 x9))] 106)
def L9bH (j0 : List (El FF)) (j1 j2 j3 : List Int) (r a0 a1 a2 a3 a4 a5 a6 a7 y z : Int) (y5 : List Int) (x9 : Int) : List AObj := [AObj.rows false FF j0, AObj.ints 0 false .i64 j1, AObj.ints 0 false .i64 j2, AObj.ints 0 false IntKind.u32 j3, AObj.cells 0 true [AV.sw 0 10, AV.sw 1 1, AV.v (.int .i64 r), AV.v (.int .i64 a0), AV.v (.int .i64 a1), AV.v (.int .i64 a2), AV.v (.int .i64 a3), AV.v (.int .i64 a4), AV.v (.int .i64 a5), AV.v (.int .i64 a6), AV.v (.int .i64 a7), AV.sw 2 1, AV.sw 3 1, AV.v (.int .i64 y), AV.v (.int .i64 z)], AObj.ints 0 true IntKind.u8 y5]
def L9bT (j0 : List (El FF)) (j1 j2 j3 : List Int) (r a0 a1 a2 a3 a4 a5 a6 a7 y z : Int) (o0 : List Int) : Tm := (tg [(1, AV.ptr 4 0), (0, AV.v (Value.slice none 0 0)), (0, AV.v (.int .i64 0)), (2, AV.sw 5 1)] 109)
def L9bU (j0 : List (El FF)) (j1 j2 j3 : List Int) (r a0 a1 a2 a3 a4 a5 a6 a7 y z : Int) (o0 : List Int) : List AObj := [AObj.rows false FF j0, AObj.ints 0 false .i64 j1, AObj.ints 0 false .i64 j2, AObj.ints 0 false IntKind.u32 j3, AObj.cells 0 true [AV.sw 0 10, AV.sw 1 1, AV.v (.int .i64 r), AV.v (.int .i64 a0), AV.v (.int .i64 a1), AV.v (.int .i64 a2), AV.v (.int .i64 a3), AV.v (.int .i64 a4), AV.v (.int .i64 a5), AV.v (.int .i64 a6), AV.v (.int .i64 a7), AV.sw 2 1, AV.sw 3 1, AV.v (.int .i64 y), AV.v (.int .i64 z)], AObj.ints 0 true IntKind.u8 o0]
theorem L9b_1 (j0 : List (El FF)) (j1 j2 j3 : List Int) (r a0 a1 a2 a3 a4 a5 a6 a7 y z : Int) (y5 : List Int) (x9 : Int)  (d0 : (ilt x9 (nlen (lenI j3))) = true) (s0 : inB x9 (lenI j3)) (s1 : ltN (idxN 0 x9) (lenI j3)) (s2 : u64B (icv .u64 (getI j3 (idxN 0 x9))) = true) (s3 : y5.length ≤ 50000) {e : AExit} {tm2 : Tm} {h2 : List AObj} (b : ARun Try.prog 4 (.loop (lp Try.f9 1)) (L9bS j0 j1 j2 j3 r a0 a1 a2 a3 a4 a5 a6 a7 y z  (y5.append (vb (icv .u64 (getI j3 (idxN 0 x9))))) (iadd .i64 x9 1)) (L9bH j0 j1 j2 j3 r a0 a1 a2 a3 a4 a5 a6 a7 y z  (y5.append (vb (icv .u64 (getI j3 (idxN 0 x9))))) (iadd .i64 x9 1)) e tm2 h2) : ARun Try.prog 4 (.loop (lp Try.f9 1)) (L9bS j0 j1 j2 j3 r a0 a1 a2 a3 a4 a5 a6 a7 y z  y5 x9) (L9bH j0 j1 j2 j3 r a0 a1 a2 a3 a4 a5 a6 a7 y z  y5 x9) e tm2 h2 :=
  .round [Orc.br true, Orc.call [5] (AV.sw 1 1) [] [AObj.ints 0 true IntKind.u8 (y5.append (vb (icv .u64 (getI j3 (idxN 0 x9)))))]] [1, 2, 3, 6, 9] [0, 1, 2, 3, 4, 6] [isB (ilt x9 (nlen (lenI j3))) true, inB x9 (lenI j3), ltN (idxN 0 x9) (lenI j3), ACalls Try.prog 18 [AV.sw 0 1, AV.v (.int .u64 (icv .u64 (getI j3 (idxN 0 x9))))] [AObj.ints 0 true IntKind.u8 y5] (AV.sw 1 1) [] [AObj.ints 0 true IntKind.u8 (y5.append (vb (icv .u64 (getI j3 (idxN 0 x9)))))]] (by kernel_rfl) (.cons d0 (.cons (s0) (.cons (s1) (.cons (by apply Go.Proofs.Ytlmnohdgfjienaa.Code.g18 <;> (first | exact (s2) | exact (s3))) .nil)))) b
theorem L9b_2 (j0 : List (El FF)) (j1 j2 j3 : List Int) (r a0 a1 a2 a3 a4 a5 a6 a7 y z : Int) (y5 : List Int) (x9 : Int)  (d0 : (ilt x9 (nlen (lenI j3))) = false) : ARun Try.prog 4 (.loop (lp Try.f9 1)) (L9bS j0 j1 j2 j3 r a0 a1 a2 a3 a4 a5 a6 a7 y z  y5 x9) (L9bH j0 j1 j2 j3 r a0 a1 a2 a3 a4 a5 a6 a7 y z  y5 x9) (AExit.exit 2) (L9bT j0 j1 j2 j3 r a0 a1 a2 a3 a4 a5 a6 a7 y z  (y5)) (L9bU j0 j1 j2 j3 r a0 a1 a2 a3 a4 a5 a6 a7 y z  (y5)) :=
  .last [Orc.br false] [1, 2, 3, 6] [0, 1, 2, 3, 4, 5] [isB (ilt x9 (nlen (lenI j3))) false] (by kernel_rfl) (.cons d0 .nil)
def L9bL (j0 : List (El FF)) (j1 j2 j3 : List Int) (r a0 a1 a2 a3 a4 a5 a6 a7 y z : Int) : Nat → List Int → Int → Option (List Int)
  | 0, _, _ => none
  | fuel + 1, y5, x9 => (bif ilt x9 (nlen (lenI j3)) then bif decide (inB x9 (lenI j3)) then bif decide (ltN (idxN 0 x9) (lenI j3)) then bif decide (u64B (icv .u64 (getI j3 (idxN 0 x9))) = true) then bif decide (y5.length ≤ 50000) then L9bL j0 j1 j2 j3 r a0 a1 a2 a3 a4 a5 a6 a7 y z  fuel (y5.append (vb (icv .u64 (getI j3 (idxN 0 x9))))) (iadd .i64 x9 1) else none else none else none else none else some (y5))
theorem L9b (j0 : List (El FF)) (j1 j2 j3 : List Int) (r a0 a1 a2 a3 a4 a5 a6 a7 y z : Int) : ∀ (fuel : Nat) (y5 : List Int) (x9 : Int) (o0 : List Int) (_ : L9bL j0 j1 j2 j3 r a0 a1 a2 a3 a4 a5 a6 a7 y z  fuel  y5 x9 = some (o0)), ARun Try.prog 4 (.loop (lp Try.f9 1)) (L9bS j0 j1 j2 j3 r a0 a1 a2 a3 a4 a5 a6 a7 y z  y5 x9) (L9bH j0 j1 j2 j3 r a0 a1 a2 a3 a4 a5 a6 a7 y z  y5 x9) (AExit.exit 2) (L9bT j0 j1 j2 j3 r a0 a1 a2 a3 a4 a5 a6 a7 y z  o0) (L9bU j0 j1 j2 j3 r a0 a1 a2 a3 a4 a5 a6 a7 y z  o0)
  | 0, _, _, _, h => by simp [L9bL] at h
  | fuel + 1, y5, x9, o0, h => by
    simp only [L9bL] at h
    exact (splitB h (fun d0 h => (chk h (fun s0 h => chk h (fun s1 h => chk h (fun s2 h => chk h (fun s3 h => L9b_1 j0 j1 j2 j3 r a0 a1 a2 a3 a4 a5 a6 a7 y z  y5 x9 d0 s0 s1 s2 s3 (L9b j0 j1 j2 j3 r a0 a1 a2 a3 a4 a5 a6 a7 y z  fuel (y5.append (vb (icv .u64 (getI j3 (idxN 0 x9))))) (iadd .i64 x9 1) o0 h))))))) (fun d0 h => ((by cases h; exact L9b_2 j0 j1 j2 j3 r a0 a1 a2 a3 a4 a5 a6 a7 y z  y5 x9 d0))))
def f9r0 (j0 : List (El FF)) (j1 j2 j3 : List Int) (r a0 a1 a2 a3 a4 a5 a6 a7 y z : Int) (L9a_0_fuel : Nat) (L9a_0_o0 : List Int) (L9b_1_fuel : Nat) (L9b_1_o0 : List Int) : Int := bif ine (ckE r a0 a1 a2 a3 a4 a5 a6 a7 y z (lenR FF j0) (lenI j1) (lenI j2) (lenI j3) (fb j0 j1) (pix j2)) 0 then ckE r a0 a1 a2 a3 a4 a5 a6 a7 y z (lenR FF j0) (lenI j1) (lenI j2) (lenI j3) (fb j0 j1) (pix j2) else 0
def f9r1 (j0 : List (El FF)) (j1 j2 j3 : List Int) (r a0 a1 a2 a3 a4 a5 a6 a7 y z : Int) (L9a_0_fuel : Nat) (L9a_0_o0 : List Int) (L9b_1_fuel : Nat) (L9b_1_o0 : List Int) : List Int := bif ine (ckE r a0 a1 a2 a3 a4 a5 a6 a7 y z (lenR FF j0) (lenI j1) (lenI j2) (lenI j3) (fb j0 j1) (pix j2)) 0 then [] else (L9b_1_o0.append (vb (icv .u64 y))).append (zb [z])
theorem f9_1 (j0 : List (El FF)) (j1 j2 j3 : List Int) (r a0 a1 a2 a3 a4 a5 a6 a7 y z : Int)  (d0 : (ine (ckE r a0 a1 a2 a3 a4 a5 a6 a7 y z (lenR FF j0) (lenI j1) (lenI j2) (lenI j3) (fb j0 j1) (pix j2)) 0) = true) : ACalls Try.prog 9 [(cC r a0 a1 a2 a3 a4 a5 a6 a7 y z)] (hH j0 j1 j2 j3) (AV.tup [AV.sw 4 1, AV.v (.int .i64 (ckE r a0 a1 a2 a3 a4 a5 a6 a7 y z (lenR FF j0) (lenI j1) (lenI j2) (lenI j3) (fb j0 j1) (pix j2)))]) [] [AObj.ints 0 true IntKind.u8 []] :=
  ACalls.nb (res := AV.tup [AV.sw 4 1, AV.v (.int .i64 (ckE r a0 a1 a2 a3 a4 a5 a6 a7 y z (lenR FF j0) (lenI j1) (lenI j2) (lenI j3) (fb j0 j1) (pix j2)))]) (.of_out [Orc.call [0, 1, 2, 3] (AV.tup [AV.v (.int .i64 (ckE r a0 a1 a2 a3 a4 a5 a6 a7 y z (lenR FF j0) (lenI j1) (lenI j2) (lenI j3) (fb j0 j1) (pix j2))), AV.v (.int .i64 (ckK r a0 a1 a2 a3 a4 a5 a6 a7 y z (lenR FF j0) (lenI j1) (lenI j2) (lenI j3) (fb j0 j1) (pix j2)))]) [] [], Orc.br true, Orc.fin (Gh.nil 2 1 (AObj.ints 0 true IntKind.u8 []))] [0, 1, 2, 3, 5] [ACalls Try.prog 17 [(cC r a0 a1 a2 a3 a4 a5 a6 a7 y z)] (hH j0 j1 j2 j3) (AV.tup [AV.v (.int .i64 (ckE r a0 a1 a2 a3 a4 a5 a6 a7 y z (lenR FF j0) (lenI j1) (lenI j2) (lenI j3) (fb j0 j1) (pix j2))), AV.v (.int .i64 (ckK r a0 a1 a2 a3 a4 a5 a6 a7 y z (lenR FF j0) (lenI j1) (lenI j2) (lenI j3) (fb j0 j1) (pix j2)))]) [] [], isB (ine (ckE r a0 a1 a2 a3 a4 a5 a6 a7 y z (lenR FF j0) (lenI j1) (lenI j2) (lenI j3) (fb j0 j1) (pix j2)) 0) true] Try.func9 (by kernel_rfl) (by kernel_rfl) (.cons (by apply g17) (.cons d0 .nil)))
theorem f9_2 (j0 : List (El FF)) (j1 j2 j3 : List Int) (r a0 a1 a2 a3 a4 a5 a6 a7 y z : Int) (L9a_0_fuel : Nat) (L9a_0_o0 : List Int) (L9b_1_fuel : Nat) (L9b_1_o0 : List Int)  (d0 : (ine (ckE r a0 a1 a2 a3 a4 a5 a6 a7 y z (lenR FF j0) (lenI j1) (lenI j2) (lenI j3) (fb j0 j1) (pix j2)) 0) = false) (L9a_0_h0 : ((ine (ckE r a0 a1 a2 a3 a4 a5 a6 a7 y z (lenR FF j0) (lenI j1) (lenI j2) (lenI j3) (fb j0 j1) (pix j2)) 0) = false) → L9aL j0 j1 j2 j3 r a0 a1 a2 a3 a4 a5 a6 a7 y z L9a_0_fuel (76 :: 69 :: 65 :: 84 :: vb (icv .u64 (nlen (lenR FF j0)))) 0 = some L9a_0_o0) (L9b_1_h0 : ((ine (ckE r a0 a1 a2 a3 a4 a5 a6 a7 y z (lenR FF j0) (lenI j1) (lenI j2) (lenI j3) (fb j0 j1) (pix j2)) 0) = false) → L9bL j0 j1 j2 j3 r a0 a1 a2 a3 a4 a5 a6 a7 y z L9b_1_fuel ((((L9a_0_o0.append (zb [r, a0, a1, a2, a3, a4, a5, a6, a7])).append (vb (icv .u64 (nlen (lenI j2))))).append (zb j2)).append (vb (icv .u64 (nlen (lenI j3))))) 0 = some L9b_1_o0) (s0 : ((ine (ckE r a0 a1 a2 a3 a4 a5 a6 a7 y z (lenR FF j0) (lenI j1) (lenI j2) (lenI j3) (fb j0 j1) (pix j2)) 0) = false) → u64B (icv .u64 (nlen (lenR FF j0))) = true) (s1 : ((ine (ckE r a0 a1 a2 a3 a4 a5 a6 a7 y z (lenR FF j0) (lenI j1) (lenI j2) (lenI j3) (fb j0 j1) (pix j2)) 0) = false) → okZ L9a_0_o0 [r, a0, a1, a2, a3, a4, a5, a6, a7] = true) (s2 : ((ine (ckE r a0 a1 a2 a3 a4 a5 a6 a7 y z (lenR FF j0) (lenI j1) (lenI j2) (lenI j3) (fb j0 j1) (pix j2)) 0) = false) → u64B (icv .u64 (nlen (lenI j2))) = true) (s3 : ((ine (ckE r a0 a1 a2 a3 a4 a5 a6 a7 y z (lenR FF j0) (lenI j1) (lenI j2) (lenI j3) (fb j0 j1) (pix j2)) 0) = false) → (L9a_0_o0.append (zb [r, a0, a1, a2, a3, a4, a5, a6, a7])).length ≤ 50000) (s4 : ((ine (ckE r a0 a1 a2 a3 a4 a5 a6 a7 y z (lenR FF j0) (lenI j1) (lenI j2) (lenI j3) (fb j0 j1) (pix j2)) 0) = false) → okZ ((L9a_0_o0.append (zb [r, a0, a1, a2, a3, a4, a5, a6, a7])).append (vb (icv .u64 (nlen (lenI j2))))) j2 = true) (s5 : ((ine (ckE r a0 a1 a2 a3 a4 a5 a6 a7 y z (lenR FF j0) (lenI j1) (lenI j2) (lenI j3) (fb j0 j1) (pix j2)) 0) = false) → u64B (icv .u64 (nlen (lenI j3))) = true) (s6 : ((ine (ckE r a0 a1 a2 a3 a4 a5 a6 a7 y z (lenR FF j0) (lenI j1) (lenI j2) (lenI j3) (fb j0 j1) (pix j2)) 0) = false) → (((L9a_0_o0.append (zb [r, a0, a1, a2, a3, a4, a5, a6, a7])).append (vb (icv .u64 (nlen (lenI j2))))).append (zb j2)).length ≤ 50000) (s7 : ((ine (ckE r a0 a1 a2 a3 a4 a5 a6 a7 y z (lenR FF j0) (lenI j1) (lenI j2) (lenI j3) (fb j0 j1) (pix j2)) 0) = false) → u64B (icv .u64 y) = true) (s8 : ((ine (ckE r a0 a1 a2 a3 a4 a5 a6 a7 y z (lenR FF j0) (lenI j1) (lenI j2) (lenI j3) (fb j0 j1) (pix j2)) 0) = false) → L9b_1_o0.length ≤ 50000) (s9 : ((ine (ckE r a0 a1 a2 a3 a4 a5 a6 a7 y z (lenR FF j0) (lenI j1) (lenI j2) (lenI j3) (fb j0 j1) (pix j2)) 0) = false) → okZ (L9b_1_o0.append (vb (icv .u64 y))) [z] = true) : ACalls Try.prog 9 [(cC r a0 a1 a2 a3 a4 a5 a6 a7 y z)] (hH j0 j1 j2 j3) (AV.tup [AV.sw 4 1, AV.v (.int .i64 0)]) [] [AObj.ints 0 true IntKind.u8 ((L9b_1_o0.append (vb (icv .u64 y))).append (zb [z]))] :=
  ACalls.nb (res := AV.tup [AV.sw 4 1, AV.v (.int .i64 0)]) (.of_out [Orc.call [0, 1, 2, 3] (AV.tup [AV.v (.int .i64 (ckE r a0 a1 a2 a3 a4 a5 a6 a7 y z (lenR FF j0) (lenI j1) (lenI j2) (lenI j3) (fb j0 j1) (pix j2))), AV.v (.int .i64 (ckK r a0 a1 a2 a3 a4 a5 a6 a7 y z (lenR FF j0) (lenI j1) (lenI j2) (lenI j3) (fb j0 j1) (pix j2)))]) [] [], Orc.br false, Orc.call [5] (AV.sw 1 1) [] [AObj.ints 0 true IntKind.u8 (76 :: 69 :: 65 :: 84 :: vb (icv .u64 (nlen (lenR FF j0))))], Orc.loop [1, 2, 3, 6, 7] [0, 1, 2, 3, 4, 6] (AExit.exit 0) (tg [(1, AV.ptr 4 0), (0, AV.v (Value.slice none 0 0)), (0, AV.v (.int .i64 0)), (2, AV.sw 5 1)] 109) [AObj.rows false FF j0, AObj.ints 0 false .i64 j1, AObj.ints 0 false .i64 j2, AObj.ints 0 false IntKind.u32 j3, AObj.cells 0 true [AV.sw 0 10, AV.sw 1 1, AV.v (.int .i64 r), AV.v (.int .i64 a0), AV.v (.int .i64 a1), AV.v (.int .i64 a2), AV.v (.int .i64 a3), AV.v (.int .i64 a4), AV.v (.int .i64 a5), AV.v (.int .i64 a6), AV.v (.int .i64 a7), AV.sw 2 1, AV.sw 3 1, AV.v (.int .i64 y), AV.v (.int .i64 z)], AObj.ints 0 true IntKind.u8 L9a_0_o0], Orc.call [5, 7] (AV.sw 2 1) [(0, AObj.dead)] [AObj.ints 0 true IntKind.u8 (L9a_0_o0.append (zb [r, a0, a1, a2, a3, a4, a5, a6, a7]))], Orc.call [8] (AV.sw 1 1) [] [AObj.ints 0 true IntKind.u8 ((L9a_0_o0.append (zb [r, a0, a1, a2, a3, a4, a5, a6, a7])).append (vb (icv .u64 (nlen (lenI j2)))))], Orc.call [9, 2] (AV.sw 2 1) [(0, AObj.dead)] [AObj.ints 0 true IntKind.u8 (((L9a_0_o0.append (zb [r, a0, a1, a2, a3, a4, a5, a6, a7])).append (vb (icv .u64 (nlen (lenI j2))))).append (zb j2))], Orc.call [10] (AV.sw 1 1) [] [AObj.ints 0 true IntKind.u8 ((((L9a_0_o0.append (zb [r, a0, a1, a2, a3, a4, a5, a6, a7])).append (vb (icv .u64 (nlen (lenI j2))))).append (zb j2)).append (vb (icv .u64 (nlen (lenI j3)))))], Orc.loop [1, 2, 3, 6, 9] [0, 1, 2, 3, 4, 11] (AExit.exit 2) (tg [(1, AV.ptr 4 0), (0, AV.v (Value.slice none 0 0)), (0, AV.v (.int .i64 0)), (2, AV.sw 5 1)] 109) [AObj.rows false FF j0, AObj.ints 0 false .i64 j1, AObj.ints 0 false .i64 j2, AObj.ints 0 false IntKind.u32 j3, AObj.cells 0 true [AV.sw 0 10, AV.sw 1 1, AV.v (.int .i64 r), AV.v (.int .i64 a0), AV.v (.int .i64 a1), AV.v (.int .i64 a2), AV.v (.int .i64 a3), AV.v (.int .i64 a4), AV.v (.int .i64 a5), AV.v (.int .i64 a6), AV.v (.int .i64 a7), AV.sw 2 1, AV.sw 3 1, AV.v (.int .i64 y), AV.v (.int .i64 z)], AObj.ints 0 true IntKind.u8 L9b_1_o0], Orc.call [5] (AV.sw 1 1) [] [AObj.ints 0 true IntKind.u8 (L9b_1_o0.append (vb (icv .u64 y)))], Orc.call [6, 7] (AV.sw 2 1) [(0, AObj.dead)] [AObj.ints 0 true IntKind.u8 ((L9b_1_o0.append (vb (icv .u64 y))).append (zb [z]))]] [0, 1, 2, 3, 8] [ACalls Try.prog 17 [(cC r a0 a1 a2 a3 a4 a5 a6 a7 y z)] (hH j0 j1 j2 j3) (AV.tup [AV.v (.int .i64 (ckE r a0 a1 a2 a3 a4 a5 a6 a7 y z (lenR FF j0) (lenI j1) (lenI j2) (lenI j3) (fb j0 j1) (pix j2))), AV.v (.int .i64 (ckK r a0 a1 a2 a3 a4 a5 a6 a7 y z (lenR FF j0) (lenI j1) (lenI j2) (lenI j3) (fb j0 j1) (pix j2)))]) [] [], isB (ine (ckE r a0 a1 a2 a3 a4 a5 a6 a7 y z (lenR FF j0) (lenI j1) (lenI j2) (lenI j3) (fb j0 j1) (pix j2)) 0) false, ACalls Try.prog 18 [AV.sw 0 1, AV.v (.int .u64 (icv .u64 (nlen (lenR FF j0))))] [AObj.ints 0 true IntKind.u8 [76, 69, 65, 84]] (AV.sw 1 1) [] [AObj.ints 0 true IntKind.u8 (76 :: 69 :: 65 :: 84 :: vb (icv .u64 (nlen (lenR FF j0))))], _, ACalls Try.prog 19 [AV.sw 0 1, AV.sw 1 1] [AObj.ints 0 true IntKind.u8 L9a_0_o0, AObj.ints 0 true .i64 [r, a0, a1, a2, a3, a4, a5, a6, a7]] (AV.sw 2 1) [(0, AObj.dead)] [AObj.ints 0 true IntKind.u8 (L9a_0_o0.append (zb [r, a0, a1, a2, a3, a4, a5, a6, a7]))], Mixed Try.prog, ACalls Try.prog 18 [AV.sw 0 1, AV.v (.int .u64 (icv .u64 (nlen (lenI j2))))] [AObj.ints 0 true IntKind.u8 (L9a_0_o0.append (zb [r, a0, a1, a2, a3, a4, a5, a6, a7]))] (AV.sw 1 1) [] [AObj.ints 0 true IntKind.u8 ((L9a_0_o0.append (zb [r, a0, a1, a2, a3, a4, a5, a6, a7])).append (vb (icv .u64 (nlen (lenI j2)))))], ACalls Try.prog 19 [AV.sw 0 1, AV.sw 1 1] [AObj.ints 0 true IntKind.u8 ((L9a_0_o0.append (zb [r, a0, a1, a2, a3, a4, a5, a6, a7])).append (vb (icv .u64 (nlen (lenI j2))))), AObj.ints 0 false .i64 j2] (AV.sw 2 1) [(0, AObj.dead)] [AObj.ints 0 true IntKind.u8 (((L9a_0_o0.append (zb [r, a0, a1, a2, a3, a4, a5, a6, a7])).append (vb (icv .u64 (nlen (lenI j2))))).append (zb j2))], ACalls Try.prog 18 [AV.sw 0 1, AV.v (.int .u64 (icv .u64 (nlen (lenI j3))))] [AObj.ints 0 true IntKind.u8 (((L9a_0_o0.append (zb [r, a0, a1, a2, a3, a4, a5, a6, a7])).append (vb (icv .u64 (nlen (lenI j2))))).append (zb j2))] (AV.sw 1 1) [] [AObj.ints 0 true IntKind.u8 ((((L9a_0_o0.append (zb [r, a0, a1, a2, a3, a4, a5, a6, a7])).append (vb (icv .u64 (nlen (lenI j2))))).append (zb j2)).append (vb (icv .u64 (nlen (lenI j3)))))], _, ACalls Try.prog 18 [AV.sw 0 1, AV.v (.int .u64 (icv .u64 y))] [AObj.ints 0 true IntKind.u8 L9b_1_o0] (AV.sw 1 1) [] [AObj.ints 0 true IntKind.u8 (L9b_1_o0.append (vb (icv .u64 y)))], ACalls Try.prog 19 [AV.sw 0 1, AV.sw 1 1] [AObj.ints 0 true IntKind.u8 (L9b_1_o0.append (vb (icv .u64 y))), AObj.ints 0 true .i64 [z]] (AV.sw 2 1) [(0, AObj.dead)] [AObj.ints 0 true IntKind.u8 ((L9b_1_o0.append (vb (icv .u64 y))).append (zb [z]))]] Try.func9 (by kernel_rfl) (by kernel_rfl) (.cons (by apply g17) (.cons d0 (.cons (by apply Go.Proofs.Ytlmnohdgfjienaa.Code.g18 <;> (first | exact (s0 d0) | (simp [nz, nn, inB, ltN]; done) | decide)) (.cons (L9a _ _ _ _ _ _ _ _ _ _ _ _ _ _ _ _ _ _ _ (L9a_0_h0 d0)) (.cons (by apply g19 <;> (first | exact (s1 d0))) (.cons (by show _ = _; kernel_rfl) (.cons (by apply Go.Proofs.Ytlmnohdgfjienaa.Code.g18 <;> (first | exact (s2 d0) | exact (s3 d0))) (.cons (by apply g19 <;> (first | exact (s4 d0))) (.cons (by apply Go.Proofs.Ytlmnohdgfjienaa.Code.g18 <;> (first | exact (s5 d0) | exact (s6 d0))) (.cons (L9b _ _ _ _ _ _ _ _ _ _ _ _ _ _ _ _ _ _ _ (L9b_1_h0 d0)) (.cons (by apply Go.Proofs.Ytlmnohdgfjienaa.Code.g18 <;> (first | exact (s7 d0) | exact (s8 d0))) (.cons (by apply g19 <;> (first | exact (s9 d0))) .nil)))))))))))))
theorem f9 (j0 : List (El FF)) (j1 j2 j3 : List Int) (r a0 a1 a2 a3 a4 a5 a6 a7 y z : Int) (L9a_0_fuel : Nat) (L9a_0_o0 : List Int) (L9b_1_fuel : Nat) (L9b_1_o0 : List Int) (L9a_0_h0 : ((ine (ckE r a0 a1 a2 a3 a4 a5 a6 a7 y z (lenR FF j0) (lenI j1) (lenI j2) (lenI j3) (fb j0 j1) (pix j2)) 0) = false) → L9aL j0 j1 j2 j3 r a0 a1 a2 a3 a4 a5 a6 a7 y z L9a_0_fuel (76 :: 69 :: 65 :: 84 :: vb (icv .u64 (nlen (lenR FF j0)))) 0 = some L9a_0_o0) (L9b_1_h0 : ((ine (ckE r a0 a1 a2 a3 a4 a5 a6 a7 y z (lenR FF j0) (lenI j1) (lenI j2) (lenI j3) (fb j0 j1) (pix j2)) 0) = false) → L9bL j0 j1 j2 j3 r a0 a1 a2 a3 a4 a5 a6 a7 y z L9b_1_fuel ((((L9a_0_o0.append (zb [r, a0, a1, a2, a3, a4, a5, a6, a7])).append (vb (icv .u64 (nlen (lenI j2))))).append (zb j2)).append (vb (icv .u64 (nlen (lenI j3))))) 0 = some L9b_1_o0) (s0 : ((ine (ckE r a0 a1 a2 a3 a4 a5 a6 a7 y z (lenR FF j0) (lenI j1) (lenI j2) (lenI j3) (fb j0 j1) (pix j2)) 0) = false) → u64B (icv .u64 (nlen (lenR FF j0))) = true) (s1 : ((ine (ckE r a0 a1 a2 a3 a4 a5 a6 a7 y z (lenR FF j0) (lenI j1) (lenI j2) (lenI j3) (fb j0 j1) (pix j2)) 0) = false) → okZ L9a_0_o0 [r, a0, a1, a2, a3, a4, a5, a6, a7] = true) (s2 : ((ine (ckE r a0 a1 a2 a3 a4 a5 a6 a7 y z (lenR FF j0) (lenI j1) (lenI j2) (lenI j3) (fb j0 j1) (pix j2)) 0) = false) → u64B (icv .u64 (nlen (lenI j2))) = true) (s3 : ((ine (ckE r a0 a1 a2 a3 a4 a5 a6 a7 y z (lenR FF j0) (lenI j1) (lenI j2) (lenI j3) (fb j0 j1) (pix j2)) 0) = false) → (L9a_0_o0.append (zb [r, a0, a1, a2, a3, a4, a5, a6, a7])).length ≤ 50000) (s4 : ((ine (ckE r a0 a1 a2 a3 a4 a5 a6 a7 y z (lenR FF j0) (lenI j1) (lenI j2) (lenI j3) (fb j0 j1) (pix j2)) 0) = false) → okZ ((L9a_0_o0.append (zb [r, a0, a1, a2, a3, a4, a5, a6, a7])).append (vb (icv .u64 (nlen (lenI j2))))) j2 = true) (s5 : ((ine (ckE r a0 a1 a2 a3 a4 a5 a6 a7 y z (lenR FF j0) (lenI j1) (lenI j2) (lenI j3) (fb j0 j1) (pix j2)) 0) = false) → u64B (icv .u64 (nlen (lenI j3))) = true) (s6 : ((ine (ckE r a0 a1 a2 a3 a4 a5 a6 a7 y z (lenR FF j0) (lenI j1) (lenI j2) (lenI j3) (fb j0 j1) (pix j2)) 0) = false) → (((L9a_0_o0.append (zb [r, a0, a1, a2, a3, a4, a5, a6, a7])).append (vb (icv .u64 (nlen (lenI j2))))).append (zb j2)).length ≤ 50000) (s7 : ((ine (ckE r a0 a1 a2 a3 a4 a5 a6 a7 y z (lenR FF j0) (lenI j1) (lenI j2) (lenI j3) (fb j0 j1) (pix j2)) 0) = false) → u64B (icv .u64 y) = true) (s8 : ((ine (ckE r a0 a1 a2 a3 a4 a5 a6 a7 y z (lenR FF j0) (lenI j1) (lenI j2) (lenI j3) (fb j0 j1) (pix j2)) 0) = false) → L9b_1_o0.length ≤ 50000) (s9 : ((ine (ckE r a0 a1 a2 a3 a4 a5 a6 a7 y z (lenR FF j0) (lenI j1) (lenI j2) (lenI j3) (fb j0 j1) (pix j2)) 0) = false) → okZ (L9b_1_o0.append (vb (icv .u64 y))) [z] = true) : ACalls Try.prog 9 [(cC r a0 a1 a2 a3 a4 a5 a6 a7 y z)] (hH j0 j1 j2 j3) (AV.tup [AV.sw 4 1, AV.v (.int .i64 (f9r0 j0 j1 j2 j3 r a0 a1 a2 a3 a4 a5 a6 a7 y z L9a_0_fuel L9a_0_o0 L9b_1_fuel L9b_1_o0))]) [] [AObj.ints 0 true IntKind.u8 (f9r1 j0 j1 j2 j3 r a0 a1 a2 a3 a4 a5 a6 a7 y z L9a_0_fuel L9a_0_o0 L9b_1_fuel L9b_1_o0)] := by
  have h := (ACalls.cond (ine (ckE r a0 a1 a2 a3 a4 a5 a6 a7 y z (lenR FF j0) (lenI j1) (lenI j2) (lenI j3) (fb j0 j1) (pix j2)) 0) (fun d0 => (f9_1 j0 j1 j2 j3 r a0 a1 a2 a3 a4 a5 a6 a7 y z d0)) (fun d0 => (f9_2 j0 j1 j2 j3 r a0 a1 a2 a3 a4 a5 a6 a7 y z L9a_0_fuel L9a_0_o0 L9b_1_fuel L9b_1_o0 d0 L9a_0_h0 L9b_1_h0 s0 s1 s2 s3 s4 s5 s6 s7 s8 s9)))
  simp only [c_int, c_bool, c_str, c_agg, c_tup, c_fn, c_ifc, c_sl, c_pe, c_ptr, c_rows, c_siter, c_consA, c_consU, c_consO, c_cells, c_ints, c_bools, c_strs, c_same] at h
  exact h
end Go.Proofs.Ytlmnohdgfjienaa.Cf

set_option maxRecDepth 100000
set_option linter.all false
set_option maxHeartbeats 0
namespace Go.Proofs.Ytlmnohdgfjienaa.Cf
open Go.Abs Go.Proofs.Ytlmnohdgfjienaa.Code Go.Proofs.Ytlmnohdgfjienaa.Code
theorem icvB (x : Int) : u64B (icv .u64 x) = true := by rw [u64B_iff]; unfold icv; rw [w_u64]; omega
/-- a flow's bytes -/
def feB (E : El FF) (x : Int) : List Int := vb (icv .u64 E.1) ++ zb [E.snd.1, E.snd.snd.1, E.snd.snd.snd.1, E.snd.snd.snd.snd.1, E.snd.snd.snd.snd.snd.1, E.snd.snd.snd.snd.snd.snd.1, E.snd.snd.snd.snd.snd.snd.snd.1, E.snd.snd.snd.snd.snd.snd.snd.snd.1, E.snd.snd.snd.snd.snd.snd.snd.snd.2, x]
def flB (j0 : List (El FF)) (j1 : List Int) : Nat → Nat → List Int
  | 0, _ => []
  | k + 1, i => feB (getR FF j0 i) (getI j1 i) ++ flB j0 j1 k (i + 1)
def drB (l : List Int) : List Int := l.flatMap fun x => vb (icv .u64 x)
/-- the bytes behind the word -/
def eB0 (j0 : List (El FF)) (j1 j2 j3 : List Int) (r a0 a1 a2 a3 a4 a5 a6 a7 y z : Int) : List Int := vb (icv .u64 (nlen (lenR FF j0))) ++ flB j0 j1 j0.length 0 ++ zb [r, a0, a1, a2, a3, a4, a5, a6, a7] ++ vb (icv .u64 (nlen (lenI j2))) ++ zb j2 ++ vb (icv .u64 (nlen (lenI j3))) ++ drB j3 ++ vb (icv .u64 y) ++ zb [z]
def eB (j0 : List (El FF)) (j1 j2 j3 : List Int) (r a0 a1 a2 a3 a4 a5 a6 a7 y z : Int) : List Int := bif ine (ckE r a0 a1 a2 a3 a4 a5 a6 a7 y z (lenR FF j0) (lenI j1) (lenI j2) (lenI j3) (fb j0 j1) (pix j2)) 0 then [] else 76 :: 69 :: 65 :: 84 :: eB0 j0 j1 j2 j3 r a0 a1 a2 a3 a4 a5 a6 a7 y z
def elB (E : El FF) : Bool := [E.1, E.snd.1, E.snd.snd.1, E.snd.snd.snd.1, E.snd.snd.snd.snd.1, E.snd.snd.snd.snd.snd.1, E.snd.snd.snd.snd.snd.snd.1, E.snd.snd.snd.snd.snd.snd.snd.1, E.snd.snd.snd.snd.snd.snd.snd.snd.1, E.snd.snd.snd.snd.snd.snd.snd.snd.2].all i64B
/-- numbers in their range, and no more than the law looks at -/
def cfgB (j0 : List (El FF)) (j1 j2 j3 : List Int) (r a0 a1 a2 a3 a4 a5 a6 a7 y z : Int) : Bool := j0.all elB && j1.all i64B && j2.all i64B && [r, a0, a1, a2, a3, a4, a5, a6, a7, y, z].all i64B && decide (j0.length ≤ 300 ∧ j1.length ≤ 300 ∧ j2.length ≤ 300 ∧ j3.length ≤ 300)
theorem okZ_mk {m l : List Int} (h1 : l.all i64B = true) (h2 : m.length + 10 * l.length ≤ 50000) : okZ m l = true := by
  unfold okZ; rw [h1, decide_eq_true h2]; rfl
theorem feB_len {E : El FF} {x : Int} (hE : elB E = true) (hx : i64B x = true) : (feB E x).length ≤ 110 := by
  have h1 : [E.snd.1, E.snd.snd.1, E.snd.snd.snd.1, E.snd.snd.snd.snd.1, E.snd.snd.snd.snd.snd.1, E.snd.snd.snd.snd.snd.snd.1, E.snd.snd.snd.snd.snd.snd.snd.1, E.snd.snd.snd.snd.snd.snd.snd.snd.1, E.snd.snd.snd.snd.snd.snd.snd.snd.2, x].all i64B = true := by
    simp only [elB, List.all_cons, List.all_nil, Bool.and_eq_true] at hE ⊢
    obtain ⟨_, a, b, c, d, e, f, g, h, i, _⟩ := hE
    exact ⟨a, b, c, d, e, f, g, h, i, hx, trivial⟩
  have := zb_len h1
  have := vb_len (icvB E.1)
  unfold feB; rw [List.length_append]; simp at *; omega
theorem val_all {E : El FF} {x : Int} (hE : elB E = true) (hx : i64B x = true) : [E.snd.1, E.snd.snd.1, E.snd.snd.snd.1, E.snd.snd.snd.snd.1, E.snd.snd.snd.snd.snd.1, E.snd.snd.snd.snd.snd.snd.1, E.snd.snd.snd.snd.snd.snd.snd.1, E.snd.snd.snd.snd.snd.snd.snd.snd.1, E.snd.snd.snd.snd.snd.snd.snd.snd.2, x].all i64B = true := by
  simp only [elB, List.all_cons, List.all_nil, Bool.and_eq_true] at hE ⊢
  obtain ⟨_, a, b, c, d, e, f, g, h, i, _⟩ := hE
  exact ⟨a, b, c, d, e, f, g, h, i, hx, trivial⟩
theorem flB_len {j0 : List (El FF)} {j1 : List Int} (h0 : j0.all elB = true) (h1 : j1.all i64B = true) (he : j1.length = j0.length) : ∀ k i : Nat, i + k = j0.length → (flB j0 j1 k i).length ≤ 110 * k
  | 0, i, e => by simp [flB]
  | k + 1, i, e => by
    have hi : i < j0.length := by omega
    have hi1 : i < j1.length := by omega
    have := flB_len h0 h1 he k (i + 1) (by omega)
    have g0 : getR FF j0 i = j0[i] := by unfold getR; rw [List.getD_eq_getElem?_getD, List.getElem?_eq_getElem hi]; rfl
    have g1 : getI j1 i = j1[i] := by unfold getI; rw [List.getD_eq_getElem?_getD, List.getElem?_eq_getElem hi1]; rfl
    have := feB_len (List.all_eq_true.1 h0 _ (List.getElem_mem hi)) (List.all_eq_true.1 h1 _ (List.getElem_mem hi1))
    rw [flB, List.length_append, g0, g1]; omega
theorem e8a (j0 : List (El FF)) (j1 j2 j3 : List Int) (r a0 a1 a2 a3 a4 a5 a6 a7 yy z : Int) (h0 : j0.all elB = true) (h1 : j1.all i64B = true) (he : j1.length = j0.length) (hs : j0.length ≤ 300) : ∀ (k i : Nat) (y : List Int), i + k = j0.length → y.length + 110 * k ≤ 40000 →
    L8aL j0 j1 j2 j3 r a0 a1 a2 a3 a4 a5 a6 a7 yy z (k + 1) (nlen (lenR FF j0)) y (i : Int) = some (y ++ flB j0 j1 k i)
  | 0, i, y, e, hy => by
    rw [L8aL, lt_f (show lenR FF j0 ≤ i by unfold lenR; omega)]; simp [flB]
  | k + 1, i, y, e, hy => by
    have hi : i < j0.length := by omega
    have hi1 : i < j1.length := by omega
    have g0 : getR FF j0 i = j0[i] := by unfold getR; rw [List.getD_eq_getElem?_getD, List.getElem?_eq_getElem hi]; rfl
    have g1 : getI j1 i = j1[i] := by unfold getI; rw [List.getD_eq_getElem?_getD, List.getElem?_eq_getElem hi1]; rfl
    have hE : elB (getR FF j0 i) = true := by rw [g0]; exact List.all_eq_true.1 h0 _ (List.getElem_mem hi)
    have hx : i64B (getI j1 i) = true := by rw [g1]; exact List.all_eq_true.1 h1 _ (List.getElem_mem hi1)
    have hl := feB_len hE hx
    have hv := vb_len (icvB (getR FF j0 i).1)
    have hz := okZ_mk (m := y.append (vb (icv .u64 (getR FF j0 i).1))) (val_all hE hx) (by rw [show (y.append (vb (icv .u64 (getR FF j0 i).1))).length = y.length + (vb (icv .u64 (getR FF j0 i).1)).length from List.length_append]; simp; omega)
    rw [L8aL, lt_t (show i < lenR FF j0 from hi), in_t (show i < lenR FF j0 from hi), in_t (show i < lenI j1 from hi1), ix0, l_t (show i < lenR FF j0 from hi), l_t (show i < lenI j1 from hi1), inc (show j0.length ≤ 1000000 by omega) hi, decide_eq_true (icvB _), decide_eq_true (show y.length ≤ 50000 by omega), decide_eq_true hz]
    simp only [cond_true]
    have a := e8a j0 j1 j2 j3 r a0 a1 a2 a3 a4 a5 a6 a7 yy z h0 h1 he hs k (i + 1) (y ++ feB (getR FF j0 i) (getI j1 i)) (by omega) (by rw [List.length_append]; omega)
    rw [flB, ← List.append_assoc, ← a]
    unfold feB
    rw [← List.append_assoc]
    rfl
theorem e8b (j0 : List (El FF)) (j1 j2 j3 : List Int) (r a0 a1 a2 a3 a4 a5 a6 a7 yy z : Int) (hs : j3.length ≤ 300) : ∀ (k i : Nat) (y : List Int), i + k = j3.length → y.length + 10 * k ≤ 50000 →
    L8bL j0 j1 j2 j3 r a0 a1 a2 a3 a4 a5 a6 a7 yy z (k + 1) (nlen (lenI j3)) y (i : Int) = some (y ++ drB (j3.drop i))
  | 0, i, y, e, hy => by
    rw [L8bL, lt_f (show lenI j3 ≤ i by unfold lenI; omega), List.drop_eq_nil_of_le (by omega)]; simp [drB]
  | k + 1, i, y, e, hy => by
    have hi : i < j3.length := by omega
    have g1 : getI j3 i = j3[i] := by unfold getI; rw [List.getD_eq_getElem?_getD, List.getElem?_eq_getElem hi]; rfl
    have hv := vb_len (icvB (getI j3 i))
    rw [L8bL, lt_t (show i < lenI j3 from hi), in_t (show i < lenI j3 from hi), ix0, l_t (show i < lenI j3 from hi), inc (show j3.length ≤ 1000000 by omega) hi, decide_eq_true (icvB _), decide_eq_true (show y.length ≤ 50000 by omega)]
    simp only [cond_true]
    have a := e8b j0 j1 j2 j3 r a0 a1 a2 a3 a4 a5 a6 a7 yy z hs k (i + 1) (y ++ vb (icv .u64 (getI j3 i))) (by omega) (by rw [List.length_append]; omega)
    rw [List.drop_eq_getElem_cons hi, ← g1]
    unfold drB at a ⊢
    rw [List.flatMap_cons, ← List.append_assoc, ← a]
    rfl
theorem e9a (j0 : List (El FF)) (j1 j2 j3 : List Int) (r a0 a1 a2 a3 a4 a5 a6 a7 yy z : Int) (h0 : j0.all elB = true) (h1 : j1.all i64B = true) (he : j1.length = j0.length) (hs : j0.length ≤ 300) : ∀ (k i : Nat) (y : List Int), i + k = j0.length → y.length + 110 * k ≤ 40000 →
    L9aL j0 j1 j2 j3 r a0 a1 a2 a3 a4 a5 a6 a7 yy z (k + 1) y (i : Int) = some (y ++ flB j0 j1 k i)
  | 0, i, y, e, hy => by
    rw [L9aL, lt_f (show lenR FF j0 ≤ i by unfold lenR; omega)]; simp [flB]
  | k + 1, i, y, e, hy => by
    have hi : i < j0.length := by omega
    have hi1 : i < j1.length := by omega
    have g0 : getR FF j0 i = j0[i] := by unfold getR; rw [List.getD_eq_getElem?_getD, List.getElem?_eq_getElem hi]; rfl
    have g1 : getI j1 i = j1[i] := by unfold getI; rw [List.getD_eq_getElem?_getD, List.getElem?_eq_getElem hi1]; rfl
    have hE : elB (getR FF j0 i) = true := by rw [g0]; exact List.all_eq_true.1 h0 _ (List.getElem_mem hi)
    have hx : i64B (getI j1 i) = true := by rw [g1]; exact List.all_eq_true.1 h1 _ (List.getElem_mem hi1)
    have hl := feB_len hE hx
    have hv := vb_len (icvB (getR FF j0 i).1)
    have hz := okZ_mk (m := y.append (vb (icv .u64 (getR FF j0 i).1))) (val_all hE hx) (by rw [show (y.append (vb (icv .u64 (getR FF j0 i).1))).length = y.length + (vb (icv .u64 (getR FF j0 i).1)).length from List.length_append]; simp; omega)
    rw [L9aL, lt_t (show i < lenR FF j0 from hi), in_t (show i < lenR FF j0 from hi), in_t (show i < lenI j1 from hi1), ix0, l_t (show i < lenR FF j0 from hi), l_t (show i < lenI j1 from hi1), inc (show j0.length ≤ 1000000 by omega) hi, decide_eq_true (icvB _), decide_eq_true (show y.length ≤ 50000 by omega), decide_eq_true hz]
    simp only [cond_true]
    have a := e9a j0 j1 j2 j3 r a0 a1 a2 a3 a4 a5 a6 a7 yy z h0 h1 he hs k (i + 1) (y ++ feB (getR FF j0 i) (getI j1 i)) (by omega) (by rw [List.length_append]; omega)
    rw [flB, ← List.append_assoc, ← a]
    unfold feB
    rw [← List.append_assoc]
    rfl
theorem e9b (j0 : List (El FF)) (j1 j2 j3 : List Int) (r a0 a1 a2 a3 a4 a5 a6 a7 yy z : Int) (hs : j3.length ≤ 300) : ∀ (k i : Nat) (y : List Int), i + k = j3.length → y.length + 10 * k ≤ 50000 →
    L9bL j0 j1 j2 j3 r a0 a1 a2 a3 a4 a5 a6 a7 yy z (k + 1) y (i : Int) = some (y ++ drB (j3.drop i))
  | 0, i, y, e, hy => by
    rw [L9bL, lt_f (show lenI j3 ≤ i by unfold lenI; omega), List.drop_eq_nil_of_le (by omega)]; simp [drB]
  | k + 1, i, y, e, hy => by
    have hi : i < j3.length := by omega
    have g1 : getI j3 i = j3[i] := by unfold getI; rw [List.getD_eq_getElem?_getD, List.getElem?_eq_getElem hi]; rfl
    have hv := vb_len (icvB (getI j3 i))
    rw [L9bL, lt_t (show i < lenI j3 from hi), in_t (show i < lenI j3 from hi), ix0, l_t (show i < lenI j3 from hi), inc (show j3.length ≤ 1000000 by omega) hi, decide_eq_true (icvB _), decide_eq_true (show y.length ≤ 50000 by omega)]
    simp only [cond_true]
    have a := e9b j0 j1 j2 j3 r a0 a1 a2 a3 a4 a5 a6 a7 yy z hs k (i + 1) (y ++ vb (icv .u64 (getI j3 i))) (by omega) (by rw [List.length_append]; omega)
    rw [List.drop_eq_getElem_cons hi, ← g1]
    unfold drB at a ⊢
    rw [List.flatMap_cons, ← List.append_assoc, ← a]
    rfl
end Go.Proofs.Ytlmnohdgfjienaa.Cf

set_option maxRecDepth 100000
set_option linter.all false
set_option maxHeartbeats 4000000
namespace Go.Proofs.Ytlmnohdgfjienaa.Cf
open Go.Abs

/-- how many flows -/
def cN (j0 : List (El FF)) : Nat := min (max j0.length 1) 256
def flAt (j0 : List (El FF)) (i : Nat) : El FF := if i < j0.length then lF (getR FF j0 i) else lF0
def bsAt (j1 : List Int) (i : Nat) : Int := if i < j1.length then kp (getI j1 i) 1 1073741824 else kp 1000 1 1073741824
/-- flows, ways back, the plan and the draws, made such that they may be -/
def cFl (j0 : List (El FF)) : List (El FF) := (List.range' 0 (cN j0)).map (flAt j0)
def cBs (j0 : List (El FF)) (j1 : List Int) : List Int := (List.range' 0 (cN j0)).map (bsAt j1)
def cPl (j2 : List Int) : List Int := (j2.take 4096).map fun x => kp x (-1) 1073741824
def cDr (j3 : List Int) : List Int := j3.take 4096
theorem l10a (j0 : List (El FF)) (j1 j2 j3 : List Int) (r a0 a1 a2 a3 a4 a5 a6 a7 y z : Int) (n : Nat) (hn : n ≤ 256) (y6 y6_1 y6_2 y6_3 y6_4 y6_5 y6_6 y6_7 y6_8 y6_9 y6_10 : Int) (y10 : List Int) : ∀ (k i : Nat) (y7 : List (El FF)) (y8 : List Int), i + k = n → y7.length = i → y8.length = i →
    L10aL j0 j1 j2 j3 r a0 a1 a2 a3 a4 a5 a6 a7 y z (k + 1) (n : Int) y6 y6_1 y6_2 y6_3 y6_4 y6_5 y6_6 y6_7 y6_8 y6_9 y6_10 y10 (i : Int) y7 y8 =
      some (y6, y6_1, y6_2, y6_3, y6_4, y6_5, y6_6, y6_7, y6_8, y6_9, y6_10, y7 ++ (List.range' i k).map (flAt j0), y8 ++ (List.range' i k).map (bsAt j1), y10)
  | 0, i, y7, y8, h, e7, e8 => by
    rw [L10aL, show ilt (i : Int) (n : Int) = false from lt_f (by omega)]; simp
  | k + 1, i, y7, y8, h, e7, e8 => by
    have g1 : decide (fitN (addN (lenR FF y7) 1) 80) = true := decide_eq_true (by unfold fitN addN lenR; omega)
    have g2 : decide (fitN (addN (lenI y8) 1) 8) = true := decide_eq_true (by unfold fitN addN lenI; omega)
    have g3 : ∀ x, decide (fitN (addN (lenR FF y7) (lenR FF [x])) 80) = true := fun x => g1
    have g4 : ∀ x, decide (fitN (addN (lenI y8) (lenI [x])) 8) = true := fun x => g2
    rw [L10aL, show ilt (i : Int) (n : Int) = true from lt_t (by omega), ix0, inc (show n ≤ 1000000 by omega) (by omega), g1, g2, g3, g4]
    by_cases h1 : i < j0.length <;> by_cases h2 : i < j1.length
    · rw [lt_t (show i < lenR FF j0 from h1), lt_t (show i < lenI j1 from h2), in_t (show i < lenR FF j0 from h1), in_t (show i < lenI j1 from h2), l_t (show i < lenR FF j0 from h1), l_t (show i < lenI j1 from h2)]
      simp only [cond_true]
      have a := l10a j0 j1 j2 j3 r a0 a1 a2 a3 a4 a5 a6 a7 y z n hn y6 y6_1 y6_2 y6_3 y6_4 y6_5 y6_6 y6_7 y6_8 y6_9 y6_10 y10 k (i + 1) (y7 ++ [flAt j0 i]) (y8 ++ [bsAt j1 i]) (by omega) (by simp [e7]) (by simp [e8])
      rw [List.range'_succ, List.map_cons, List.map_cons]
      rw [List.append_assoc, List.append_assoc] at a
      rw [flAt, if_pos h1, bsAt, if_pos h2] at a
      rw [flAt, if_pos h1, bsAt, if_pos h2]
      exact a
    · rw [lt_t (show i < lenR FF j0 from h1), lt_f (show lenI j1 ≤ i by unfold lenI; omega), in_t (show i < lenR FF j0 from h1), l_t (show i < lenR FF j0 from h1)]
      simp only [cond_true, cond_false]
      have a := l10a j0 j1 j2 j3 r a0 a1 a2 a3 a4 a5 a6 a7 y z n hn y6 y6_1 y6_2 y6_3 y6_4 y6_5 y6_6 y6_7 y6_8 y6_9 y6_10 y10 k (i + 1) (y7 ++ [flAt j0 i]) (y8 ++ [bsAt j1 i]) (by omega) (by simp [e7]) (by simp [e8])
      rw [List.range'_succ, List.map_cons, List.map_cons]
      rw [List.append_assoc, List.append_assoc] at a
      rw [flAt, if_pos h1, bsAt, if_neg h2] at a
      rw [flAt, if_pos h1, bsAt, if_neg h2]
      exact a
    · rw [lt_f (show lenR FF j0 ≤ i by unfold lenR; omega), lt_t (show i < lenI j1 from h2), in_t (show i < lenI j1 from h2), l_t (show i < lenI j1 from h2)]
      simp only [cond_true, cond_false]
      have a := l10a j0 j1 j2 j3 r a0 a1 a2 a3 a4 a5 a6 a7 y z n hn y6 y6_1 y6_2 y6_3 y6_4 y6_5 y6_6 y6_7 y6_8 y6_9 y6_10 y10 k (i + 1) (y7 ++ [flAt j0 i]) (y8 ++ [bsAt j1 i]) (by omega) (by simp [e7]) (by simp [e8])
      rw [List.range'_succ, List.map_cons, List.map_cons]
      rw [List.append_assoc, List.append_assoc] at a
      rw [flAt, if_neg h1, bsAt, if_pos h2] at a
      rw [flAt, if_neg h1, bsAt, if_pos h2]
      exact a
    · rw [lt_f (show lenR FF j0 ≤ i by unfold lenR; omega), lt_f (show lenI j1 ≤ i by unfold lenI; omega)]
      simp only [cond_true, cond_false]
      have a := l10a j0 j1 j2 j3 r a0 a1 a2 a3 a4 a5 a6 a7 y z n hn y6 y6_1 y6_2 y6_3 y6_4 y6_5 y6_6 y6_7 y6_8 y6_9 y6_10 y10 k (i + 1) (y7 ++ [flAt j0 i]) (y8 ++ [bsAt j1 i]) (by omega) (by simp [e7]) (by simp [e8])
      rw [List.range'_succ, List.map_cons, List.map_cons]
      rw [List.append_assoc, List.append_assoc] at a
      rw [flAt, if_neg h1, bsAt, if_neg h2] at a
      rw [flAt, if_neg h1, bsAt, if_neg h2]
      exact a
theorem l10b (j0 : List (El FF)) (j1 j2 j3 : List Int) (r a0 a1 a2 a3 a4 a5 a6 a7 y z : Int) (y6 : List Int) (hn : y6.length ≤ 4096) (y5 y5_1 y5_2 y5_3 y5_4 y5_5 y5_6 y5_7 y5_8 y5_9 y5_10 : Int) (y7 : List (El FF)) (y8 y10 : List Int) : ∀ (k i : Nat) (y9 : List Int), i + k = y6.length → y9.length = i →
    L10bL j0 j1 j2 j3 (k + 1) (nlen (lenI y6)) y5 y5_1 y5_2 y5_3 y5_4 y5_5 y5_6 y5_7 y5_8 y5_9 y5_10 y6 y7 y8 y10 (i : Int) y9 =
      some (y5, y5_1, y5_2, y5_3, y5_4, y5_5, y5_6, y5_7, y5_8, y5_9, y5_10, y7, y8, y9 ++ (y6.drop i).map (fun x => kp x (-1) 1073741824), y10)
  | 0, i, y9, h, e9 => by
    rw [L10bL, lt_f (show lenI y6 ≤ i by unfold lenI; omega), List.drop_eq_nil_of_le (by omega)]; simp
  | k + 1, i, y9, h, e9 => by
    have hi : i < y6.length := by omega
    have g4 : ∀ x, decide (fitN (addN (lenI y9) (lenI [x])) 8) = true := fun x => decide_eq_true (by unfold fitN addN lenI; simp; omega)
    rw [L10bL, lt_t (show i < lenI y6 from hi), in_t (show i < lenI y6 from hi), ix0, l_t (show i < lenI y6 from hi), g4, inc (show y6.length ≤ 1000000 by omega) hi]
    simp only [cond_true]
    have a := l10b j0 j1 j2 j3 r a0 a1 a2 a3 a4 a5 a6 a7 y z y6 hn y5 y5_1 y5_2 y5_3 y5_4 y5_5 y5_6 y5_7 y5_8 y5_9 y5_10 y7 y8 y10 k (i + 1) (y9 ++ [kp (getI y6 i) (-1) 1073741824]) (by omega) (by simp [e9])
    rw [List.append_assoc, List.singleton_append] at a
    rw [List.drop_eq_getElem_cons hi, List.map_cons]
    rw [show getI y6 i = y6[i] from by unfold getI; rw [List.getD_eq_getElem?_getD, List.getElem?_eq_getElem hi]; rfl] at a ⊢
    exact a
theorem sub_take (l : List Int) (h : l.length ≤ 1000000) : inC 0 (imin (nlen (lenI l)) 4096) (nlen (lenI l)) ∧ leN (Nat.add 0 (subN (imin (nlen (lenI l)) 4096) 0)) (lenI l) ∧ subI l 0 (subN (imin (nlen (lenI l)) 4096) 0) = l.take 4096 := by
  have e : subN (imin (nlen (lenI l)) 4096) 0 = min l.length 4096 := by unfold subN imin nlen lenI; omega
  refine ⟨?_, ?_, ?_⟩
  · unfold inC imin nlen lenI; omega
  · rw [e]; show 0 + min l.length 4096 ≤ l.length; omega
  · rw [e]; unfold subI
    rw [List.drop_zero]
    rcases Nat.le_total l.length 4096 with h1 | h1
    · rw [Nat.min_eq_left h1, List.take_of_length_le (Nat.le_refl _), List.take_of_length_le h1]
    · rw [Nat.min_eq_right h1]
end Go.Proofs.Ytlmnohdgfjienaa.Cf

set_option maxRecDepth 100000
set_option linter.all false
set_option maxHeartbeats 4000000
set_option linter.unusedSimpArgs false
set_option linter.unusedVariables false
namespace Go.Proofs.Ytlmnohdgfjienaa.Cf
open Go.Abs
/-- two flows are one -/
@[reducible] def eqE (a b : El FF) : Bool := andB (ieq a.1 b.1) (andB (ieq a.snd.1 b.snd.1) (andB (ieq a.snd.snd.1 b.snd.snd.1) (andB (ieq a.snd.snd.snd.1 b.snd.snd.snd.1) (andB (ieq a.snd.snd.snd.snd.1 b.snd.snd.snd.snd.1) (andB (ieq a.snd.snd.snd.snd.snd.1 b.snd.snd.snd.snd.snd.1) (andB (ieq a.snd.snd.snd.snd.snd.snd.1 b.snd.snd.snd.snd.snd.snd.1) (andB (ieq a.snd.snd.snd.snd.snd.snd.snd.1 b.snd.snd.snd.snd.snd.snd.snd.1) (andB (ieq a.snd.snd.snd.snd.snd.snd.snd.snd.1 b.snd.snd.snd.snd.snd.snd.snd.snd.1) (ieq a.snd.snd.snd.snd.snd.snd.snd.snd.2 b.snd.snd.snd.snd.snd.snd.snd.snd.2)))))))))
def eqr (p : Nat → Bool) : Nat → Nat → Bool
  | 0, _ => true
  | k + 1, i => bif p i then eqr p k (i + 1) else false
def eqF (l m : List (El FF)) : Bool := bif ieq (nlen (lenR FF l)) (nlen (lenR FF m)) then eqr (fun i => eqE (getR FF l i) (getR FF m i)) l.length 0 else false
def eqI (l m : List Int) : Bool := bif ieq (nlen (lenI l)) (nlen (lenI m)) then eqr (fun i => ieq (getI l i) (getI m i)) l.length 0 else false
end Go.Proofs.Ytlmnohdgfjienaa.Cf

set_option maxRecDepth 100000
set_option linter.all false
set_option maxHeartbeats 4000000
namespace Go.Proofs.Ytlmnohdgfjienaa.Cf
open Go.Abs
theorem eqE_iff (a b : El FF) : eqE a b = true ↔ a = b := by
  obtain ⟨a0, a1, a2, a3, a4, a5, a6, a7, a8, a9⟩ := a
  obtain ⟨b0, b1, b2, b3, b4, b5, b6, b7, b8, b9⟩ := b
  simp [eqE, andB, ieq]
theorem eqr_iff (p : Nat → Bool) : ∀ k i, eqr p k i = true ↔ ∀ j, i ≤ j → j < i + k → p j = true
  | 0, i => by simp [eqr]; intro j h1 h2; omega
  | k + 1, i => by
    rw [eqr]
    cases hp : p i with
    | true =>
      rw [cond_true, eqr_iff p k (i + 1)]
      exact ⟨fun h j h1 h2 => by
        rcases Nat.eq_or_lt_of_le h1 with rfl | h3
        · exact hp
        · exact h j h3 (by omega), fun h j h1 h2 => h j (by omega) (by omega)⟩
    | false =>
      simp only [cond_false, Bool.false_eq_true, false_iff]
      intro h
      have := h i (Nat.le_refl _) (by omega)
      rw [hp] at this; simp at this
theorem ieq_n (m n : Nat) : ieq (nlen m) (nlen n) = true ↔ m = n := by unfold ieq nlen; simp; omega
theorem and_iff' (a b : Bool) : (bif a then b else false) = true ↔ a = true ∧ b = true := by cases a <;> simp
theorem getR_get {l : List (El FF)} {i : Nat} (h : i < l.length) : getR FF l i = l[i] := by
  unfold getR; rw [List.getD_eq_getElem?_getD, List.getElem?_eq_getElem h]; rfl
theorem getI_get {l : List Int} {i : Nat} (h : i < l.length) : getI l i = l[i] := by
  unfold getI; rw [List.getD_eq_getElem?_getD, List.getElem?_eq_getElem h]; rfl
theorem eqF_iff (l m : List (El FF)) : eqF l m = true ↔ l = m := by
  unfold eqF
  rw [and_iff', ieq_n, eqr_iff]
  refine ⟨fun ⟨h1, h2⟩ => List.ext_getElem h1 fun i hi hi2 => ?_, fun h => by subst h; exact ⟨rfl, fun j _ _ => (eqE_iff _ _).2 rfl⟩⟩
  have := (eqE_iff _ _).1 (h2 i (Nat.zero_le _) (by omega))
  rwa [getR_get hi, getR_get hi2] at this
theorem eqI_iff (l m : List Int) : eqI l m = true ↔ l = m := by
  unfold eqI
  rw [and_iff', ieq_n, eqr_iff]
  refine ⟨fun ⟨h1, h2⟩ => List.ext_getElem h1 fun i hi hi2 => ?_, fun h => by subst h; exact ⟨rfl, fun j _ _ => by unfold ieq; simp⟩⟩
  have := h2 i (Nat.zero_le _) (by omega)
  unfold ieq at this
  have := eq_of_beq this
  rwa [getI_get hi, getI_get hi2] at this
theorem kp_wt {x lo hi : Int} (h : lo ≤ hi) : kp x lo hi = x ↔ wt x lo hi = true := by
  unfold kp wt imin imax; simp; omega
theorem ieq_kp {x lo hi : Int} (h : lo ≤ hi) : ieq x (kp x lo hi) = wt x lo hi := by
  have := kp_wt (x := x) h
  unfold ieq
  by_cases q : kp x lo hi = x
  · rw [q, this.1 q]; simp
  · have q2 : wt x lo hi = false := by cases hw : wt x lo hi <;> simp_all
    rw [q2]; simp; exact fun e => q e.symm
theorem lF_lF (E : El FF) : lF (lF E) = lF E := by
  obtain ⟨k, m, f, t, l, o, g, d, a, b⟩ := E
  have h1 := kp_lo l (show (1 : Int) ≤ 1125899906842624 by decide)
  have h2 := kp_lo m (show (1 : Int) ≤ 65536 by decide)
  simp only [lF]
  rw [kp_kp k (by decide), kp_kp m (by decide), kp_kp f (by decide), kp_kp t (by decide), kp_kp l (by decide), kp_kp g (by decide), kp_kp d (by decide), kp_kp a (by decide), kp_kp o h1.2, kp_kp b (by omega)]
theorem lF0_eq : lF0 = lF (0, 0, 0, 0, 0, 0, 0, 0, 0, 0) := rfl
theorem sF_iff (E : El FF) : sF E = true ↔ lF E = E := by
  have : sF E = eqE E (lF E) := rfl
  rw [this, eqE_iff]; exact eq_comm
theorem flAt_lF (j0 : List (El FF)) (i : Nat) : lF (flAt j0 i) = flAt j0 i := by
  unfold flAt; split
  · exact lF_lF _
  · rw [lF0_eq]; exact lF_lF _
theorem bsAt_wt (j1 : List Int) (i : Nat) : wt (bsAt j1 i) 1 1073741824 = true := by
  unfold bsAt; split
  · exact (kp_wt (by decide)).1 (kp_kp _ (by decide))
  · exact (kp_wt (by decide)).1 (kp_kp _ (by decide))
theorem cFl_len (j0 : List (El FF)) : (cFl j0).length = cN j0 := by simp [cFl]
theorem cBs_len (j0 : List (El FF)) (j1 : List Int) : (cBs j0 j1).length = cN j0 := by simp [cBs]
theorem cFl_get {j0 : List (El FF)} {i : Nat} (h : i < cN j0) : getR FF (cFl j0) i = flAt j0 i := by
  rw [getR_get (by rw [cFl_len]; exact h)]; simp [cFl]
theorem cBs_get {j0 : List (El FF)} {j1 : List Int} {i : Nat} (h : i < cN j0) : getI (cBs j0 j1) i = bsAt j1 i := by
  rw [getI_get (by rw [cBs_len]; exact h)]; simp [cBs]
theorem cN_cN (j0 : List (El FF)) : cN (cFl j0) = cN j0 := by unfold cN; rw [cFl_len]; unfold cN; omega
theorem cFl_cFl (j0 : List (El FF)) : cFl (cFl j0) = cFl j0 := by
  refine List.ext_getElem (by rw [cFl_len, cFl_len, cN_cN]) fun i h1 h2 => ?_
  rw [cFl_len, cN_cN] at h1
  rw [← getR_get (by rw [cFl_len, cN_cN]; exact h1), ← getR_get (by rw [cFl_len]; exact h1), cFl_get (by rw [cN_cN]; exact h1), flAt, if_pos (by rw [cFl_len]; exact h1), cFl_get h1]
  exact flAt_lF j0 i
theorem cBs_cBs (j0 : List (El FF)) (j1 : List Int) : cBs (cFl j0) (cBs j0 j1) = cBs j0 j1 := by
  refine List.ext_getElem (by rw [cBs_len, cBs_len, cN_cN]) fun i h1 h2 => ?_
  rw [cBs_len, cN_cN] at h1
  rw [← getI_get (by rw [cBs_len, cN_cN]; exact h1), ← getI_get (by rw [cBs_len]; exact h1), cBs_get (by rw [cN_cN]; exact h1), bsAt, if_pos (by rw [cBs_len]; exact h1), cBs_get h1]
  exact (kp_wt (by decide)).2 (bsAt_wt j1 i)
theorem cPl_cPl (l : List Int) : cPl (cPl l) = cPl l := by
  unfold cPl
  rw [← List.map_take, List.map_map, List.take_take, Nat.min_self]
  refine List.map_congr_left fun x _ => ?_
  exact kp_kp x (by decide)
theorem cDr_cDr (l : List Int) : cDr (cDr l) = cDr l := by unfold cDr; rw [List.take_take, Nat.min_self]
theorem bfr_iff (j0 : List (El FF)) (j1 : List Int) : ∀ k i, bfr j0 j1 k i = 0 ↔ ∀ j, i ≤ j → j < i + k → bad j0 j1 j = false
  | 0, i => by simp [bfr]; intro j h1 h2; omega
  | k + 1, i => by
    rw [bfr]
    cases hp : bad j0 j1 i with
    | false =>
      rw [cond_false, bfr_iff j0 j1 k (i + 1)]
      exact ⟨fun h j h1 h2 => by
        rcases Nat.eq_or_lt_of_le h1 with rfl | h3
        · exact hp
        · exact h j h3 (by omega), fun h j h1 h2 => h j (by omega) (by omega)⟩
    | true =>
      rw [cond_true]
      refine ⟨fun h => by omega, fun h => ?_⟩
      have := h i (Nat.le_refl _) (by omega)
      rw [hp] at this; simp at this
theorem pixr_iff (l : List Int) : ∀ k i, pixr l k i = -1 ↔ ∀ j, i ≤ j → j < i + k → wt (getI l j) (-1) 1073741824 = true
  | 0, i => by simp [pixr]; intro j h1 h2; omega
  | k + 1, i => by
    rw [pixr]
    cases hp : wt (getI l i) (-1) 1073741824 with
    | true =>
      rw [show notB true = false from rfl, cond_false, pixr_iff l k (i + 1)]
      exact ⟨fun h j h1 h2 => by
        rcases Nat.eq_or_lt_of_le h1 with rfl | h3
        · exact hp
        · exact h j h3 (by omega), fun h j h1 h2 => h j (by omega) (by omega)⟩
    | false =>
      rw [show notB false = true from rfl, cond_true]
      refine ⟨fun h => by omega, fun h => ?_⟩
      have := h i (Nat.le_refl _) (by omega)
      rw [hp] at this; simp at this
theorem bad_f (j0 : List (El FF)) (j1 : List Int) (i : Nat) : bad j0 j1 i = false ↔ lF (getR FF j0 i) = getR FF j0 i ∧ wt (getI j1 i) 1 1073741824 = true := by
  rw [← sF_iff]; unfold bad notB
  cases sF (getR FF j0 i) <;> cases wt (getI j1 i) 1 1073741824 <;> simp
theorem fb_clean (j0 : List (El FF)) (j1 : List Int) : fb (cFl j0) (cBs j0 j1) = 0 := by
  refine (bfr_iff _ _ _ _).2 fun j _ hj => (bad_f _ _ _).2 ?_
  rw [cFl_len] at hj
  rw [cFl_get (by omega), cBs_get (by omega)]
  exact ⟨flAt_lF _ _, bsAt_wt _ _⟩
theorem pix_clean (l : List Int) : pix (cPl l) = -1 := by
  refine (pixr_iff _ _ _).2 fun j _ hj => ?_
  rw [getI_get (by omega)]
  simp only [cPl, List.getElem_map]
  exact (kp_wt (by decide)).1 (kp_kp _ (by decide))
theorem eqs_true {x y : Int} : ine x y = false ↔ x = y := by unfold ine; simp
theorem ckE_iff (r a0 a1 a2 a3 a4 a5 a6 a7 y z : Int) (n0 n1 n2 n3 : Nat) (f p : Int) : ckE r a0 a1 a2 a3 a4 a5 a6 a7 y z n0 n1 n2 n3 f p = 0 ↔
    (n0 ≠ 0 ∧ n0 ≤ 256 ∧ n1 = n0 ∧ f = 0 ∧ wt r 1 1099511627776 = true ∧ sA a0 a1 a2 a3 a4 a5 a6 a7 = true ∧ n2 ≤ 4096 ∧ p = -1 ∧ n3 ≤ 4096 ∧ wt y 0 1000 = true ∧ wt z 0 1099511627776 = true) := by
  have e1 : ieq (nlen n0) 0 = decide (n0 = 0) := by unfold ieq nlen; by_cases h : n0 = 0 <;> simp [h]
  have e2 : ∀ (a : Int) (b n : Nat), a = (b : Int) → ilt a (nlen n) = decide (b < n) := fun a b n h => by subst h; unfold ilt nlen; by_cases q : b < n <;> simp [q]
  have e3 : ine (nlen n1) (nlen n0) = !decide (n1 = n0) := by unfold ine nlen; by_cases h : n1 = n0 <;> simp [h]; omega
  have e4 : ieq f 0 = decide (f = 0) := by unfold ieq; by_cases h : f = 0 <;> simp [h]
  have e5 : ieq p (-1) = decide (p = -1) := by unfold ieq; by_cases h : p = -1 <;> simp [h]
  unfold ckE
  rw [e1, e2 256 256 n0 rfl, e2 4096 4096 n2 rfl, e2 4096 4096 n3 rfl, e3, e4, e5]
  unfold notB
  by_cases c1 : n0 = 0
  · simp [c1]
  by_cases c2 : 256 < n0
  · simp [c1, c2]; omega
  by_cases c3 : n1 = n0
  rotate_left
  · simp [c1, c2, c3]
  by_cases c4 : f = 0
  rotate_left
  · simp [c1, c2, c3, c4]
  cases c5 : wt r 1 1099511627776
  · simp [c1, c2, c3, c4]
  cases c6 : sA a0 a1 a2 a3 a4 a5 a6 a7
  · simp [c1, c2, c3, c4]
  by_cases c7 : 4096 < n2
  · simp [c1, c2, c3, c4, c7]; omega
  by_cases c8 : p = -1
  rotate_left
  · simp [c1, c2, c3, c4, c7, c8]
  by_cases c9 : 4096 < n3
  · simp [c1, c2, c3, c4, c7, c8, c9]; omega
  cases c10 : wt y 0 1000
  · simp [c1, c2, c3, c4, c7, c8, c9]
  cases c11 : wt z 0 1099511627776
  · simp [c1, c2, c3, c4, c7, c8, c9]
  · simp [c1, c2, c3, c4, c7, c8, c9]; omega
theorem ckK_0 (r a0 a1 a2 a3 a4 a5 a6 a7 y z : Int) (n0 n1 n2 n3 : Nat) (f p : Int) (h : ckE r a0 a1 a2 a3 a4 a5 a6 a7 y z n0 n1 n2 n3 f p = 0) : ckK r a0 a1 a2 a3 a4 a5 a6 a7 y z n0 n1 n2 n3 f p = 0 := by
  obtain ⟨h0, h1, h2, h3, h4, h5, h6, h7, h8, h9, h10⟩ := (ckE_iff r a0 a1 a2 a3 a4 a5 a6 a7 y z n0 n1 n2 n3 f p).1 h
  have e1 : ieq (nlen n0) 0 = false := by unfold ieq nlen; simp; exact h0
  have e2 : ilt 256 (nlen n0) = false := by unfold ilt nlen; simp; omega
  have e3 : ilt 4096 (nlen n2) = false := by unfold ilt nlen; simp; omega
  have e4 : ilt 4096 (nlen n3) = false := by unfold ilt nlen; simp; omega
  have e5 : ine (nlen n1) (nlen n0) = false := by unfold ine nlen; simp [h2]
  unfold ckK
  rw [e1, e2, e3, e4, e5, h3, h4, h5, h7, h9, h10]; rfl
end Go.Proofs.Ytlmnohdgfjienaa.Cf

set_option maxRecDepth 100000
set_option linter.all false
set_option maxHeartbeats 0
namespace Go.Proofs.Ytlmnohdgfjienaa.Cf
open Go.Abs Go.Proofs.Ytlmnohdgfjienaa.Code Go.Proofs.Ytlmnohdgfjienaa.Code
theorem drB_len : ∀ l : List Int, (drB l).length ≤ 10 * l.length
  | [] => by simp [drB]
  | x :: l => by
    have h1 := vb_len (icvB x)
    have h2 := drB_len l
    have h3 : drB (x :: l) = vb (icv .u64 x) ++ drB l := rfl
    rw [h3, List.length_append, List.length_cons]; omega
theorem ck_len (j0 : List (El FF)) (j1 j2 j3 : List Int) (r a0 a1 a2 a3 a4 a5 a6 a7 y z : Int) (h : ckE r a0 a1 a2 a3 a4 a5 a6 a7 y z (lenR FF j0) (lenI j1) (lenI j2) (lenI j3) (fb j0 j1) (pix j2) = 0) : j1.length = j0.length :=
  ((ckE_iff r a0 a1 a2 a3 a4 a5 a6 a7 y z _ _ _ _ _ _).1 h).2.2.1
theorem g8 (j0 : List (El FF)) (j1 j2 j3 : List Int) (r a0 a1 a2 a3 a4 a5 a6 a7 y z : Int) (hB : cfgB j0 j1 j2 j3 r a0 a1 a2 a3 a4 a5 a6 a7 y z = true) : ACalls Try.prog 8 [cC r a0 a1 a2 a3 a4 a5 a6 a7 y z] (hH j0 j1 j2 j3) (AV.tup [AV.sw 4 1, iI (ckE r a0 a1 a2 a3 a4 a5 a6 a7 y z (lenR FF j0) (lenI j1) (lenI j2) (lenI j3) (fb j0 j1) (pix j2))]) [] [AObj.ints 0 true .u8 (eB j0 j1 j2 j3 r a0 a1 a2 a3 a4 a5 a6 a7 y z)] := by
  unfold cfgB at hB
  simp only [Bool.and_eq_true, decide_eq_true_eq] at hB
  obtain ⟨⟨⟨⟨b0, b1⟩, b2⟩, b3⟩, s0, s1, s2, s3⟩ := hB
  cases hc : ine (ckE r a0 a1 a2 a3 a4 a5 a6 a7 y z (lenR FF j0) (lenI j1) (lenI j2) (lenI j3) (fb j0 j1) (pix j2)) 0 with
  | true =>
    have hh := f8_1 j0 j1 j2 j3 r a0 a1 a2 a3 a4 a5 a6 a7 y z hc
    unfold eB; rw [hc]; exact hh
  | false =>
    have hk : ckE r a0 a1 a2 a3 a4 a5 a6 a7 y z (lenR FF j0) (lenI j1) (lenI j2) (lenI j3) (fb j0 j1) (pix j2) = 0 := by unfold ine at hc; simpa using hc
    have he : j1.length = j0.length := ck_len j0 j1 j2 j3 r a0 a1 a2 a3 a4 a5 a6 a7 y z hk
    simp only [List.all_cons, List.all_nil, Bool.and_eq_true] at b3
    obtain ⟨c0, c1, c2, c3, c4, c5, c6, c7, c8, c9, c10, -⟩ := b3
    have hA : [r, a0, a1, a2, a3, a4, a5, a6, a7].all i64B = true := by simp [c0, c1, c2, c3, c4, c5, c6, c7, c8]
    have hZ : [z].all i64B = true := by simp [c10]
    have v0 := vb_len (icvB (nlen (lenR FF j0)))
    have v2 := vb_len (icvB (nlen (lenI j2)))
    have v3 := vb_len (icvB (nlen (lenI j3)))
    have vy := vb_len (icvB y)
    have zA := zb_len hA
    have z2 := zb_len b2
    have zZ := zb_len hZ
    have fl := flB_len b0 b1 he j0.length 0 (by omega)
    simp only [List.length_cons, List.length_nil] at zA zZ
    have ka := e8a j0 j1 j2 j3 r a0 a1 a2 a3 a4 a5 a6 a7 y z b0 b1 he s0 j0.length 0 (76 :: 69 :: 65 :: 84 :: vb (icv .u64 (nlen (lenR FF j0)))) (by omega) (by simp only [List.length_cons]; omega)
    have kb := e8b j0 j1 j2 j3 r a0 a1 a2 a3 a4 a5 a6 a7 y z s3 j3.length 0 ((((((76 :: 69 :: 65 :: 84 :: vb (icv .u64 (nlen (lenR FF j0)))) ++ flB j0 j1 j0.length 0).append (zb [r, a0, a1, a2, a3, a4, a5, a6, a7])).append (vb (icv .u64 (nlen (lenI j2))))).append (zb j2)).append (vb (icv .u64 (nlen (lenI j3))))) (by omega) (by simp only [List.append_eq, List.length_append, List.length_cons]; omega)
    have hd := drB_len j3
    have hh := f8_2 j0 j1 j2 j3 r a0 a1 a2 a3 a4 a5 a6 a7 y z (d0 := hc) (L8a_0_h0 := fun _ => ka) (L8b_1_h0 := fun _ => kb) (s0 := fun _ => icvB _) (s2 := fun _ => icvB _) (s5 := fun _ => icvB _) (s7 := fun _ => icvB _) (s1 := fun _ => okZ_mk hA (by simp only [List.append_eq, List.length_append, List.length_cons, List.length_nil, List.drop_zero] at *; omega)) (s3 := fun _ => by simp only [List.append_eq, List.length_append, List.length_cons, List.length_nil, List.drop_zero] at *; omega) (s4 := fun _ => okZ_mk b2 (by simp only [List.append_eq, List.length_append, List.length_cons, List.length_nil, List.drop_zero] at *; omega)) (s6 := fun _ => by simp only [List.append_eq, List.length_append, List.length_cons, List.length_nil, List.drop_zero] at *; omega) (s8 := fun _ => by simp only [List.append_eq, List.length_append, List.length_cons, List.length_nil, List.drop_zero] at *; omega) (s9 := fun _ => okZ_mk hZ (by simp only [List.append_eq, List.length_append, List.length_cons, List.length_nil, List.drop_zero] at *; omega))
    rw [hk] 
    unfold eB eB0; rw [hc]
    simp only [cond_false]
    simp only [List.drop_zero, List.append_eq, List.cons_append, List.append_assoc] at hh ⊢
    exact hh
theorem g9 (j0 : List (El FF)) (j1 j2 j3 : List Int) (r a0 a1 a2 a3 a4 a5 a6 a7 y z : Int) (hB : cfgB j0 j1 j2 j3 r a0 a1 a2 a3 a4 a5 a6 a7 y z = true) : ACalls Try.prog 9 [cC r a0 a1 a2 a3 a4 a5 a6 a7 y z] (hH j0 j1 j2 j3) (AV.tup [AV.sw 4 1, iI (ckE r a0 a1 a2 a3 a4 a5 a6 a7 y z (lenR FF j0) (lenI j1) (lenI j2) (lenI j3) (fb j0 j1) (pix j2))]) [] [AObj.ints 0 true .u8 (eB j0 j1 j2 j3 r a0 a1 a2 a3 a4 a5 a6 a7 y z)] := by
  unfold cfgB at hB
  simp only [Bool.and_eq_true, decide_eq_true_eq] at hB
  obtain ⟨⟨⟨⟨b0, b1⟩, b2⟩, b3⟩, s0, s1, s2, s3⟩ := hB
  cases hc : ine (ckE r a0 a1 a2 a3 a4 a5 a6 a7 y z (lenR FF j0) (lenI j1) (lenI j2) (lenI j3) (fb j0 j1) (pix j2)) 0 with
  | true =>
    have hh := f9_1 j0 j1 j2 j3 r a0 a1 a2 a3 a4 a5 a6 a7 y z hc
    unfold eB; rw [hc]; exact hh
  | false =>
    have hk : ckE r a0 a1 a2 a3 a4 a5 a6 a7 y z (lenR FF j0) (lenI j1) (lenI j2) (lenI j3) (fb j0 j1) (pix j2) = 0 := by unfold ine at hc; simpa using hc
    have he : j1.length = j0.length := ck_len j0 j1 j2 j3 r a0 a1 a2 a3 a4 a5 a6 a7 y z hk
    simp only [List.all_cons, List.all_nil, Bool.and_eq_true] at b3
    obtain ⟨c0, c1, c2, c3, c4, c5, c6, c7, c8, c9, c10, -⟩ := b3
    have hA : [r, a0, a1, a2, a3, a4, a5, a6, a7].all i64B = true := by simp [c0, c1, c2, c3, c4, c5, c6, c7, c8]
    have hZ : [z].all i64B = true := by simp [c10]
    have v0 := vb_len (icvB (nlen (lenR FF j0)))
    have v2 := vb_len (icvB (nlen (lenI j2)))
    have v3 := vb_len (icvB (nlen (lenI j3)))
    have vy := vb_len (icvB y)
    have zA := zb_len hA
    have z2 := zb_len b2
    have zZ := zb_len hZ
    have fl := flB_len b0 b1 he j0.length 0 (by omega)
    simp only [List.length_cons, List.length_nil] at zA zZ
    have ka := e9a j0 j1 j2 j3 r a0 a1 a2 a3 a4 a5 a6 a7 y z b0 b1 he s0 j0.length 0 (76 :: 69 :: 65 :: 84 :: vb (icv .u64 (nlen (lenR FF j0)))) (by omega) (by simp only [List.length_cons]; omega)
    have kb := e9b j0 j1 j2 j3 r a0 a1 a2 a3 a4 a5 a6 a7 y z s3 j3.length 0 ((((((76 :: 69 :: 65 :: 84 :: vb (icv .u64 (nlen (lenR FF j0)))) ++ flB j0 j1 j0.length 0).append (zb [r, a0, a1, a2, a3, a4, a5, a6, a7])).append (vb (icv .u64 (nlen (lenI j2))))).append (zb j2)).append (vb (icv .u64 (nlen (lenI j3))))) (by omega) (by simp only [List.append_eq, List.length_append, List.length_cons]; omega)
    have hd := drB_len j3
    have hh := f9_2 j0 j1 j2 j3 r a0 a1 a2 a3 a4 a5 a6 a7 y z (d0 := hc) (L9a_0_h0 := fun _ => ka) (L9b_1_h0 := fun _ => kb) (s0 := fun _ => icvB _) (s2 := fun _ => icvB _) (s5 := fun _ => icvB _) (s7 := fun _ => icvB _) (s1 := fun _ => okZ_mk hA (by simp only [List.append_eq, List.length_append, List.length_cons, List.length_nil, List.drop_zero] at *; omega)) (s3 := fun _ => by simp only [List.append_eq, List.length_append, List.length_cons, List.length_nil, List.drop_zero] at *; omega) (s4 := fun _ => okZ_mk b2 (by simp only [List.append_eq, List.length_append, List.length_cons, List.length_nil, List.drop_zero] at *; omega)) (s6 := fun _ => by simp only [List.append_eq, List.length_append, List.length_cons, List.length_nil, List.drop_zero] at *; omega) (s8 := fun _ => by simp only [List.append_eq, List.length_append, List.length_cons, List.length_nil, List.drop_zero] at *; omega) (s9 := fun _ => okZ_mk hZ (by simp only [List.append_eq, List.length_append, List.length_cons, List.length_nil, List.drop_zero] at *; omega))
    rw [hk] 
    unfold eB eB0; rw [hc]
    simp only [cond_false]
    simp only [List.drop_zero, List.append_eq, List.cons_append, List.append_assoc] at hh ⊢
    exact hh
end Go.Proofs.Ytlmnohdgfjienaa.Cf
