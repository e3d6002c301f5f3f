import Derived.Test.YtlnmjjefjhblcaaCf
set_option maxRecDepth 100000
set_option linter.all false
set_option maxHeartbeats 4000000
namespace Go.Proofs.Ytlnmjjefjhblcaa.Cf
open Go.Abs
theorem kq (x : Int) {lo hi : Int} (h : lo ≤ hi) : imax lo (imin x hi) = kp x lo hi := by
  unfold imax imin kp imin imax; omega
theorem kp_lo (x : Int) {lo hi : Int} (h : lo ≤ hi) : lo ≤ kp x lo hi ∧ kp x lo hi ≤ hi := by
  unfold kp imin imax; omega
theorem kp_in {x lo hi : Int} (h : lo ≤ x) (h2 : x ≤ hi) : kp x lo hi = x := by
  unfold kp imin imax; omega
theorem kp_kp (x : Int) {lo hi : Int} (h : lo ≤ hi) : kp (kp x lo hi) lo hi = kp x lo hi := kp_in (kp_lo x h).1 (kp_lo x h).2
theorem g26 (k m f t l o g d a b : Int) : ACalls Try.prog 26 [AV.agg [AV.v (.int .i64 k), AV.v (.int .i64 m), AV.v (.int .i64 f), AV.v (.int .i64 t), AV.v (.int .i64 l), AV.v (.int .i64 o), AV.v (.int .i64 g), AV.v (.int .i64 d), AV.v (.int .i64 a), AV.v (.int .i64 b)]] [] (AV.agg [AV.v (.int .i64 (kp k 0 2)), AV.v (.int .i64 (kp m 1 65536)), AV.v (.int .i64 (kp f 1 1000)), AV.v (.int .i64 (kp t 0 1099511627776)), AV.v (.int .i64 (kp l 1 1125899906842624)), AV.v (.int .i64 (kp o (kp l 1 1125899906842624) 1125899906842624)), AV.v (.int .i64 (kp g 1 1125899906842624)), AV.v (.int .i64 (kp d 1 1125899906842624)), AV.v (.int .i64 (kp a 262144 16777216)), AV.v (.int .i64 (kp b (kp m 1 65536) 1073741824))]) [] [] := by
  have h := f26 k m f t l o g d a b
  unfold f26r0 f26r1 at h
  simp only [kq k (show (0 : Int) ≤ 2 by decide), kq m (show (1 : Int) ≤ 65536 by decide), kq f (show (1 : Int) ≤ 1000 by decide), kq t (show (0 : Int) ≤ 1099511627776 by decide), kq l (show (1 : Int) ≤ 1125899906842624 by decide), kq g (show (1 : Int) ≤ 1125899906842624 by decide), kq d (show (1 : Int) ≤ 1125899906842624 by decide), kq a (show (262144 : Int) ≤ 16777216 by decide)] at h
  rw [kq o (kp_lo l (show (1 : Int) ≤ 1125899906842624 by decide)).2, kq b (show kp m 1 65536 ≤ 1073741824 from by have := (kp_lo m (show (1 : Int) ≤ 65536 by decide)).2; omega)] at h
  exact h
theorem g21 (k m f t l o g d a b : Int) : ACalls Try.prog 21 [AV.agg [AV.v (.int .i64 k), AV.v (.int .i64 m), AV.v (.int .i64 f), AV.v (.int .i64 t), AV.v (.int .i64 l), AV.v (.int .i64 o), AV.v (.int .i64 g), AV.v (.int .i64 d), AV.v (.int .i64 a), AV.v (.int .i64 b)]] [] (AV.agg [AV.v (.int .i64 (kp k 0 2)), AV.v (.int .i64 (kp m 1 65536)), AV.v (.int .i64 (kp f 1 1000)), AV.v (.int .i64 (kp t 0 1099511627776)), AV.v (.int .i64 (kp l 1 1125899906842624)), AV.v (.int .i64 (kp o (kp l 1 1125899906842624) 1125899906842624)), AV.v (.int .i64 (kp g 1 1125899906842624)), AV.v (.int .i64 (kp d 1 1125899906842624)), AV.v (.int .i64 (kp a 262144 16777216)), AV.v (.int .i64 (kp b (kp m 1 65536) 1073741824))]) [] [] := by
  have h := f21 k m f t l o g d a b
  unfold f21r0 f21r1 at h
  exact h
theorem g19 (p q r s u v w x : Int) : ACalls Try.prog 19 [AV.agg [AV.v (.int .i64 p), AV.v (.int .i64 q), AV.v (.int .i64 r), AV.v (.int .i64 s), AV.v (.int .i64 u), AV.v (.int .i64 v), AV.v (.int .i64 w), AV.v (.int .i64 x)]] [] (AV.agg [AV.v (.int .i64 (kp p 1 1073741824)), AV.v (.int .i64 (kp q 0 67108864)), AV.v (.int .i64 (kp r 1 1125899906842624)), AV.v (.int .i64 (kp s 0 17179869184)), AV.v (.int .i64 (kp u 0 17179869184)), AV.v (.int .i64 (kp v 0 65536)), AV.v (.int .i64 (kp w 0 67108864)), AV.v (.int .i64 (kp x 0 67108864))]) [] [] := by
  have h := f19 p q r s u v w x
  rw [kq p (show (1 : Int) ≤ 1073741824 by decide), kq q (show (0 : Int) ≤ 67108864 by decide), kq r (show (1 : Int) ≤ 1125899906842624 by decide), kq s (show (0 : Int) ≤ 17179869184 by decide), kq u (show (0 : Int) ≤ 17179869184 by decide), kq v (show (0 : Int) ≤ 65536 by decide), kq w (show (0 : Int) ≤ 67108864 by decide), kq x (show (0 : Int) ≤ 67108864 by decide)] at h
  exact h
theorem g23 (p q r s u v w x : Int) : ACalls Try.prog 23 [AV.agg [AV.v (.int .i64 p), AV.v (.int .i64 q), AV.v (.int .i64 r), AV.v (.int .i64 s), AV.v (.int .i64 u), AV.v (.int .i64 v), AV.v (.int .i64 w), AV.v (.int .i64 x)]] [] (AV.agg [AV.v (.int .i64 (kp p 1 1073741824)), AV.v (.int .i64 (kp q 0 67108864)), AV.v (.int .i64 (kp r 1 1125899906842624)), AV.v (.int .i64 (kp s 0 17179869184)), AV.v (.int .i64 (kp u 0 17179869184)), AV.v (.int .i64 (kp v 0 65536)), AV.v (.int .i64 (kp w 0 67108864)), AV.v (.int .i64 (kp x 0 67108864))]) [] [] := by
  have h := f23 p q r s u v w x
  skip
  exact h
theorem g24 (x lo hi : Int) (h : decide (lo ≤ hi) = true) : ACalls Try.prog 24 [AV.v (.int .i64 x), AV.v (.int .i64 lo), AV.v (.int .i64 hi)] [] (AV.v (.int .i64 (kp x lo hi))) [] [] := by
  have q := f24 x lo hi
  rw [kq x (of_decide_eq_true h)] at q
  exact q
theorem g30 (x lo hi : Int) : ACalls Try.prog 30 [AV.v (.int .i64 x), AV.v (.int .i64 lo), AV.v (.int .i64 hi)] [] (AV.v (.int .i64 (kp x lo hi))) [] [] := f30 x lo hi
/-- between -/
def wt (x lo hi : Int) : Bool := decide (lo ≤ x ∧ x ≤ hi)
theorem g18 (x lo hi : Int) : ACalls Try.prog 18 [AV.v (.int .i64 x), AV.v (.int .i64 lo), AV.v (.int .i64 hi)] [] (AV.v (.bool (wt x lo hi))) [] [] := by
  have h := f18 x lo hi
  rw [show (bif ile lo x then ile x hi else false) = wt x lo hi from by unfold wt ile; by_cases h1 : lo ≤ x <;> by_cases h2 : x ≤ hi <;> simp [h1, h2]] at h
  exact h
theorem g22 (x lo hi : Int) : ACalls Try.prog 22 [AV.v (.int .i64 x), AV.v (.int .i64 lo), AV.v (.int .i64 hi)] [] (AV.v (.bool (wt x lo hi))) [] [] := by
  have h := f22 x lo hi
  rw [show (bif ile lo x then ile x hi else false) = wt x lo hi from by unfold wt ile; by_cases h1 : lo ≤ x <;> by_cases h2 : x ≤ hi <;> simp [h1, h2]] at h
  exact h
theorem g17 (x : Int) : ACalls Try.prog 17 [AV.v (.int .i64 x)] [] (AV.v (.bool (notB (wt x (-1) 1073741824)))) [] [] := by
  have h := f17 x
  unfold f17r0 at h
  rw [show (bif ile (-1) x then ile x 1073741824 else false) = wt x (-1) 1073741824 from by unfold wt ile; by_cases h1 : -1 ≤ x <;> by_cases h2 : x ≤ 1073741824 <;> simp [h1, h2]] at h
  exact h
/-- a flow is as it is kept -/
@[reducible] def sF (E : El FF) : Bool := andB (ieq E.1 (kp E.1 0 2)) (andB (ieq E.snd.1 (kp E.snd.1 1 65536)) (andB (ieq E.snd.snd.1 (kp E.snd.snd.1 1 1000)) (andB (ieq E.snd.snd.snd.1 (kp E.snd.snd.snd.1 0 1099511627776)) (andB (ieq E.snd.snd.snd.snd.1 (kp E.snd.snd.snd.snd.1 1 1125899906842624)) (andB (ieq E.snd.snd.snd.snd.snd.1 (kp E.snd.snd.snd.snd.snd.1 (kp E.snd.snd.snd.snd.1 1 1125899906842624) 1125899906842624)) (andB (ieq E.snd.snd.snd.snd.snd.snd.1 (kp E.snd.snd.snd.snd.snd.snd.1 1 1125899906842624)) (andB (ieq E.snd.snd.snd.snd.snd.snd.snd.1 (kp E.snd.snd.snd.snd.snd.snd.snd.1 1 1125899906842624)) (andB (ieq E.snd.snd.snd.snd.snd.snd.snd.snd.1 (kp E.snd.snd.snd.snd.snd.snd.snd.snd.1 262144 16777216)) (ieq E.snd.snd.snd.snd.snd.snd.snd.snd.2 (kp E.snd.snd.snd.snd.snd.snd.snd.snd.2 (kp E.snd.1 1 65536) 1073741824))))))))))
/-- a flow, kept within -/
@[reducible] def lF (E : El FF) : El FF := (kp E.1 0 2, kp E.snd.1 1 65536, kp E.snd.snd.1 1 1000, kp E.snd.snd.snd.1 0 1099511627776, kp E.snd.snd.snd.snd.1 1 1125899906842624, kp E.snd.snd.snd.snd.snd.1 (kp E.snd.snd.snd.snd.1 1 1125899906842624) 1125899906842624, kp E.snd.snd.snd.snd.snd.snd.1 1 1125899906842624, kp E.snd.snd.snd.snd.snd.snd.snd.1 1 1125899906842624, kp E.snd.snd.snd.snd.snd.snd.snd.snd.1 262144 16777216, kp E.snd.snd.snd.snd.snd.snd.snd.snd.2 (kp E.snd.1 1 65536) 1073741824)
@[reducible] def lF0 : El FF := (kp 0 0 2, kp 0 1 65536, kp 0 1 1000, kp 0 0 1099511627776, kp 0 1 1125899906842624, kp 0 (kp 0 1 1125899906842624) 1125899906842624, kp 0 1 1125899906842624, kp 0 1 1125899906842624, kp 0 262144 16777216, kp 0 (kp 0 1 65536) 1073741824)
/-- so is the queue -/
@[reducible] def sA (a0 a1 a2 a3 a4 a5 a6 a7 : Int) : Bool := andB (ieq a0 (kp a0 1 1073741824)) (andB (ieq a1 (kp a1 0 67108864)) (andB (ieq a2 (kp a2 1 1125899906842624)) (andB (ieq a3 (kp a3 0 17179869184)) (andB (ieq a4 (kp a4 0 17179869184)) (andB (ieq a5 (kp a5 0 65536)) (andB (ieq a6 (kp a6 0 67108864)) (ieq a7 (kp a7 0 67108864))))))))
@[reducible] def cC (r a0 a1 a2 a3 a4 a5 a6 a7 y z : Int) : AV := AV.agg [AV.sw 0 10, AV.sw 1 1, AV.v (.int .i64 r), AV.v (.int .i64 a0), AV.v (.int .i64 a1), AV.v (.int .i64 a2), AV.v (.int .i64 a3), AV.v (.int .i64 a4), AV.v (.int .i64 a5), AV.v (.int .i64 a6), AV.v (.int .i64 a7), AV.sw 2 1, AV.sw 3 1, AV.v (.int .i64 y), AV.v (.int .i64 z)]
@[reducible] def hH (j0 : List (El FF)) (j1 j2 j3 : List Int) : List AObj := [AObj.rows false FF j0, AObj.ints 0 false .i64 j1, AObj.ints 0 false .i64 j2, AObj.ints 0 false .u32 j3]
@[reducible] def cD (q b0 b1 b2 b3 b4 b5 b6 b7 u x : Int) : AV := AV.agg [AV.sw 4 10, AV.sw 5 1, AV.v (.int .i64 q), AV.v (.int .i64 b0), AV.v (.int .i64 b1), AV.v (.int .i64 b2), AV.v (.int .i64 b3), AV.v (.int .i64 b4), AV.v (.int .i64 b5), AV.v (.int .i64 b6), AV.v (.int .i64 b7), AV.sw 6 1, AV.sw 7 1, AV.v (.int .i64 u), AV.v (.int .i64 x)]
@[reducible] def iI (x : Int) : AV := AV.v (Value.int .i64 x)
@[reducible] def iB (x : Bool) : AV := AV.v (Value.bool x)
end Go.Proofs.Ytlnmjjefjhblcaa.Cf
