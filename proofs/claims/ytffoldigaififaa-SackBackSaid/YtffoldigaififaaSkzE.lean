import Derived.Test.YtffoldigaififaaAbsO
import Derived.Test.YtffoldigaififaaSkzD
set_option maxRecDepth 100000
set_option linter.all false
set_option maxHeartbeats 4000000
set_option linter.unusedSimpArgs false
set_option linter.unusedVariables false
namespace Go.Proofs.Ytffoldigaififaa.Sk
open Go.Abs
def L55nS (w : Bool) (k : Int) (raw : ByteArray) (x14 : Int) (y1 : List Int) (x4 : Int) (x15 : Int) : Tm := (tg [(3, AV.v (.int .u64 0)), (0, AV.v (.int .u64 x4)), (8, AV.sw 1 1), (0, AV.v (.int .i64 x14)), (0, AV.v (.int .i64 x15))] 10)
def L55nH (w : Bool) (k : Int) (raw : ByteArray) (x14 : Int) (y1 : List Int) (x4 : Int) (x15 : Int) : List AObj := [AObj.cells 0 w [AV.v (.int .i64 k), AV.v (Value.slice none 0 0), AV.v (Value.string raw)], AObj.ints 0 true IntKind.u8 y1]
def L55nT (w : Bool) (k : Int) (raw : ByteArray) (o0 : Int) : Tm := (tg [(3, AV.v (.int .u64 0)), (0, AV.v (.int .u64 o0))] 21)
def L55nU (w : Bool) (k : Int) (raw : ByteArray) (o0 : Int) : List AObj := [AObj.cells 0 w [AV.v (.int .i64 k), AV.v (Value.slice none 0 0), AV.v (Value.string raw)]]
theorem L55n_1 (w : Bool) (k : Int) (raw : ByteArray) (x14 : Int) (y1 : List Int) (x4 : Int) (x15 : Int)  (d0 : (ilt x15 x14) = true) (s0 : inB x15 (lenI y1)) (s1 : ltN (idxN 0 x15) (lenI y1)) {e : AExit} {tm2 : Tm} {h2 : List AObj} (b : ARun Try.prog 1 (.loop (lp Try.f55 0)) (L55nS w k raw  (x14) (y1) (ior .u64 (ishl .u64 x4 8) (icv .u64 (getI y1 (idxN 0 x15)))) (iadd .i64 x15 1)) (L55nH w k raw  (x14) (y1) (ior .u64 (ishl .u64 x4 8) (icv .u64 (getI y1 (idxN 0 x15)))) (iadd .i64 x15 1)) e tm2 h2) : ARun Try.prog 1 (.loop (lp Try.f55 0)) (L55nS w k raw  x14 y1 x4 x15) (L55nH w k raw  x14 y1 x4 x15) e tm2 h2 :=
  .round [Orc.br true] [3, 4, 13, 14, 15] [0, 1] [isB (ilt x15 x14) true, inB x15 (lenI y1), ltN (idxN 0 x15) (lenI y1), nn 8] (by kernel_rfl) (.cons d0 (.cons (s0) (.cons (s1) (.cons (by first | decide | simp [nz, nn, inB, ltN, leN, eqN, eqZ, inC, zOk, growN, fitN]) .nil)))) b
theorem L55n_2 (w : Bool) (k : Int) (raw : ByteArray) (x14 : Int) (y1 : List Int) (x4 : Int) (x15 : Int)  (d0 : (ilt x15 x14) = false) : ARun Try.prog 1 (.loop (lp Try.f55 0)) (L55nS w k raw  x14 y1 x4 x15) (L55nH w k raw  x14 y1 x4 x15) (AExit.exit 0) (L55nT w k raw  (x4)) (L55nU w k raw  (x4)) :=
  .last [Orc.br false] [3, 4] [0] [isB (ilt x15 x14) false] (by kernel_rfl) (.cons d0 .nil)
def L55nB (w : Bool) (k : Int) (raw : ByteArray) (x14 : Int) (y1 : List Int) (x4 : Int) (x15 : Int) : Option (((Int) × (List Int) × (Int) × (Int)) ⊕ ((Int))) := (bif ilt x15 x14 then bif decide (inB x15 (lenI y1)) then bif decide (ltN (idxN 0 x15) (lenI y1)) then some (.inl (x14, y1, ior .u64 (ishl .u64 x4 8) (icv .u64 (getI y1 (idxN 0 x15))), iadd .i64 x15 1)) else none else none else some (.inr (x4)))
def L55nL (w : Bool) (k : Int) (raw : ByteArray) : Nat → Int → List Int → Int → Int → Option ((Int))
  | 0, _, _, _, _ => none
  | fuel + 1, x14, y1, x4, x15 => match L55nB w k raw  x14 y1 x4 x15 with
    | none => none
    | some (.inl s) => L55nL w k raw fuel s.1 s.2.1 s.2.2.1 s.2.2.2
    | some (.inr o) => some o
def L55nK (w : Bool) (k : Int) (raw : ByteArray) (fuel : Nat) : Option (((Int) × (List Int) × (Int) × (Int)) ⊕ ((Int))) → Option ((Int))
  | none => none
  | some (.inl s) => L55nL w k raw fuel s.1 s.2.1 s.2.2.1 s.2.2.2
  | some (.inr o) => some o
theorem L55nLK (w : Bool) (k : Int) (raw : ByteArray) (fuel : Nat) (x14 : Int) (y1 : List Int) (x4 : Int) (x15 : Int) : L55nL w k raw (fuel + 1)  x14 y1 x4 x15 = L55nK w k raw fuel (L55nB w k raw  x14 y1 x4 x15) := by
  rw [L55nL]; cases L55nB w k raw  x14 y1 x4 x15 with
  | none => rfl
  | some v => cases v <;> rfl
theorem L55nP (w : Bool) (k : Int) (raw : ByteArray) (fuel : Nat) (ih : ∀ (x14 : Int) (y1 : List Int) (x4 : Int) (x15 : Int) (o0 : Int) (_ : L55nL w k raw fuel  x14 y1 x4 x15 = some (o0)), ARun Try.prog 1 (.loop (lp Try.f55 0)) (L55nS w k raw  x14 y1 x4 x15) (L55nH w k raw  x14 y1 x4 x15) (AExit.exit 0) (L55nT w k raw  o0) (L55nU w k raw  o0)) (x14 : Int) (y1 : List Int) (x4 : Int) (x15 : Int) (o0 : Int) (h : L55nK w k raw fuel (L55nB w k raw  x14 y1 x4 x15) = some (o0)) : ARun Try.prog 1 (.loop (lp Try.f55 0)) (L55nS w k raw  x14 y1 x4 x15) (L55nH w k raw  x14 y1 x4 x15) (AExit.exit 0) (L55nT w k raw  o0) (L55nU w k raw  o0) := by
  unfold L55nB at h
  exact (splitK h (fun d0 h => (chkK rfl h (fun s0 h => chkK rfl h (fun s1 h => L55n_1 w k raw  x14 y1 x4 x15 d0 s0 s1 (ih (x14) (y1) (ior .u64 (ishl .u64 x4 8) (icv .u64 (getI y1 (idxN 0 x15)))) (iadd .i64 x15 1) o0 h))))) (fun d0 h => ((by cases h; exact L55n_2 w k raw  x14 y1 x4 x15 d0))))
theorem L55n (w : Bool) (k : Int) (raw : ByteArray) : ∀ (fuel : Nat) (x14 : Int) (y1 : List Int) (x4 : Int) (x15 : Int) (o0 : Int) (_ : L55nL w k raw  fuel  x14 y1 x4 x15 = some (o0)), ARun Try.prog 1 (.loop (lp Try.f55 0)) (L55nS w k raw  x14 y1 x4 x15) (L55nH w k raw  x14 y1 x4 x15) (AExit.exit 0) (L55nT w k raw  o0) (L55nU w k raw  o0)
  | 0, _, _, _, _, _, h => by cases h
  | fuel + 1, x14, y1, x4, x15, o0, h => L55nP w k raw fuel (L55n w k raw fuel)  x14 y1 x4 x15  o0 (by rw [L55nLK] at h; exact h)
theorem f55n_1 (w : Bool) (k : Int) (raw : ByteArray) (n : Int) (L55n_0_fuel : Nat) (L55n_0_o0 : Int)  (L55n_0_h0 : (L55nL w k raw L55n_0_fuel (nlen (lenI (bytesI (ssub raw n (iadd .i64 n 4))))) (bytesI (ssub raw n (iadd .i64 n 4))) 0 0) = (some L55n_0_o0)) (s0 : inC n (iadd .i64 n 4) (slen raw)) : ACalls Try.prog 55 [AV.v (.int .i64 n), AV.ptr 0 0] [AObj.cells 0 w [AV.v (.int .i64 k), AV.v (Value.slice none 0 0), AV.v (Value.string raw)]] (AV.v (.int .u64 L55n_0_o0)) [] [] :=
  ACalls.nb (res := AV.v (.int .u64 L55n_0_o0)) (.of_out [Orc.loop [3, 4, 13, 14, 15] [0, 1] (AExit.exit 0) (tg [(3, AV.v (.int .u64 0)), (0, AV.v (.int .u64 L55n_0_o0))] 21) [AObj.cells 0 w [AV.v (.int .i64 k), AV.v (Value.slice none 0 0), AV.v (Value.string raw)]]] [0] [inC n (iadd .i64 n 4) (slen raw), _] Try.func55 (by kernel_rfl) (by kernel_rfl) (.cons (s0) (.cons (L55n _ _ _ _ _ _ _ _ _ (L55n_0_h0)) .nil)))
theorem f55n (w : Bool) (k : Int) (raw : ByteArray) (n : Int) (L55n_0_fuel : Nat) (L55n_0_o0 : Int) (L55n_0_h0 : (L55nL w k raw L55n_0_fuel (nlen (lenI (bytesI (ssub raw n (iadd .i64 n 4))))) (bytesI (ssub raw n (iadd .i64 n 4))) 0 0) = (some L55n_0_o0)) (s0 : inC n (iadd .i64 n 4) (slen raw)) : ACalls Try.prog 55 [AV.v (.int .i64 n), AV.ptr 0 0] [AObj.cells 0 w [AV.v (.int .i64 k), AV.v (Value.slice none 0 0), AV.v (Value.string raw)]] (AV.v (.int .u64 L55n_0_o0)) [] [] := (f55n_1 w k raw n L55n_0_fuel L55n_0_o0 L55n_0_h0 s0)
theorem l55n (w : Bool) (k : Int) (raw t : ByteArray) (h : is4 t = true) : L55nL w k raw 5 (nlen (lenI (bytesI t))) (bytesI t) 0 0 = some (numV t) := by
  have hl := bytesI_len4 h
  have h4 : t.size = 4 := of_decide_eq_true h
  have st : ∀ (fuel i : Nat) (x : Int), i < 4 → 0 ≤ x ∧ x < 16777216 → L55nL w k raw (fuel + 1) (nlen (lenI (bytesI t))) (bytesI t) x (i : Int) = L55nL w k raw fuel (nlen (lenI (bytesI t))) (bytesI t) (x * 256 + sget t (i : Int)) ((i + 1 : Nat) : Int) := fun fuel i x hi hx => by
    have e0 : ilt (i : Int) (nlen (lenI (bytesI t))) = true := by rw [ilt_d]; exact decide_eq_true (by unfold nlen lenI; rw [hl]; omega)
    rw [L55nLK]; unfold L55nB
    rw [e0, getI_bytes (by omega), or_shl hx (sget_bd _ _), ad1 (by omega), decide_eq_true (show inB (i : Int) (lenI (bytesI t)) from ⟨by omega, by unfold lenI; rw [hl]; omega⟩), decide_eq_true (show ltN (idxN 0 (i : Int)) (lenI (bytesI t)) from by unfold ltN idxN lenI; rw [hl]; omega)]
    rfl
  have b0 := sget_bd t 0; have b1 := sget_bd t 1; have b2 := sget_bd t 2; have b3 := sget_bd t 3
  have s0 := st 4 0 0 (by decide) (by omega)
  have s1 := st 3 1 (0 * 256 + sget t ((0 : Nat) : Int)) (by decide) (by simp only [Int.natCast_zero]; omega)
  have s2 := st 2 2 ((0 * 256 + sget t ((0 : Nat) : Int)) * 256 + sget t ((1 : Nat) : Int)) (by decide) (by simp only [Int.natCast_zero, Int.natCast_one]; omega)
  have s3 := st 1 3 (((0 * 256 + sget t ((0 : Nat) : Int)) * 256 + sget t ((1 : Nat) : Int)) * 256 + sget t ((2 : Nat) : Int)) (by decide) (by show 0 ≤ ((0 * 256 + sget t 0) * 256 + sget t 1) * 256 + sget t 2 ∧ ((0 * 256 + sget t 0) * 256 + sget t 1) * 256 + sget t 2 < 16777216; omega)
  have e5 : ilt (((3 + 1 : Nat)) : Int) (nlen (lenI (bytesI t))) = false := by rw [ilt_d]; exact decide_eq_false (by unfold nlen lenI; rw [hl]; omega)
  show L55nL w k raw (4 + 1) (nlen (lenI (bytesI t))) (bytesI t) 0 ((0 : Nat) : Int) = _
  rw [s0, s1, s2, s3, L55nLK]; unfold L55nB
  rw [e5]
  show some _ = some _
  congr 1
  show (((0 * 256 + sget t 0) * 256 + sget t 1) * 256 + sget t 2) * 256 + sget t 3 = _
  unfold numV; omega
theorem g55n (w : Bool) (k : Int) (raw : ByteArray) (n : Int) (h : inS raw n = true) : ACalls Try.prog 55 [AV.v (.int .i64 n), AV.ptr 0 0] [AObj.cells 0 w [AV.v (.int .i64 k), AV.v (.slice none 0 0), AV.v (Value.string raw)]] (AV.v (.int .u64 (numV (ssub raw n (iadd .i64 n 4))))) [] [] :=
  f55n w k raw n 5 _ (l55n w k raw _ (inS_is4 h).2) (inS_is4 h).1
def L37nS (k : Int) (raw : ByteArray) (a : Int) (x8 : Int) (y1 : List (El sR)) : Tm := (tg [(1, AV.v (.int .i64 a)), (0, AV.ptr 0 0), (1, AV.v (Value.slice none 0 0)), (0, AV.v (.int .i64 0)), (0, AV.fn (Fn.func 55) [AV.ptr 0 0]), (0, AV.sw 1 2), (0, AV.v (.int .i64 x8))] 60)
def L37nH (k : Int) (raw : ByteArray) (a : Int) (x8 : Int) (y1 : List (El sR)) : List AObj := [AObj.cells 0 true [AV.v (.int .i64 k), AV.v (Value.slice none 0 0), AV.v (Value.string raw)], AObj.rows true sR y1]
def L37nT0 (k : Int) (raw : ByteArray) (a : Int) (o0 : List (El sR)) : Tm := (tg [(4, AV.v (Value.slice none 0 0)), (0, AV.v (.int .i64 2)), (1, AV.sw 0 2)] 61)
def L37nU0 (k : Int) (raw : ByteArray) (a : Int) (o0 : List (El sR)) : List AObj := [AObj.rows true sR o0]
def L37nT1 (k : Int) (raw : ByteArray) (a : Int) (o1 : List (El sR)) : Tm := (tg [(4, AV.v (Value.slice none 0 0)), (0, AV.v (.int .i64 0)), (1, AV.sw 0 2)] 61)
def L37nU1 (k : Int) (raw : ByteArray) (a : Int) (o1 : List (El sR)) : List AObj := [AObj.rows true sR o1]
theorem L37n_1 (k : Int) (raw : ByteArray) (a : Int) (x8 : Int) (y1 : List (El sR))  (d0 : (ilt x8 (slen raw)) = true) (d1 : (ilt (unwV a (numV (ssub raw x8 (iadd .i64 x8 4)))) 0) = true) (s0 : (inS raw x8) = true) (s1 : (inS raw (iadd .i64 x8 4)) = true) : ARun Try.prog 0 (.loop (lp Try.f37 0)) (L37nS k raw a  x8 y1) (L37nH k raw a  x8 y1) (AExit.ret) (L37nT0 k raw a  (y1)) (L37nU0 k raw a  (y1)) :=
  .lastRet [Orc.br true, Orc.call [0] (AV.v (.int .u64 (numV (ssub raw x8 (iadd .i64 x8 4))))) [] [], Orc.call [] (AV.v (.int .i64 (unwV a (numV (ssub raw x8 (iadd .i64 x8 4)))))) [] [], Orc.call [0] (AV.v (.int .u64 (numV (ssub raw (iadd .i64 x8 4) (iadd .i64 (iadd .i64 x8 4) 4))))) [] [], Orc.call [] (AV.v (.int .i64 (unwV (unwV a (numV (ssub raw x8 (iadd .i64 x8 4)))) (numV (ssub raw (iadd .i64 x8 4) (iadd .i64 (iadd .i64 x8 4) 4)))))) [] [], Orc.br true, Orc.br true] [4, 5, 7] [1] [isB (ilt x8 (slen raw)) true, ACalls Try.prog 55 [AV.v (.int .i64 x8), AV.ptr 0 0] [AObj.cells 0 true [AV.v (.int .i64 k), AV.v (Value.slice none 0 0), AV.v (Value.string raw)]] (AV.v (.int .u64 (numV (ssub raw x8 (iadd .i64 x8 4))))) [] [], ACalls Try.prog 56 [AV.v (.int .i64 a), AV.v (.int .u64 (numV (ssub raw x8 (iadd .i64 x8 4)))), AV.v (.int .i64 32)] [] (AV.v (.int .i64 (unwV a (numV (ssub raw x8 (iadd .i64 x8 4)))))) [] [], Mixed Try.prog, ACalls Try.prog 55 [AV.v (.int .i64 (iadd .i64 x8 4)), AV.ptr 0 0] [AObj.cells 0 true [AV.v (.int .i64 k), AV.v (Value.slice none 0 0), AV.v (Value.string raw)]] (AV.v (.int .u64 (numV (ssub raw (iadd .i64 x8 4) (iadd .i64 (iadd .i64 x8 4) 4))))) [] [], ACalls Try.prog 56 [AV.v (.int .i64 (unwV a (numV (ssub raw x8 (iadd .i64 x8 4))))), AV.v (.int .u64 (numV (ssub raw (iadd .i64 x8 4) (iadd .i64 (iadd .i64 x8 4) 4)))), AV.v (.int .i64 32)] [] (AV.v (.int .i64 (unwV (unwV a (numV (ssub raw x8 (iadd .i64 x8 4)))) (numV (ssub raw (iadd .i64 x8 4) (iadd .i64 (iadd .i64 x8 4) 4)))))) [] [], isB (ilt (unwV a (numV (ssub raw x8 (iadd .i64 x8 4)))) 0) true, isB true true] (by kernel_rfl) (.cons d0 (.cons (by apply g55n <;> (first | exact (s0))) (.cons (by apply g56) (.cons (by show _ = _; kernel_rfl) (.cons (by apply g55n <;> (first | exact (s1))) (.cons (by apply g56) (.cons d1 (.cons (by show _ = _; kernel_rfl) .nil))))))))
theorem L37n_2 (k : Int) (raw : ByteArray) (a : Int) (x8 : Int) (y1 : List (El sR))  (d0 : (ilt x8 (slen raw)) = true) (d1 : (ilt (unwV a (numV (ssub raw x8 (iadd .i64 x8 4)))) 0) = false) (d2 : (ile (unwV (unwV a (numV (ssub raw x8 (iadd .i64 x8 4)))) (numV (ssub raw (iadd .i64 x8 4) (iadd .i64 (iadd .i64 x8 4) 4)))) (unwV a (numV (ssub raw x8 (iadd .i64 x8 4))))) = true) (s0 : (inS raw x8) = true) (s1 : (inS raw (iadd .i64 x8 4)) = true) : ARun Try.prog 0 (.loop (lp Try.f37 0)) (L37nS k raw a  x8 y1) (L37nH k raw a  x8 y1) (AExit.ret) (L37nT0 k raw a  (y1)) (L37nU0 k raw a  (y1)) :=
  .lastRet [Orc.br true, Orc.call [0] (AV.v (.int .u64 (numV (ssub raw x8 (iadd .i64 x8 4))))) [] [], Orc.call [] (AV.v (.int .i64 (unwV a (numV (ssub raw x8 (iadd .i64 x8 4)))))) [] [], Orc.call [0] (AV.v (.int .u64 (numV (ssub raw (iadd .i64 x8 4) (iadd .i64 (iadd .i64 x8 4) 4))))) [] [], Orc.call [] (AV.v (.int .i64 (unwV (unwV a (numV (ssub raw x8 (iadd .i64 x8 4)))) (numV (ssub raw (iadd .i64 x8 4) (iadd .i64 (iadd .i64 x8 4) 4)))))) [] [], Orc.br false, Orc.br true] [4, 5, 7] [1] [isB (ilt x8 (slen raw)) true, ACalls Try.prog 55 [AV.v (.int .i64 x8), AV.ptr 0 0] [AObj.cells 0 true [AV.v (.int .i64 k), AV.v (Value.slice none 0 0), AV.v (Value.string raw)]] (AV.v (.int .u64 (numV (ssub raw x8 (iadd .i64 x8 4))))) [] [], ACalls Try.prog 56 [AV.v (.int .i64 a), AV.v (.int .u64 (numV (ssub raw x8 (iadd .i64 x8 4)))), AV.v (.int .i64 32)] [] (AV.v (.int .i64 (unwV a (numV (ssub raw x8 (iadd .i64 x8 4)))))) [] [], Mixed Try.prog, ACalls Try.prog 55 [AV.v (.int .i64 (iadd .i64 x8 4)), AV.ptr 0 0] [AObj.cells 0 true [AV.v (.int .i64 k), AV.v (Value.slice none 0 0), AV.v (Value.string raw)]] (AV.v (.int .u64 (numV (ssub raw (iadd .i64 x8 4) (iadd .i64 (iadd .i64 x8 4) 4))))) [] [], ACalls Try.prog 56 [AV.v (.int .i64 (unwV a (numV (ssub raw x8 (iadd .i64 x8 4))))), AV.v (.int .u64 (numV (ssub raw (iadd .i64 x8 4) (iadd .i64 (iadd .i64 x8 4) 4)))), AV.v (.int .i64 32)] [] (AV.v (.int .i64 (unwV (unwV a (numV (ssub raw x8 (iadd .i64 x8 4)))) (numV (ssub raw (iadd .i64 x8 4) (iadd .i64 (iadd .i64 x8 4) 4)))))) [] [], isB (ilt (unwV a (numV (ssub raw x8 (iadd .i64 x8 4)))) 0) false, isB (ile (unwV (unwV a (numV (ssub raw x8 (iadd .i64 x8 4)))) (numV (ssub raw (iadd .i64 x8 4) (iadd .i64 (iadd .i64 x8 4) 4)))) (unwV a (numV (ssub raw x8 (iadd .i64 x8 4))))) true] (by kernel_rfl) (.cons d0 (.cons (by apply g55n <;> (first | exact (s0))) (.cons (by apply g56) (.cons (by show _ = _; kernel_rfl) (.cons (by apply g55n <;> (first | exact (s1))) (.cons (by apply g56) (.cons d1 (.cons d2 .nil))))))))
theorem L37n_3 (k : Int) (raw : ByteArray) (a : Int) (x8 : Int) (y1 : List (El sR))  (d0 : (ilt x8 (slen raw)) = true) (d1 : (ilt (unwV a (numV (ssub raw x8 (iadd .i64 x8 4)))) 0) = false) (d2 : (ile (unwV (unwV a (numV (ssub raw x8 (iadd .i64 x8 4)))) (numV (ssub raw (iadd .i64 x8 4) (iadd .i64 (iadd .i64 x8 4) 4)))) (unwV a (numV (ssub raw x8 (iadd .i64 x8 4))))) = false) (s0 : (inS raw x8) = true) (s1 : (inS raw (iadd .i64 x8 4)) = true) (s2 : fitN (addN (lenR sR y1) (lenR sR [(unwV a (numV (ssub raw x8 (iadd .i64 x8 4))), unwV (unwV a (numV (ssub raw x8 (iadd .i64 x8 4)))) (numV (ssub raw (iadd .i64 x8 4) (iadd .i64 (iadd .i64 x8 4) 4))))])) 16) {e : AExit} {tm2 : Tm} {h2 : List AObj} (b : ARun Try.prog 0 (.loop (lp Try.f37 0)) (L37nS k raw a  (iadd .i64 x8 8) (appR sR y1 [(unwV a (numV (ssub raw x8 (iadd .i64 x8 4))), unwV (unwV a (numV (ssub raw x8 (iadd .i64 x8 4)))) (numV (ssub raw (iadd .i64 x8 4) (iadd .i64 (iadd .i64 x8 4) 4))))])) (L37nH k raw a  (iadd .i64 x8 8) (appR sR y1 [(unwV a (numV (ssub raw x8 (iadd .i64 x8 4))), unwV (unwV a (numV (ssub raw x8 (iadd .i64 x8 4)))) (numV (ssub raw (iadd .i64 x8 4) (iadd .i64 (iadd .i64 x8 4) 4))))])) e tm2 h2) : ARun Try.prog 0 (.loop (lp Try.f37 0)) (L37nS k raw a  x8 y1) (L37nH k raw a  x8 y1) e tm2 h2 :=
  .round [Orc.br true, Orc.call [0] (AV.v (.int .u64 (numV (ssub raw x8 (iadd .i64 x8 4))))) [] [], Orc.call [] (AV.v (.int .i64 (unwV a (numV (ssub raw x8 (iadd .i64 x8 4)))))) [] [], Orc.call [0] (AV.v (.int .u64 (numV (ssub raw (iadd .i64 x8 4) (iadd .i64 (iadd .i64 x8 4) 4))))) [] [], Orc.call [] (AV.v (.int .i64 (unwV (unwV a (numV (ssub raw x8 (iadd .i64 x8 4)))) (numV (ssub raw (iadd .i64 x8 4) (iadd .i64 (iadd .i64 x8 4) 4)))))) [] [], Orc.br false, Orc.br false] [1, 2, 4, 5, 6, 7, 8] [0, 4] [isB (ilt x8 (slen raw)) true, ACalls Try.prog 55 [AV.v (.int .i64 x8), AV.ptr 0 0] [AObj.cells 0 true [AV.v (.int .i64 k), AV.v (Value.slice none 0 0), AV.v (Value.string raw)]] (AV.v (.int .u64 (numV (ssub raw x8 (iadd .i64 x8 4))))) [] [], ACalls Try.prog 56 [AV.v (.int .i64 a), AV.v (.int .u64 (numV (ssub raw x8 (iadd .i64 x8 4)))), AV.v (.int .i64 32)] [] (AV.v (.int .i64 (unwV a (numV (ssub raw x8 (iadd .i64 x8 4)))))) [] [], Mixed Try.prog, ACalls Try.prog 55 [AV.v (.int .i64 (iadd .i64 x8 4)), AV.ptr 0 0] [AObj.cells 0 true [AV.v (.int .i64 k), AV.v (Value.slice none 0 0), AV.v (Value.string raw)]] (AV.v (.int .u64 (numV (ssub raw (iadd .i64 x8 4) (iadd .i64 (iadd .i64 x8 4) 4))))) [] [], ACalls Try.prog 56 [AV.v (.int .i64 (unwV a (numV (ssub raw x8 (iadd .i64 x8 4))))), AV.v (.int .u64 (numV (ssub raw (iadd .i64 x8 4) (iadd .i64 (iadd .i64 x8 4) 4)))), AV.v (.int .i64 32)] [] (AV.v (.int .i64 (unwV (unwV a (numV (ssub raw x8 (iadd .i64 x8 4)))) (numV (ssub raw (iadd .i64 x8 4) (iadd .i64 (iadd .i64 x8 4) 4)))))) [] [], isB (ilt (unwV a (numV (ssub raw x8 (iadd .i64 x8 4)))) 0) false, isB (ile (unwV (unwV a (numV (ssub raw x8 (iadd .i64 x8 4)))) (numV (ssub raw (iadd .i64 x8 4) (iadd .i64 (iadd .i64 x8 4) 4)))) (unwV a (numV (ssub raw x8 (iadd .i64 x8 4))))) false, fitN (addN (lenR sR y1) (lenR sR [(unwV a (numV (ssub raw x8 (iadd .i64 x8 4))), unwV (unwV a (numV (ssub raw x8 (iadd .i64 x8 4)))) (numV (ssub raw (iadd .i64 x8 4) (iadd .i64 (iadd .i64 x8 4) 4))))])) 16] (by kernel_rfl) (.cons d0 (.cons (by apply g55n <;> (first | exact (s0))) (.cons (by apply g56) (.cons (by show _ = _; kernel_rfl) (.cons (by apply g55n <;> (first | exact (s1))) (.cons (by apply g56) (.cons d1 (.cons d2 (.cons (s2) .nil))))))))) b
theorem L37n_4 (k : Int) (raw : ByteArray) (a : Int) (x8 : Int) (y1 : List (El sR))  (d0 : (ilt x8 (slen raw)) = false) : ARun Try.prog 0 (.loop (lp Try.f37 0)) (L37nS k raw a  x8 y1) (L37nH k raw a  x8 y1) (AExit.exit 1) (L37nT1 k raw a  (y1)) (L37nU1 k raw a  (y1)) :=
  .last [Orc.br false] [4, 5, 7] [1] [isB (ilt x8 (slen raw)) false] (by kernel_rfl) (.cons d0 .nil)
def L37nB (k : Int) (raw : ByteArray) (a : Int) (x8 : Int) (y1 : List (El sR)) : Option (((Int) × (List (El sR))) ⊕ (Nat × (List (El sR)) × (List (El sR)))) := (bif ilt x8 (slen raw) then (bif ilt (unwV a (numV (ssub raw x8 (iadd .i64 x8 4)))) 0 then bif decide ((inS raw x8) = true) then bif decide ((inS raw (iadd .i64 x8 4)) = true) then some (.inr (0, y1, [])) else none else none else (bif ile (unwV (unwV a (numV (ssub raw x8 (iadd .i64 x8 4)))) (numV (ssub raw (iadd .i64 x8 4) (iadd .i64 (iadd .i64 x8 4) 4)))) (unwV a (numV (ssub raw x8 (iadd .i64 x8 4)))) then bif decide ((inS raw x8) = true) then bif decide ((inS raw (iadd .i64 x8 4)) = true) then some (.inr (0, y1, [])) else none else none else bif decide ((inS raw x8) = true) then bif decide ((inS raw (iadd .i64 x8 4)) = true) then bif decide (fitN (addN (lenR sR y1) (lenR sR [(unwV a (numV (ssub raw x8 (iadd .i64 x8 4))), unwV (unwV a (numV (ssub raw x8 (iadd .i64 x8 4)))) (numV (ssub raw (iadd .i64 x8 4) (iadd .i64 (iadd .i64 x8 4) 4))))])) 16) then some (.inl (iadd .i64 x8 8, appR sR y1 [(unwV a (numV (ssub raw x8 (iadd .i64 x8 4))), unwV (unwV a (numV (ssub raw x8 (iadd .i64 x8 4)))) (numV (ssub raw (iadd .i64 x8 4) (iadd .i64 (iadd .i64 x8 4) 4))))])) else none else none else none)) else some (.inr (1, [], y1)))
def L37nL (k : Int) (raw : ByteArray) (a : Int) : Nat → Int → List (El sR) → Option (Nat × (List (El sR)) × (List (El sR)))
  | 0, _, _ => none
  | fuel + 1, x8, y1 => match L37nB k raw a  x8 y1 with
    | none => none
    | some (.inl s) => L37nL k raw a fuel s.1 s.2
    | some (.inr o) => some o
def L37nK (k : Int) (raw : ByteArray) (a : Int) (fuel : Nat) : Option (((Int) × (List (El sR))) ⊕ (Nat × (List (El sR)) × (List (El sR)))) → Option (Nat × (List (El sR)) × (List (El sR)))
  | none => none
  | some (.inl s) => L37nL k raw a fuel s.1 s.2
  | some (.inr o) => some o
theorem L37nLK (k : Int) (raw : ByteArray) (a : Int) (fuel : Nat) (x8 : Int) (y1 : List (El sR)) : L37nL k raw a (fuel + 1)  x8 y1 = L37nK k raw a fuel (L37nB k raw a  x8 y1) := by
  rw [L37nL]; cases L37nB k raw a  x8 y1 with
  | none => rfl
  | some v => cases v <;> rfl
theorem L37nP0 (k : Int) (raw : ByteArray) (a : Int) (fuel : Nat) (ih : ∀ (x8 : Int) (y1 : List (El sR)) (o0 : List (El sR)) (_ : L37nL k raw a fuel  x8 y1 = some (0, o0, [])), ARun Try.prog 0 (.loop (lp Try.f37 0)) (L37nS k raw a  x8 y1) (L37nH k raw a  x8 y1) (AExit.ret) (L37nT0 k raw a  o0) (L37nU0 k raw a  o0)) (x8 : Int) (y1 : List (El sR)) (o0 : List (El sR)) (h : L37nK k raw a fuel (L37nB k raw a  x8 y1) = some (0, o0, [])) : ARun Try.prog 0 (.loop (lp Try.f37 0)) (L37nS k raw a  x8 y1) (L37nH k raw a  x8 y1) (AExit.ret) (L37nT0 k raw a  o0) (L37nU0 k raw a  o0) := by
  unfold L37nB at h
  exact (splitK h (fun d0 h => (splitK h (fun d1 h => (chkK rfl h (fun s0 h => chkK rfl h (fun s1 h => (by cases h; exact L37n_1 k raw a  x8 y1 d0 d1 s0 s1))))) (fun d1 h => (splitK h (fun d2 h => (chkK rfl h (fun s0 h => chkK rfl h (fun s1 h => (by cases h; exact L37n_2 k raw a  x8 y1 d0 d1 d2 s0 s1))))) (fun d2 h => (chkK rfl h (fun s0 h => chkK rfl h (fun s1 h => chkK rfl h (fun s2 h => L37n_3 k raw a  x8 y1 d0 d1 d2 s0 s1 s2 (ih (iadd .i64 x8 8) (appR sR y1 [(unwV a (numV (ssub raw x8 (iadd .i64 x8 4))), unwV (unwV a (numV (ssub raw x8 (iadd .i64 x8 4)))) (numV (ssub raw (iadd .i64 x8 4) (iadd .i64 (iadd .i64 x8 4) 4))))]) o0 h)))))))))) (fun d0 h => ((by cases h))))
theorem L37n0 (k : Int) (raw : ByteArray) (a : Int) : ∀ (fuel : Nat) (x8 : Int) (y1 : List (El sR)) (o0 : List (El sR)) (_ : L37nL k raw a  fuel  x8 y1 = some (0, o0, [])), ARun Try.prog 0 (.loop (lp Try.f37 0)) (L37nS k raw a  x8 y1) (L37nH k raw a  x8 y1) (AExit.ret) (L37nT0 k raw a  o0) (L37nU0 k raw a  o0)
  | 0, _, _, _, h => by cases h
  | fuel + 1, x8, y1, o0, h => L37nP0 k raw a fuel (L37n0 k raw a fuel)  x8 y1  o0 (by rw [L37nLK] at h; exact h)
theorem L37nP1 (k : Int) (raw : ByteArray) (a : Int) (fuel : Nat) (ih : ∀ (x8 : Int) (y1 : List (El sR)) (o1 : List (El sR)) (_ : L37nL k raw a fuel  x8 y1 = some (1, [], o1)), ARun Try.prog 0 (.loop (lp Try.f37 0)) (L37nS k raw a  x8 y1) (L37nH k raw a  x8 y1) (AExit.exit 1) (L37nT1 k raw a  o1) (L37nU1 k raw a  o1)) (x8 : Int) (y1 : List (El sR)) (o1 : List (El sR)) (h : L37nK k raw a fuel (L37nB k raw a  x8 y1) = some (1, [], o1)) : ARun Try.prog 0 (.loop (lp Try.f37 0)) (L37nS k raw a  x8 y1) (L37nH k raw a  x8 y1) (AExit.exit 1) (L37nT1 k raw a  o1) (L37nU1 k raw a  o1) := by
  unfold L37nB at h
  exact (splitK h (fun d0 h => (splitK h (fun d1 h => (chkK rfl h (fun s0 h => chkK rfl h (fun s1 h => (by cases h))))) (fun d1 h => (splitK h (fun d2 h => (chkK rfl h (fun s0 h => chkK rfl h (fun s1 h => (by cases h))))) (fun d2 h => (chkK rfl h (fun s0 h => chkK rfl h (fun s1 h => chkK rfl h (fun s2 h => L37n_3 k raw a  x8 y1 d0 d1 d2 s0 s1 s2 (ih (iadd .i64 x8 8) (appR sR y1 [(unwV a (numV (ssub raw x8 (iadd .i64 x8 4))), unwV (unwV a (numV (ssub raw x8 (iadd .i64 x8 4)))) (numV (ssub raw (iadd .i64 x8 4) (iadd .i64 (iadd .i64 x8 4) 4))))]) o1 h)))))))))) (fun d0 h => ((by cases h; exact L37n_4 k raw a  x8 y1 d0))))
theorem L37n1 (k : Int) (raw : ByteArray) (a : Int) : ∀ (fuel : Nat) (x8 : Int) (y1 : List (El sR)) (o1 : List (El sR)) (_ : L37nL k raw a  fuel  x8 y1 = some (1, [], o1)), ARun Try.prog 0 (.loop (lp Try.f37 0)) (L37nS k raw a  x8 y1) (L37nH k raw a  x8 y1) (AExit.exit 1) (L37nT1 k raw a  o1) (L37nU1 k raw a  o1)
  | 0, _, _, _, h => by cases h
  | fuel + 1, x8, y1, o1, h => L37nP1 k raw a fuel (L37n1 k raw a fuel)  x8 y1  o1 (by rw [L37nLK] at h; exact h)
def f37nr0 (k : Int) (raw : ByteArray) (a : Int) (L37n0_0_c : Nat) (L37n0_0_fuel : Nat) (L37n0_0_o0 : List (El sR)) (L37n0_0_fuel1 : Nat) (L37n0_0_o11 : List (El sR)) : Int := bif (ine k 5) then 7 else (bif (ieq (slen raw) 0) then 5 else (bif (ilt 32 (slen raw)) then 5 else (bif (ine (irem (slen raw) 8) 0) then 5 else (bif (Nat.beq L37n0_0_c 0) then 2 else 0))))
def f37nr1 (k : Int) (raw : ByteArray) (a : Int) (L37n0_0_c : Nat) (L37n0_0_fuel : Nat) (L37n0_0_o0 : List (El sR)) (L37n0_0_fuel1 : Nat) (L37n0_0_o11 : List (El sR)) : List (El sR) := bif (ine k 5) then [] else (bif (ieq (slen raw) 0) then [] else (bif (ilt 32 (slen raw)) then [] else (bif (ine (irem (slen raw) 8) 0) then [] else (bif (Nat.beq L37n0_0_c 0) then [] else L37n0_0_o11))))
theorem f37n_1 (k : Int) (raw : ByteArray) (a : Int)  (d0 : (ine k 5) = true) : ACalls Try.prog 37 [AV.agg [AV.v (.int .i64 k), AV.v (Value.slice none 0 0), AV.v (Value.string raw)], AV.v (.int .i64 a)] [] (AV.tup [AV.sw 0 2, AV.v (.int .i64 7)]) [] [AObj.rows true sR []] :=
  ACalls.nb (res := AV.tup [AV.sw 0 2, AV.v (.int .i64 7)]) (.of_out [Orc.br true, Orc.fin (Gh.nil 4 2 (AObj.rows true sR []))] [1] [isB (ine k 5) true] Try.func37 (by kernel_rfl) (by kernel_rfl) (.cons d0 .nil))
theorem f37n_2 (k : Int) (raw : ByteArray) (a : Int)  (d0 : (ine k 5) = false) (d1 : (ieq (slen raw) 0) = true) : ACalls Try.prog 37 [AV.agg [AV.v (.int .i64 k), AV.v (Value.slice none 0 0), AV.v (Value.string raw)], AV.v (.int .i64 a)] [] (AV.tup [AV.sw 0 2, AV.v (.int .i64 5)]) [] [AObj.rows true sR []] :=
  ACalls.nb (res := AV.tup [AV.sw 0 2, AV.v (.int .i64 5)]) (.of_out [Orc.br false, Orc.br true, Orc.br true, Orc.br true, Orc.fin (Gh.nil 4 2 (AObj.rows true sR []))] [1] [isB (ine k 5) false, isB (ieq (slen raw) 0) true, isB true true, isB true true] Try.func37 (by kernel_rfl) (by kernel_rfl) (.cons d0 (.cons d1 (.cons (by show _ = _; kernel_rfl) (.cons (by show _ = _; kernel_rfl) .nil)))))
theorem f37n_3 (k : Int) (raw : ByteArray) (a : Int)  (d0 : (ine k 5) = false) (d1 : (ieq (slen raw) 0) = false) (d2 : (ilt 32 (slen raw)) = true) : ACalls Try.prog 37 [AV.agg [AV.v (.int .i64 k), AV.v (Value.slice none 0 0), AV.v (Value.string raw)], AV.v (.int .i64 a)] [] (AV.tup [AV.sw 0 2, AV.v (.int .i64 5)]) [] [AObj.rows true sR []] :=
  ACalls.nb (res := AV.tup [AV.sw 0 2, AV.v (.int .i64 5)]) (.of_out [Orc.br false, Orc.br false, Orc.br true, Orc.br true, Orc.fin (Gh.nil 4 2 (AObj.rows true sR []))] [1] [isB (ine k 5) false, isB (ieq (slen raw) 0) false, isB (ilt 32 (slen raw)) true, isB true true] Try.func37 (by kernel_rfl) (by kernel_rfl) (.cons d0 (.cons d1 (.cons d2 (.cons (by show _ = _; kernel_rfl) .nil)))))
theorem f37n_4 (k : Int) (raw : ByteArray) (a : Int)  (d0 : (ine k 5) = false) (d1 : (ieq (slen raw) 0) = false) (d2 : (ilt 32 (slen raw)) = false) (d3 : (ine (irem (slen raw) 8) 0) = true) : ACalls Try.prog 37 [AV.agg [AV.v (.int .i64 k), AV.v (Value.slice none 0 0), AV.v (Value.string raw)], AV.v (.int .i64 a)] [] (AV.tup [AV.sw 0 2, AV.v (.int .i64 5)]) [] [AObj.rows true sR []] :=
  ACalls.nb (res := AV.tup [AV.sw 0 2, AV.v (.int .i64 5)]) (.of_out [Orc.br false, Orc.br false, Orc.br false, Orc.br true, Orc.fin (Gh.nil 4 2 (AObj.rows true sR []))] [1] [isB (ine k 5) false, isB (ieq (slen raw) 0) false, isB (ilt 32 (slen raw)) false, nz 8, isB (ine (irem (slen raw) 8) 0) true] Try.func37 (by kernel_rfl) (by kernel_rfl) (.cons d0 (.cons d1 (.cons d2 (.cons (by first | decide | simp [nz, nn, inB, ltN, leN, eqN, eqZ, inC, zOk, growN, fitN]) (.cons d3 .nil))))))
theorem f37n_5 (k : Int) (raw : ByteArray) (a : Int) (L37n0_0_c : Nat) (L37n0_0_fuel : Nat) (L37n0_0_o0 : List (El sR))  (d0 : (ine k 5) = false) (d1 : (ieq (slen raw) 0) = false) (d2 : (ilt 32 (slen raw)) = false) (d3 : (ine (irem (slen raw) 8) 0) = false) (d4 : (Nat.beq L37n0_0_c 0) = true) (L37n0_0_h0 : ((ine k 5) = false) → ((ieq (slen raw) 0) = false) → ((ilt 32 (slen raw)) = false) → ((ine (irem (slen raw) 8) 0) = false) → ((Nat.beq L37n0_0_c 0) = true) → (L37nL k raw a L37n0_0_fuel 0 []) = (some (0, L37n0_0_o0, []))) : ACalls Try.prog 37 [AV.agg [AV.v (.int .i64 k), AV.v (Value.slice none 0 0), AV.v (Value.string raw)], AV.v (.int .i64 a)] [] (AV.tup [AV.sw 0 2, AV.v (.int .i64 2)]) [] [AObj.rows true sR []] :=
  ACalls.nb (res := AV.tup [AV.sw 0 2, AV.v (.int .i64 2)]) (.of_out [Orc.br false, Orc.br false, Orc.br false, Orc.br false, Orc.fin (Gh.nil 7 2 (AObj.rows true sR [])), Orc.loop [1, 2, 4, 5, 6, 7, 8] [0, 1] AExit.ret (tg [(4, AV.v (Value.slice none 0 0)), (0, AV.v (.int .i64 2)), (1, AV.sw 0 2)] 61) [AObj.rows true sR L37n0_0_o0], Orc.fin (Gh.nil 4 2 (AObj.rows true sR []))] [1] [isB (ine k 5) false, isB (ieq (slen raw) 0) false, isB (ilt 32 (slen raw)) false, nz 8, isB (ine (irem (slen raw) 8) 0) false, _] Try.func37 (by kernel_rfl) (by kernel_rfl) (.cons d0 (.cons d1 (.cons d2 (.cons (by first | decide | simp [nz, nn, inB, ltN, leN, eqN, eqZ, inC, zOk, growN, fitN]) (.cons d3 (.cons (L37n0 _ _ _ _ _ _ _ (L37n0_0_h0 d0 d1 d2 d3 d4)) .nil)))))))
theorem f37n_6 (k : Int) (raw : ByteArray) (a : Int) (L37n0_0_c : Nat) (L37n0_0_fuel1 : Nat) (L37n0_0_o11 : List (El sR))  (d0 : (ine k 5) = false) (d1 : (ieq (slen raw) 0) = false) (d2 : (ilt 32 (slen raw)) = false) (d3 : (ine (irem (slen raw) 8) 0) = false) (d4 : (Nat.beq L37n0_0_c 0) = false) (L37n0_0_h1 : ((ine k 5) = false) → ((ieq (slen raw) 0) = false) → ((ilt 32 (slen raw)) = false) → ((ine (irem (slen raw) 8) 0) = false) → ((Nat.beq L37n0_0_c 0) = false) → (L37nL k raw a L37n0_0_fuel1 0 []) = (some (1, [], L37n0_0_o11))) : ACalls Try.prog 37 [AV.agg [AV.v (.int .i64 k), AV.v (Value.slice none 0 0), AV.v (Value.string raw)], AV.v (.int .i64 a)] [] (AV.tup [AV.sw 0 2, AV.v (.int .i64 0)]) [] [AObj.rows true sR L37n0_0_o11] :=
  ACalls.nb (res := AV.tup [AV.sw 0 2, AV.v (.int .i64 0)]) (.of_out [Orc.br false, Orc.br false, Orc.br false, Orc.br false, Orc.fin (Gh.nil 7 2 (AObj.rows true sR [])), Orc.loop [1, 2, 4, 5, 6, 7, 8] [0, 1] (AExit.exit 1) (tg [(4, AV.v (Value.slice none 0 0)), (0, AV.v (.int .i64 0)), (1, AV.sw 0 2)] 61) [AObj.rows true sR L37n0_0_o11]] [0] [isB (ine k 5) false, isB (ieq (slen raw) 0) false, isB (ilt 32 (slen raw)) false, nz 8, isB (ine (irem (slen raw) 8) 0) false, _] Try.func37 (by kernel_rfl) (by kernel_rfl) (.cons d0 (.cons d1 (.cons d2 (.cons (by first | decide | simp [nz, nn, inB, ltN, leN, eqN, eqZ, inC, zOk, growN, fitN]) (.cons d3 (.cons (L37n1 _ _ _ _ _ _ _ (L37n0_0_h1 d0 d1 d2 d3 d4)) .nil)))))))
theorem f37n (k : Int) (raw : ByteArray) (a : Int) (L37n0_0_c : Nat) (L37n0_0_fuel : Nat) (L37n0_0_o0 : List (El sR)) (L37n0_0_fuel1 : Nat) (L37n0_0_o11 : List (El sR)) (L37n0_0_h0 : ((ine k 5) = false) → ((ieq (slen raw) 0) = false) → ((ilt 32 (slen raw)) = false) → ((ine (irem (slen raw) 8) 0) = false) → ((Nat.beq L37n0_0_c 0) = true) → (L37nL k raw a L37n0_0_fuel 0 []) = (some (0, L37n0_0_o0, []))) (L37n0_0_h1 : ((ine k 5) = false) → ((ieq (slen raw) 0) = false) → ((ilt 32 (slen raw)) = false) → ((ine (irem (slen raw) 8) 0) = false) → ((Nat.beq L37n0_0_c 0) = false) → (L37nL k raw a L37n0_0_fuel1 0 []) = (some (1, [], L37n0_0_o11))) : ACalls Try.prog 37 [AV.agg [AV.v (.int .i64 k), AV.v (Value.slice none 0 0), AV.v (Value.string raw)], AV.v (.int .i64 a)] [] (AV.tup [AV.sw 0 2, AV.v (.int .i64 (f37nr0 k raw a L37n0_0_c L37n0_0_fuel L37n0_0_o0 L37n0_0_fuel1 L37n0_0_o11))]) [] [AObj.rows true sR (f37nr1 k raw a L37n0_0_c L37n0_0_fuel L37n0_0_o0 L37n0_0_fuel1 L37n0_0_o11)] := by
  have h := (ACalls.cond (ine k 5) (fun d0 => (f37n_1 k raw a d0)) (fun d0 => (ACalls.cond (ieq (slen raw) 0) (fun d1 => (f37n_2 k raw a d0 d1)) (fun d1 => (ACalls.cond (ilt 32 (slen raw)) (fun d2 => (f37n_3 k raw a d0 d1 d2)) (fun d2 => (ACalls.cond (ine (irem (slen raw) 8) 0) (fun d3 => (f37n_4 k raw a d0 d1 d2 d3)) (fun d3 => (ACalls.cond (Nat.beq L37n0_0_c 0) (fun d4 => (f37n_5 k raw a L37n0_0_c L37n0_0_fuel L37n0_0_o0 d0 d1 d2 d3 d4 L37n0_0_h0)) (fun d4 => (f37n_6 k raw a L37n0_0_c L37n0_0_fuel1 L37n0_0_o11 d0 d1 d2 d3 d4 L37n0_0_h1)))))))))))
  simp only [c_int, c_bool, c_str, c_agg, c_tup, c_fn, c_ifc, c_sl, c_pe, c_ptr, c_rows, c_siter, c_consA, c_consU, c_consO, c_cells, c_ints, c_bools, c_strs, c_same] at h
  exact h
theorem l37n (k : Int) (raw : ByteArray) (a : Int) (hr : raw.size ≤ 32) : ∀ (j i : Nat) (acc : List (El sR)), raw.size = i + 8 * j → acc.length ≤ i →
    (rdF raw a j i acc = none ∧ ∃ o, L37nL k raw a (j + 1) (i : Int) acc = some (0, o, [])) ∨ (∃ o, rdF raw a j i acc = some o ∧ L37nL k raw a (j + 1) (i : Int) acc = some (1, [], o))
  | 0, i, acc, h, _ => by
    have e0 : ilt (i : Int) (slen raw) = false := by rw [ilt_d]; exact decide_eq_false (by unfold slen; omega)
    rw [L37nLK]; unfold L37nB; rw [e0]; exact .inr ⟨acc, rfl, rfl⟩
  | j + 1, i, acc, h, ha => by
    have e0 : ilt (i : Int) (slen raw) = true := by rw [ilt_d]; exact decide_eq_true (by unfold slen; omega)
    have a4 := adn (i := i) 4 (by omega) (by omega)
    have a44 := adn (i := i + 4) 4 (by omega) (by omega)
    have a8 := adn (i := i) 8 (by omega) (by omega)
    have i1 : inS raw (i : Int) = true := decide_eq_true ⟨by omega, by omega, by omega⟩
    have i2 : inS raw ((i + 4 : Nat) : Int) = true := decide_eq_true ⟨by omega, by omega, by omega⟩
    rw [L37nLK]; unfold L37nB
    rw [e0, show iadd .i64 (i : Int) 4 = ((i + 4 : Nat) : Int) from a4, show iadd .i64 ((i + 4 : Nat) : Int) 4 = ((i + 8 : Nat) : Int) from a44, show iadd .i64 (i : Int) 8 = ((i + 8 : Nat) : Int) from a8, decide_eq_true i1, decide_eq_true i2]
    unfold rdF
    rw [show unwV a (numV (ssub raw (i : Int) ((i + 4 : Nat) : Int))) = rdA raw a i from rfl, show unwV (rdA raw a i) (numV (ssub raw ((i + 4 : Nat) : Int) ((i + 8 : Nat) : Int))) = rdB raw a i from rfl]
    cases h1 : ilt (rdA raw a i) 0 with
    | true =>
      rw [ilt_d, decide_eq_true_eq] at h1
      rw [show rdP (rdA raw a i) (rdB raw a i) = true from decide_eq_true (.inl h1)]
      exact .inl ⟨rfl, acc, rfl⟩
    | false =>
      rw [ilt_d, decide_eq_false_iff_not] at h1
      cases h2 : ile (rdB raw a i) (rdA raw a i) with
      | true =>
        rw [ile_d, decide_eq_true_eq] at h2
        rw [show rdP (rdA raw a i) (rdB raw a i) = true from decide_eq_true (.inr h2)]
        exact .inl ⟨rfl, acc, rfl⟩
      | false =>
        rw [ile_d, decide_eq_false_iff_not] at h2
        rw [show rdP (rdA raw a i) (rdB raw a i) = false from decide_eq_false (by omega)]
        rw [decide_eq_true (show fitN (addN (lenR sR acc) (lenR sR [(rdA raw a i, rdB raw a i)])) 16 from by unfold fitN addN lenR; simp only [List.length_cons, List.length_nil]; omega)]
        exact l37n k raw a hr j (i + 8) (acc ++ [(rdA raw a i, rdB raw a i)]) (by omega) (by rw [List.length_append]; simp only [List.length_cons, List.length_nil]; omega)
theorem g37n (k : Int) (raw : ByteArray) (a : Int) : ACalls Try.prog 37 [AV.agg [AV.v (.int .i64 k), AV.v (.slice none 0 0), AV.v (Value.string raw)], AV.v (.int .i64 a)] [] (AV.tup [AV.sw 0 2, AV.v (.int .i64 (rdE k raw a))]) [] [AObj.rows true sR (rdL k raw a)] := by
  unfold rdE rdL
  cases hk : ine k 5 with
  | true =>
    have := f37n k raw a 0 0 [] 0 [] (fun h => by rw [hk] at h; simp at h) (fun h => by rw [hk] at h; simp at h)
    unfold f37nr0 f37nr1 at this
    rw [hk] at this
    exact this
  | false =>
    have hm : irem (slen raw) 8 = ((raw.size % 8 : Nat) : Int) := by unfold irem slen; rw [Int.tmod_eq_emod_of_nonneg (by omega)]; omega
    cases hn : rN raw with
    | false =>
      have hn' : ¬ (raw.size % 8 = 0 ∧ 0 < raw.size ∧ raw.size ≤ 32) := of_decide_eq_false hn
      by_cases h0 : raw.size = 0
      · have e0 : ieq (slen raw) 0 = true := ieq_t (by unfold slen; omega)
        have := f37n k raw a 0 0 [] 0 [] (fun _ h => by rw [e0] at h; simp at h) (fun _ h => by rw [e0] at h; simp at h)
        unfold f37nr0 f37nr1 at this
        rw [hk, e0] at this
        exact this
      · have e0 : ieq (slen raw) 0 = false := ieq_f (by unfold slen; omega)
        by_cases h1 : 32 < raw.size
        · have e1 : ilt 32 (slen raw) = true := by rw [ilt_d]; exact decide_eq_true (by unfold slen; omega)
          have := f37n k raw a 0 0 [] 0 [] (fun _ _ h => by rw [e1] at h; simp at h) (fun _ _ h => by rw [e1] at h; simp at h)
          unfold f37nr0 f37nr1 at this
          rw [hk, e0, e1] at this
          exact this
        · have e1 : ilt 32 (slen raw) = false := by rw [ilt_d]; exact decide_eq_false (by unfold slen; omega)
          have e2 : ine (irem (slen raw) 8) 0 = true := ine_t (by rw [hm]; omega)
          have := f37n k raw a 0 0 [] 0 [] (fun _ _ _ h => by rw [e2] at h; simp at h) (fun _ _ _ h => by rw [e2] at h; simp at h)
          unfold f37nr0 f37nr1 at this
          rw [hk, e0, e1, e2] at this
          exact this
    | true =>
      have hn' : raw.size % 8 = 0 ∧ 0 < raw.size ∧ raw.size ≤ 32 := of_decide_eq_true hn
      have e0 : ieq (slen raw) 0 = false := ieq_f (by unfold slen; omega)
      have e1 : ilt 32 (slen raw) = false := by rw [ilt_d]; exact decide_eq_false (by unfold slen; omega)
      have e2 : ine (irem (slen raw) 8) 0 = false := ine_f (by rw [hm]; omega)
      rcases l37n k raw a hn'.2.2 (raw.size / 8) 0 [] (by omega) (by simp) with ⟨k1, o, k2⟩ | ⟨o, k1, k2⟩
      · have := f37n k raw a 0 (raw.size / 8 + 1) o 0 [] (fun _ _ _ _ _ => k2) (fun _ _ _ _ h => by simp at h)
        unfold f37nr0 f37nr1 at this
        rw [hk, e0, e1, e2] at this
        rw [k1]
        exact this
      · have := f37n k raw a 1 0 [] (raw.size / 8 + 1) o (fun _ _ _ _ h => by simp at h) (fun _ _ _ _ _ => k2)
        unfold f37nr0 f37nr1 at this
        rw [hk, e0, e1, e2] at this
        rw [k1]
        exact this
end Go.Proofs.Ytffoldigaififaa.Sk

set_option maxRecDepth 100000
set_option linter.all false
set_option maxHeartbeats 4000000
set_option linter.unusedSimpArgs false
set_option linter.unusedVariables false
namespace Go.Proofs.Ytffoldigaififaa.Sk
open Go.Abs
def samF : List (El sR) → List (El sR) → Bool
  | [], [] => true
  | p :: l, q :: m => andB (andB (ieq p.1 q.1) (ieq p.2 q.2)) (samF l m)
  | _, _ => false
theorem samF_self : ∀ l : List (El sR), samF l l = true
  | [] => rfl
  | p :: l => by unfold samF; rw [ieq_t rfl, ieq_t rfl, samF_self l]; rfl
theorem samF_len : ∀ {l m : List (El sR)}, l.length ≠ m.length → samF l m = false
  | [], [], h => absurd rfl h
  | [], _ :: _, _ => rfl
  | _ :: _, [], _ => rfl
  | p :: l, q :: m, h => by unfold samF; rw [samF_len (l := l) (m := m) (by simpa using h)]; cases andB (ieq p.1 q.1) (ieq p.2 q.2) <;> rfl
theorem l26e (x y : Bool) (l m : List (El sR)) (hl : l.length ≤ 100000) (hm : l.length = m.length) : ∀ (j i : Nat), i + j = l.length → L26L x y l m (j + 1) (i : Int) = some (bif samF (l.drop i) (m.drop i) then 1 else 0)
  | 0, i, h => by
    have e0 : ilt (i : Int) (nlen (lenR sR l)) = false := by rw [ilt_d]; exact decide_eq_false (by unfold nlen lenR; omega)
    rw [L26LK]; unfold L26B; rw [e0, List.drop_eq_nil_of_le (by omega), List.drop_eq_nil_of_le (by omega)]; rfl
  | j + 1, i, h => by
    have hi : i < l.length := by omega
    have hj : i < m.length := by omega
    have e0 : ilt (i : Int) (nlen (lenR sR l)) = true := by rw [ilt_d]; exact decide_eq_true (by unfold nlen lenR; omega)
    rw [L26LK]; unfold L26B
    rw [e0, (inR hi).1, (inR hi).2, (inR hj).1, (inR hj).2, ad1 (by omega), getR_get hi, getR_get hj, List.drop_eq_getElem_cons hi, List.drop_eq_getElem_cons hj]
    unfold samF
    cases hc : andB (ieq (l[i]).1 (m[i]).1) (ieq (l[i]).2 (m[i]).2) with
    | false => rfl
    | true =>
      have := l26e x y l m hl hm j (i + 1) (by omega)
      have e1 : ∀ b : Bool, andB true b = b := fun b => by cases b <;> rfl
      rw [e1]
      exact this
theorem g26e (x y : Bool) (l m : List (El sR)) (h : smR l = true) : ACalls Try.prog 26 [AV.sw 0 2, AV.sw 1 2] [AObj.rows x sR l, AObj.rows y sR m] (AV.v (.bool (samF l m))) [] [] := by
  have hl : l.length ≤ 100000 := of_decide_eq_true h
  by_cases hm : l.length = m.length
  · have k := l26e x y l m hl hm l.length 0 (by omega)
    rw [List.drop_zero, List.drop_zero] at k
    have e : ine (nlen (lenR sR l)) (nlen (lenR sR m)) = false := ine_f (by unfold nlen lenR; omega)
    cases hs : samF l m with
    | true =>
      rw [hs] at k
      have := f26 x y l m 1 0 (l.length + 1) (fun _ h => by simp at h) (fun _ _ => k)
      unfold f26r0 at this
      rw [e] at this
      exact this
    | false =>
      rw [hs] at k
      have := f26 x y l m 0 (l.length + 1) 0 (fun _ _ => k) (fun _ h => by simp at h)
      unfold f26r0 at this
      rw [e] at this
      exact this
  · have e : ine (nlen (lenR sR l)) (nlen (lenR sR m)) = true := ine_t (by unfold nlen lenR; omega)
    have := f26 x y l m 0 0 0 (fun h => by rw [e] at h; simp at h) (fun h => by rw [e] at h; simp at h)
    unfold f26r0 at this
    rw [e] at this
    rw [samF_len hm]
    exact this
def L7aS (l : List (El sR)) (n : Int) (x6 : Int) (y1 : List (El sR)) : Tm := (tg [(0, AV.sw 0 2), (0, AV.v (.int .i32 n)), (2, AV.v (Value.bool false)), (0, AV.sw 1 2), (0, AV.v (.int .i64 x6))] 113)
def L7aH (l : List (El sR)) (n : Int) (x6 : Int) (y1 : List (El sR)) : List AObj := [AObj.rows false sR l, AObj.rows true sR y1]
def L7aT (l : List (El sR)) (n : Int) (o0 : List (El sR)) : Tm := (tg [(1, AV.v (.int .i32 n)), (2, AV.v (Value.bool false)), (0, AV.sw 1 2)] 114)
def L7aU (l : List (El sR)) (n : Int) (o0 : List (El sR)) : List AObj := [AObj.rows false sR l, AObj.rows true sR o0]
theorem L7a_1 (l : List (El sR)) (n : Int) (x6 : Int) (y1 : List (El sR))  (d0 : (ilt x6 (nlen (lenR sR l))) = true) (d1 : (ilt x6 4) = true) (s0 : inB x6 (lenR sR l)) (s1 : ltN (idxN 0 x6) (lenR sR l)) (s2 : fitN (addN (lenR sR y1) (lenR sR [(imin (imax ((getR sR l (idxN 0 x6)).1) 0) 549755813888, iadd .i64 (iadd .i64 (imin (imax ((getR sR l (idxN 0 x6)).1) 0) 549755813888) 1) (imin (imax ((getR sR l (idxN 0 x6)).2) 0) 1048576))])) 16) {e : AExit} {tm2 : Tm} {h2 : List AObj} (b : ARun Try.prog 1 (.loop (lp Try.f7 0)) (L7aS l n  (iadd .i64 x6 1) (appR sR y1 [(imin (imax ((getR sR l (idxN 0 x6)).1) 0) 549755813888, iadd .i64 (iadd .i64 (imin (imax ((getR sR l (idxN 0 x6)).1) 0) 549755813888) 1) (imin (imax ((getR sR l (idxN 0 x6)).2) 0) 1048576))])) (L7aH l n  (iadd .i64 x6 1) (appR sR y1 [(imin (imax ((getR sR l (idxN 0 x6)).1) 0) 549755813888, iadd .i64 (iadd .i64 (imin (imax ((getR sR l (idxN 0 x6)).1) 0) 549755813888) 1) (imin (imax ((getR sR l (idxN 0 x6)).2) 0) 1048576))])) e tm2 h2) : ARun Try.prog 1 (.loop (lp Try.f7 0)) (L7aS l n  x6 y1) (L7aH l n  x6 y1) e tm2 h2 :=
  .round [Orc.br true, Orc.br true] [0, 1, 4, 5, 6] [0, 3] [isB (ilt x6 (nlen (lenR sR l))) true, isB (ilt x6 4) true, inB x6 (lenR sR l), ltN (idxN 0 x6) (lenR sR l), inB x6 (lenR sR l), ltN (idxN 0 x6) (lenR sR l), fitN (addN (lenR sR y1) (lenR sR [(imin (imax ((getR sR l (idxN 0 x6)).1) 0) 549755813888, iadd .i64 (iadd .i64 (imin (imax ((getR sR l (idxN 0 x6)).1) 0) 549755813888) 1) (imin (imax ((getR sR l (idxN 0 x6)).2) 0) 1048576))])) 16] (by kernel_rfl) (.cons d0 (.cons d1 (.cons (s0) (.cons (s1) (.cons (s0) (.cons (s1) (.cons (s2) .nil))))))) b
theorem L7a_2 (l : List (El sR)) (n : Int) (x6 : Int) (y1 : List (El sR))  (d0 : (ilt x6 (nlen (lenR sR l))) = true) (d1 : (ilt x6 4) = false) : ARun Try.prog 1 (.loop (lp Try.f7 0)) (L7aS l n  x6 y1) (L7aH l n  x6 y1) (AExit.exit 0) (L7aT l n  (y1)) (L7aU l n  (y1)) :=
  .last [Orc.br true, Orc.br false] [1, 4, 5, 8, 9, 10, 11, 12, 13, 14, 54, 61, 62, 63, 104] [0, 1] [isB (ilt x6 (nlen (lenR sR l))) true, isB (ilt x6 4) false] (by kernel_rfl) (.cons d0 (.cons d1 .nil))
theorem L7a_3 (l : List (El sR)) (n : Int) (x6 : Int) (y1 : List (El sR))  (d0 : (ilt x6 (nlen (lenR sR l))) = false) : ARun Try.prog 1 (.loop (lp Try.f7 0)) (L7aS l n  x6 y1) (L7aH l n  x6 y1) (AExit.exit 0) (L7aT l n  (y1)) (L7aU l n  (y1)) :=
  .last [Orc.br false, Orc.br false] [1, 4, 5, 8, 9, 10, 11, 12, 13, 14, 54, 61, 62, 63, 104] [0, 1] [isB (ilt x6 (nlen (lenR sR l))) false, isB false false] (by kernel_rfl) (.cons d0 (.cons (by show _ = _; kernel_rfl) .nil))
def L7aB (l : List (El sR)) (n : Int) (x6 : Int) (y1 : List (El sR)) : Option (((Int) × (List (El sR))) ⊕ ((List (El sR)))) := (bif ilt x6 (nlen (lenR sR l)) then (bif ilt x6 4 then bif decide (inB x6 (lenR sR l)) then bif decide (ltN (idxN 0 x6) (lenR sR l)) then bif decide (fitN (addN (lenR sR y1) (lenR sR [(imin (imax ((getR sR l (idxN 0 x6)).1) 0) 549755813888, iadd .i64 (iadd .i64 (imin (imax ((getR sR l (idxN 0 x6)).1) 0) 549755813888) 1) (imin (imax ((getR sR l (idxN 0 x6)).2) 0) 1048576))])) 16) then some (.inl (iadd .i64 x6 1, appR sR y1 [(imin (imax ((getR sR l (idxN 0 x6)).1) 0) 549755813888, iadd .i64 (iadd .i64 (imin (imax ((getR sR l (idxN 0 x6)).1) 0) 549755813888) 1) (imin (imax ((getR sR l (idxN 0 x6)).2) 0) 1048576))])) else none else none else none else some (.inr (y1))) else some (.inr (y1)))
def L7aL (l : List (El sR)) (n : Int) : Nat → Int → List (El sR) → Option ((List (El sR)))
  | 0, _, _ => none
  | fuel + 1, x6, y1 => match L7aB l n  x6 y1 with
    | none => none
    | some (.inl s) => L7aL l n fuel s.1 s.2
    | some (.inr o) => some o
def L7aK (l : List (El sR)) (n : Int) (fuel : Nat) : Option (((Int) × (List (El sR))) ⊕ ((List (El sR)))) → Option ((List (El sR)))
  | none => none
  | some (.inl s) => L7aL l n fuel s.1 s.2
  | some (.inr o) => some o
theorem L7aLK (l : List (El sR)) (n : Int) (fuel : Nat) (x6 : Int) (y1 : List (El sR)) : L7aL l n (fuel + 1)  x6 y1 = L7aK l n fuel (L7aB l n  x6 y1) := by
  rw [L7aL]; cases L7aB l n  x6 y1 with
  | none => rfl
  | some v => cases v <;> rfl
theorem L7aP (l : List (El sR)) (n : Int) (fuel : Nat) (ih : ∀ (x6 : Int) (y1 : List (El sR)) (o0 : List (El sR)) (_ : L7aL l n fuel  x6 y1 = some (o0)), ARun Try.prog 1 (.loop (lp Try.f7 0)) (L7aS l n  x6 y1) (L7aH l n  x6 y1) (AExit.exit 0) (L7aT l n  o0) (L7aU l n  o0)) (x6 : Int) (y1 : List (El sR)) (o0 : List (El sR)) (h : L7aK l n fuel (L7aB l n  x6 y1) = some (o0)) : ARun Try.prog 1 (.loop (lp Try.f7 0)) (L7aS l n  x6 y1) (L7aH l n  x6 y1) (AExit.exit 0) (L7aT l n  o0) (L7aU l n  o0) := by
  unfold L7aB at h
  exact (splitK h (fun d0 h => (splitK h (fun d1 h => (chkK rfl h (fun s0 h => chkK rfl h (fun s1 h => chkK rfl h (fun s2 h => L7a_1 l n  x6 y1 d0 d1 s0 s1 s2 (ih (iadd .i64 x6 1) (appR sR y1 [(imin (imax ((getR sR l (idxN 0 x6)).1) 0) 549755813888, iadd .i64 (iadd .i64 (imin (imax ((getR sR l (idxN 0 x6)).1) 0) 549755813888) 1) (imin (imax ((getR sR l (idxN 0 x6)).2) 0) 1048576))]) o0 h)))))) (fun d1 h => ((by cases h; exact L7a_2 l n  x6 y1 d0 d1))))) (fun d0 h => ((by cases h; exact L7a_3 l n  x6 y1 d0))))
theorem L7a (l : List (El sR)) (n : Int) : ∀ (fuel : Nat) (x6 : Int) (y1 : List (El sR)) (o0 : List (El sR)) (_ : L7aL l n  fuel  x6 y1 = some (o0)), ARun Try.prog 1 (.loop (lp Try.f7 0)) (L7aS l n  x6 y1) (L7aH l n  x6 y1) (AExit.exit 0) (L7aT l n  o0) (L7aU l n  o0)
  | 0, _, _, _, h => by cases h
  | fuel + 1, x6, y1, o0, h => L7aP l n fuel (L7a l n fuel)  x6 y1  o0 (by rw [L7aLK] at h; exact h)
def L7bS (l : List (El sR)) (n : Int) (x9 : Int) (x61 : Int) (y1 : List (El sR)) (y2 : Int) (y2_1 : ByteArray) (x62 : Int) : Tm := (tg [(1, AV.v (.int .i32 n)), (2, AV.v (Value.bool false)), (0, AV.sw 1 2), (2, AV.ptr 2 0), (0, AV.v (.int .i64 x9)), (51, AV.v (.int .i64 x61)), (0, AV.v (.int .i64 x62))] 57)
def L7bH (l : List (El sR)) (n : Int) (x9 : Int) (x61 : Int) (y1 : List (El sR)) (y2 : Int) (y2_1 : ByteArray) (x62 : Int) : List AObj := [AObj.rows false sR l, AObj.rows false sR y1, AObj.cells 0 true [AV.v (.int .i64 y2), AV.v (Value.slice none 0 0), AV.v (Value.string y2_1)]]
def L7bT0 (l : List (El sR)) (n : Int) (o0 : Int) (o1 : List (El sR)) (o2 : Int) (o3 : ByteArray) : Tm := (tg [(4, AV.v (Value.bool false)), (0, AV.sw 1 2), (2, AV.ptr 2 0), (0, AV.v (.int .i64 o0))] 110)
def L7bU0 (l : List (El sR)) (n : Int) (o0 : Int) (o1 : List (El sR)) (o2 : Int) (o3 : ByteArray) : List AObj := [AObj.rows false sR l, AObj.rows false sR o1, AObj.cells 0 true [AV.v (.int .i64 o2), AV.v (Value.slice none 0 0), AV.v (Value.string o3)]]
def L7bT1 (l : List (El sR)) (n : Int) (o4 : Int) (o5 : List (El sR)) (o6 : Int) (o7 : ByteArray) : Tm := (tg [(4, AV.v (Value.bool false)), (0, AV.sw 1 2), (2, AV.ptr 2 0), (0, AV.v (.int .i64 o4))] 110)
def L7bU1 (l : List (El sR)) (n : Int) (o4 : Int) (o5 : List (El sR)) (o6 : Int) (o7 : ByteArray) : List AObj := [AObj.rows false sR l, AObj.rows false sR o5, AObj.cells 0 true [AV.v (.int .i64 o6), AV.v (Value.slice none 0 0), AV.v (Value.string o7)]]
theorem L7b_1 (l : List (El sR)) (n : Int) (x9 : Int) (x61 : Int) (y1 : List (El sR)) (y2 : Int) (y2_1 : ByteArray) (x62 : Int)  (d0 : (ilt x62 x61) = true) (d1 : (ine (wE (subR sR y1 (idxN 0 x62) (subN (iadd .i64 x62 1) x62))) 0) = true) (s0 : inC x62 (iadd .i64 x62 1) (nlen (lenR sR y1))) (s1 : leN ((idxN 0 x62) + (subN (iadd .i64 x62 1) x62)) (lenR sR y1)) (s2 : inB x62 (lenR sR y1)) (s3 : ltN (idxN 0 x62) (lenR sR y1)) : ARun Try.prog 1 (.loop (lp Try.f7 1)) (L7bS l n  x9 x61 y1 y2 y2_1 x62) (L7bH l n  x9 x61 y1 y2 y2_1 x62) (AExit.ret) (L7bT0 l n  (x9) (y1) (y2) (y2_1)) (L7bU0 l n  (x9) (y1) (y2) (y2_1)) :=
  .lastRet [Orc.br true, Orc.call [3] (AV.tup [AV.agg [AV.v (.int .i64 (wK (subR sR y1 (idxN 0 x62) (subN (iadd .i64 x62 1) x62)))), AV.v (Value.slice none 0 0), AV.v (Value.string (wS (subR sR y1 (idxN 0 x62) (subN (iadd .i64 x62 1) x62))))], AV.v (.int .i64 (wE (subR sR y1 (idxN 0 x62) (subN (iadd .i64 x62 1) x62))))]) [] [], Orc.call [] (AV.tup [AV.sw 0 2, AV.v (.int .i64 (rdE (wK (subR sR y1 (idxN 0 x62) (subN (iadd .i64 x62 1) x62))) (wS (subR sR y1 (idxN 0 x62) (subN (iadd .i64 x62 1) x62))) (imax (isub .i64 ((getR sR y1 (idxN 0 x62)).1) (icv .i64 (iquo IntKind.i32 n 2))) 0)))]) [] [AObj.rows true sR (rdL (wK (subR sR y1 (idxN 0 x62) (subN (iadd .i64 x62 1) x62))) (wS (subR sR y1 (idxN 0 x62) (subN (iadd .i64 x62 1) x62))) (imax (isub .i64 ((getR sR y1 (idxN 0 x62)).1) (icv .i64 (iquo IntKind.i32 n 2))) 0))], Orc.br true, Orc.br true, Orc.br true] [4, 5, 8, 9] [0, 1, 2] [isB (ilt x62 x61) true, inC x62 (iadd .i64 x62 1) (nlen (lenR sR y1)), leN ((idxN 0 x62) + (subN (iadd .i64 x62 1) x62)) (lenR sR y1), ACalls Try.prog 35 [AV.sw 0 2] [AObj.rows false sR (subR sR y1 (idxN 0 x62) (subN (iadd .i64 x62 1) x62))] (AV.tup [AV.agg [AV.v (.int .i64 (wK (subR sR y1 (idxN 0 x62) (subN (iadd .i64 x62 1) x62)))), AV.v (Value.slice none 0 0), AV.v (Value.string (wS (subR sR y1 (idxN 0 x62) (subN (iadd .i64 x62 1) x62))))], AV.v (.int .i64 (wE (subR sR y1 (idxN 0 x62) (subN (iadd .i64 x62 1) x62))))]) [] [], Mixed Try.prog, inB x62 (lenR sR y1), ltN (idxN 0 x62) (lenR sR y1), nz 2, ACalls Try.prog 37 [AV.agg [AV.v (.int .i64 (wK (subR sR y1 (idxN 0 x62) (subN (iadd .i64 x62 1) x62)))), AV.v (Value.slice none 0 0), AV.v (Value.string (wS (subR sR y1 (idxN 0 x62) (subN (iadd .i64 x62 1) x62))))], AV.v (.int .i64 (imax (isub .i64 ((getR sR y1 (idxN 0 x62)).1) (icv .i64 (iquo IntKind.i32 n 2))) 0))] [] (AV.tup [AV.sw 0 2, AV.v (.int .i64 (rdE (wK (subR sR y1 (idxN 0 x62) (subN (iadd .i64 x62 1) x62))) (wS (subR sR y1 (idxN 0 x62) (subN (iadd .i64 x62 1) x62))) (imax (isub .i64 ((getR sR y1 (idxN 0 x62)).1) (icv .i64 (iquo IntKind.i32 n 2))) 0)))]) [] [AObj.rows true sR (rdL (wK (subR sR y1 (idxN 0 x62) (subN (iadd .i64 x62 1) x62))) (wS (subR sR y1 (idxN 0 x62) (subN (iadd .i64 x62 1) x62))) (imax (isub .i64 ((getR sR y1 (idxN 0 x62)).1) (icv .i64 (iquo IntKind.i32 n 2))) 0))], isB (ine (wE (subR sR y1 (idxN 0 x62) (subN (iadd .i64 x62 1) x62))) 0) true, isB true true, isB true true] (by kernel_rfl) (.cons d0 (.cons (s0) (.cons (s1) (.cons (by apply k35) (.cons (by show _ = _; kernel_rfl) (.cons (s2) (.cons (s3) (.cons (by first | decide | simp [nz, nn, inB, ltN, leN, eqN, eqZ, inC, zOk, growN, fitN]) (.cons (by apply g37n) (.cons d1 (.cons (by show _ = _; kernel_rfl) (.cons (by show _ = _; kernel_rfl) .nil))))))))))))
theorem L7b_2 (l : List (El sR)) (n : Int) (x9 : Int) (x61 : Int) (y1 : List (El sR)) (y2 : Int) (y2_1 : ByteArray) (x62 : Int)  (d0 : (ilt x62 x61) = true) (d1 : (ine (wE (subR sR y1 (idxN 0 x62) (subN (iadd .i64 x62 1) x62))) 0) = false) (d2 : (ine (rdE (wK (subR sR y1 (idxN 0 x62) (subN (iadd .i64 x62 1) x62))) (wS (subR sR y1 (idxN 0 x62) (subN (iadd .i64 x62 1) x62))) (imax (isub .i64 ((getR sR y1 (idxN 0 x62)).1) (icv .i64 (iquo IntKind.i32 n 2))) 0)) 0) = true) (s0 : inC x62 (iadd .i64 x62 1) (nlen (lenR sR y1))) (s1 : leN ((idxN 0 x62) + (subN (iadd .i64 x62 1) x62)) (lenR sR y1)) (s2 : inB x62 (lenR sR y1)) (s3 : ltN (idxN 0 x62) (lenR sR y1)) : ARun Try.prog 1 (.loop (lp Try.f7 1)) (L7bS l n  x9 x61 y1 y2 y2_1 x62) (L7bH l n  x9 x61 y1 y2 y2_1 x62) (AExit.ret) (L7bT0 l n  (x9) (y1) (y2) (y2_1)) (L7bU0 l n  (x9) (y1) (y2) (y2_1)) :=
  .lastRet [Orc.br true, Orc.call [3] (AV.tup [AV.agg [AV.v (.int .i64 (wK (subR sR y1 (idxN 0 x62) (subN (iadd .i64 x62 1) x62)))), AV.v (Value.slice none 0 0), AV.v (Value.string (wS (subR sR y1 (idxN 0 x62) (subN (iadd .i64 x62 1) x62))))], AV.v (.int .i64 (wE (subR sR y1 (idxN 0 x62) (subN (iadd .i64 x62 1) x62))))]) [] [], Orc.call [] (AV.tup [AV.sw 0 2, AV.v (.int .i64 (rdE (wK (subR sR y1 (idxN 0 x62) (subN (iadd .i64 x62 1) x62))) (wS (subR sR y1 (idxN 0 x62) (subN (iadd .i64 x62 1) x62))) (imax (isub .i64 ((getR sR y1 (idxN 0 x62)).1) (icv .i64 (iquo IntKind.i32 n 2))) 0)))]) [] [AObj.rows true sR (rdL (wK (subR sR y1 (idxN 0 x62) (subN (iadd .i64 x62 1) x62))) (wS (subR sR y1 (idxN 0 x62) (subN (iadd .i64 x62 1) x62))) (imax (isub .i64 ((getR sR y1 (idxN 0 x62)).1) (icv .i64 (iquo IntKind.i32 n 2))) 0))], Orc.br false, Orc.br true, Orc.br true] [4, 5, 8, 9] [0, 1, 2] [isB (ilt x62 x61) true, inC x62 (iadd .i64 x62 1) (nlen (lenR sR y1)), leN ((idxN 0 x62) + (subN (iadd .i64 x62 1) x62)) (lenR sR y1), ACalls Try.prog 35 [AV.sw 0 2] [AObj.rows false sR (subR sR y1 (idxN 0 x62) (subN (iadd .i64 x62 1) x62))] (AV.tup [AV.agg [AV.v (.int .i64 (wK (subR sR y1 (idxN 0 x62) (subN (iadd .i64 x62 1) x62)))), AV.v (Value.slice none 0 0), AV.v (Value.string (wS (subR sR y1 (idxN 0 x62) (subN (iadd .i64 x62 1) x62))))], AV.v (.int .i64 (wE (subR sR y1 (idxN 0 x62) (subN (iadd .i64 x62 1) x62))))]) [] [], Mixed Try.prog, inB x62 (lenR sR y1), ltN (idxN 0 x62) (lenR sR y1), nz 2, ACalls Try.prog 37 [AV.agg [AV.v (.int .i64 (wK (subR sR y1 (idxN 0 x62) (subN (iadd .i64 x62 1) x62)))), AV.v (Value.slice none 0 0), AV.v (Value.string (wS (subR sR y1 (idxN 0 x62) (subN (iadd .i64 x62 1) x62))))], AV.v (.int .i64 (imax (isub .i64 ((getR sR y1 (idxN 0 x62)).1) (icv .i64 (iquo IntKind.i32 n 2))) 0))] [] (AV.tup [AV.sw 0 2, AV.v (.int .i64 (rdE (wK (subR sR y1 (idxN 0 x62) (subN (iadd .i64 x62 1) x62))) (wS (subR sR y1 (idxN 0 x62) (subN (iadd .i64 x62 1) x62))) (imax (isub .i64 ((getR sR y1 (idxN 0 x62)).1) (icv .i64 (iquo IntKind.i32 n 2))) 0)))]) [] [AObj.rows true sR (rdL (wK (subR sR y1 (idxN 0 x62) (subN (iadd .i64 x62 1) x62))) (wS (subR sR y1 (idxN 0 x62) (subN (iadd .i64 x62 1) x62))) (imax (isub .i64 ((getR sR y1 (idxN 0 x62)).1) (icv .i64 (iquo IntKind.i32 n 2))) 0))], isB (ine (wE (subR sR y1 (idxN 0 x62) (subN (iadd .i64 x62 1) x62))) 0) false, isB (ine (rdE (wK (subR sR y1 (idxN 0 x62) (subN (iadd .i64 x62 1) x62))) (wS (subR sR y1 (idxN 0 x62) (subN (iadd .i64 x62 1) x62))) (imax (isub .i64 ((getR sR y1 (idxN 0 x62)).1) (icv .i64 (iquo IntKind.i32 n 2))) 0)) 0) true, isB true true] (by kernel_rfl) (.cons d0 (.cons (s0) (.cons (s1) (.cons (by apply k35) (.cons (by show _ = _; kernel_rfl) (.cons (s2) (.cons (s3) (.cons (by first | decide | simp [nz, nn, inB, ltN, leN, eqN, eqZ, inC, zOk, growN, fitN]) (.cons (by apply g37n) (.cons d1 (.cons d2 (.cons (by show _ = _; kernel_rfl) .nil))))))))))))
theorem L7b_3 (l : List (El sR)) (n : Int) (x9 : Int) (x61 : Int) (y1 : List (El sR)) (y2 : Int) (y2_1 : ByteArray) (x62 : Int)  (d0 : (ilt x62 x61) = true) (d1 : (ine (wE (subR sR y1 (idxN 0 x62) (subN (iadd .i64 x62 1) x62))) 0) = false) (d2 : (ine (rdE (wK (subR sR y1 (idxN 0 x62) (subN (iadd .i64 x62 1) x62))) (wS (subR sR y1 (idxN 0 x62) (subN (iadd .i64 x62 1) x62))) (imax (isub .i64 ((getR sR y1 (idxN 0 x62)).1) (icv .i64 (iquo IntKind.i32 n 2))) 0)) 0) = false) (d3 : (notB (samF (rdL (wK (subR sR y1 (idxN 0 x62) (subN (iadd .i64 x62 1) x62))) (wS (subR sR y1 (idxN 0 x62) (subN (iadd .i64 x62 1) x62))) (imax (isub .i64 ((getR sR y1 (idxN 0 x62)).1) (icv .i64 (iquo IntKind.i32 n 2))) 0)) (subR sR y1 (idxN 0 x62) (subN (iadd .i64 x62 1) x62)))) = true) (s0 : inC x62 (iadd .i64 x62 1) (nlen (lenR sR y1))) (s1 : leN ((idxN 0 x62) + (subN (iadd .i64 x62 1) x62)) (lenR sR y1)) (s2 : inB x62 (lenR sR y1)) (s3 : ltN (idxN 0 x62) (lenR sR y1)) (s4 : (smR (rdL (wK (subR sR y1 (idxN 0 x62) (subN (iadd .i64 x62 1) x62))) (wS (subR sR y1 (idxN 0 x62) (subN (iadd .i64 x62 1) x62))) (imax (isub .i64 ((getR sR y1 (idxN 0 x62)).1) (icv .i64 (iquo IntKind.i32 n 2))) 0))) = true) : ARun Try.prog 1 (.loop (lp Try.f7 1)) (L7bS l n  x9 x61 y1 y2 y2_1 x62) (L7bH l n  x9 x61 y1 y2 y2_1 x62) (AExit.ret) (L7bT0 l n  (x9) (y1) (y2) (y2_1)) (L7bU0 l n  (x9) (y1) (y2) (y2_1)) :=
  .lastRet [Orc.br true, Orc.call [3] (AV.tup [AV.agg [AV.v (.int .i64 (wK (subR sR y1 (idxN 0 x62) (subN (iadd .i64 x62 1) x62)))), AV.v (Value.slice none 0 0), AV.v (Value.string (wS (subR sR y1 (idxN 0 x62) (subN (iadd .i64 x62 1) x62))))], AV.v (.int .i64 (wE (subR sR y1 (idxN 0 x62) (subN (iadd .i64 x62 1) x62))))]) [] [], Orc.call [] (AV.tup [AV.sw 0 2, AV.v (.int .i64 (rdE (wK (subR sR y1 (idxN 0 x62) (subN (iadd .i64 x62 1) x62))) (wS (subR sR y1 (idxN 0 x62) (subN (iadd .i64 x62 1) x62))) (imax (isub .i64 ((getR sR y1 (idxN 0 x62)).1) (icv .i64 (iquo IntKind.i32 n 2))) 0)))]) [] [AObj.rows true sR (rdL (wK (subR sR y1 (idxN 0 x62) (subN (iadd .i64 x62 1) x62))) (wS (subR sR y1 (idxN 0 x62) (subN (iadd .i64 x62 1) x62))) (imax (isub .i64 ((getR sR y1 (idxN 0 x62)).1) (icv .i64 (iquo IntKind.i32 n 2))) 0))], Orc.br false, Orc.br false, Orc.call [5, 6] (AV.v (Value.bool (samF (rdL (wK (subR sR y1 (idxN 0 x62) (subN (iadd .i64 x62 1) x62))) (wS (subR sR y1 (idxN 0 x62) (subN (iadd .i64 x62 1) x62))) (imax (isub .i64 ((getR sR y1 (idxN 0 x62)).1) (icv .i64 (iquo IntKind.i32 n 2))) 0)) (subR sR y1 (idxN 0 x62) (subN (iadd .i64 x62 1) x62))))) [] [], Orc.br true] [4, 5, 8, 9] [0, 1, 2] [isB (ilt x62 x61) true, inC x62 (iadd .i64 x62 1) (nlen (lenR sR y1)), leN ((idxN 0 x62) + (subN (iadd .i64 x62 1) x62)) (lenR sR y1), ACalls Try.prog 35 [AV.sw 0 2] [AObj.rows false sR (subR sR y1 (idxN 0 x62) (subN (iadd .i64 x62 1) x62))] (AV.tup [AV.agg [AV.v (.int .i64 (wK (subR sR y1 (idxN 0 x62) (subN (iadd .i64 x62 1) x62)))), AV.v (Value.slice none 0 0), AV.v (Value.string (wS (subR sR y1 (idxN 0 x62) (subN (iadd .i64 x62 1) x62))))], AV.v (.int .i64 (wE (subR sR y1 (idxN 0 x62) (subN (iadd .i64 x62 1) x62))))]) [] [], Mixed Try.prog, inB x62 (lenR sR y1), ltN (idxN 0 x62) (lenR sR y1), nz 2, ACalls Try.prog 37 [AV.agg [AV.v (.int .i64 (wK (subR sR y1 (idxN 0 x62) (subN (iadd .i64 x62 1) x62)))), AV.v (Value.slice none 0 0), AV.v (Value.string (wS (subR sR y1 (idxN 0 x62) (subN (iadd .i64 x62 1) x62))))], AV.v (.int .i64 (imax (isub .i64 ((getR sR y1 (idxN 0 x62)).1) (icv .i64 (iquo IntKind.i32 n 2))) 0))] [] (AV.tup [AV.sw 0 2, AV.v (.int .i64 (rdE (wK (subR sR y1 (idxN 0 x62) (subN (iadd .i64 x62 1) x62))) (wS (subR sR y1 (idxN 0 x62) (subN (iadd .i64 x62 1) x62))) (imax (isub .i64 ((getR sR y1 (idxN 0 x62)).1) (icv .i64 (iquo IntKind.i32 n 2))) 0)))]) [] [AObj.rows true sR (rdL (wK (subR sR y1 (idxN 0 x62) (subN (iadd .i64 x62 1) x62))) (wS (subR sR y1 (idxN 0 x62) (subN (iadd .i64 x62 1) x62))) (imax (isub .i64 ((getR sR y1 (idxN 0 x62)).1) (icv .i64 (iquo IntKind.i32 n 2))) 0))], isB (ine (wE (subR sR y1 (idxN 0 x62) (subN (iadd .i64 x62 1) x62))) 0) false, isB (ine (rdE (wK (subR sR y1 (idxN 0 x62) (subN (iadd .i64 x62 1) x62))) (wS (subR sR y1 (idxN 0 x62) (subN (iadd .i64 x62 1) x62))) (imax (isub .i64 ((getR sR y1 (idxN 0 x62)).1) (icv .i64 (iquo IntKind.i32 n 2))) 0)) 0) false, inC x62 (iadd .i64 x62 1) (nlen (lenR sR y1)), leN ((idxN 0 x62) + (subN (iadd .i64 x62 1) x62)) (lenR sR y1), ACalls Try.prog 26 [AV.sw 0 2, AV.sw 1 2] [AObj.rows true sR (rdL (wK (subR sR y1 (idxN 0 x62) (subN (iadd .i64 x62 1) x62))) (wS (subR sR y1 (idxN 0 x62) (subN (iadd .i64 x62 1) x62))) (imax (isub .i64 ((getR sR y1 (idxN 0 x62)).1) (icv .i64 (iquo IntKind.i32 n 2))) 0)), AObj.rows false sR (subR sR y1 (idxN 0 x62) (subN (iadd .i64 x62 1) x62))] (AV.v (Value.bool (samF (rdL (wK (subR sR y1 (idxN 0 x62) (subN (iadd .i64 x62 1) x62))) (wS (subR sR y1 (idxN 0 x62) (subN (iadd .i64 x62 1) x62))) (imax (isub .i64 ((getR sR y1 (idxN 0 x62)).1) (icv .i64 (iquo IntKind.i32 n 2))) 0)) (subR sR y1 (idxN 0 x62) (subN (iadd .i64 x62 1) x62))))) [] [], isB (notB (samF (rdL (wK (subR sR y1 (idxN 0 x62) (subN (iadd .i64 x62 1) x62))) (wS (subR sR y1 (idxN 0 x62) (subN (iadd .i64 x62 1) x62))) (imax (isub .i64 ((getR sR y1 (idxN 0 x62)).1) (icv .i64 (iquo IntKind.i32 n 2))) 0)) (subR sR y1 (idxN 0 x62) (subN (iadd .i64 x62 1) x62)))) true] (by kernel_rfl) (.cons d0 (.cons (s0) (.cons (s1) (.cons (by apply k35) (.cons (by show _ = _; kernel_rfl) (.cons (s2) (.cons (s3) (.cons (by first | decide | simp [nz, nn, inB, ltN, leN, eqN, eqZ, inC, zOk, growN, fitN]) (.cons (by apply g37n) (.cons d1 (.cons d2 (.cons (s0) (.cons (s1) (.cons (by apply g26e <;> (first | exact (s4))) (.cons d3 .nil)))))))))))))))
theorem L7b_4 (l : List (El sR)) (n : Int) (x9 : Int) (x61 : Int) (y1 : List (El sR)) (y2 : Int) (y2_1 : ByteArray) (x62 : Int)  (d0 : (ilt x62 x61) = true) (d1 : (ine (wE (subR sR y1 (idxN 0 x62) (subN (iadd .i64 x62 1) x62))) 0) = false) (d2 : (ine (rdE (wK (subR sR y1 (idxN 0 x62) (subN (iadd .i64 x62 1) x62))) (wS (subR sR y1 (idxN 0 x62) (subN (iadd .i64 x62 1) x62))) (imax (isub .i64 ((getR sR y1 (idxN 0 x62)).1) (icv .i64 (iquo IntKind.i32 n 2))) 0)) 0) = false) (d3 : (notB (samF (rdL (wK (subR sR y1 (idxN 0 x62) (subN (iadd .i64 x62 1) x62))) (wS (subR sR y1 (idxN 0 x62) (subN (iadd .i64 x62 1) x62))) (imax (isub .i64 ((getR sR y1 (idxN 0 x62)).1) (icv .i64 (iquo IntKind.i32 n 2))) 0)) (subR sR y1 (idxN 0 x62) (subN (iadd .i64 x62 1) x62)))) = false) (s0 : inC x62 (iadd .i64 x62 1) (nlen (lenR sR y1))) (s1 : leN ((idxN 0 x62) + (subN (iadd .i64 x62 1) x62)) (lenR sR y1)) (s2 : inB x62 (lenR sR y1)) (s3 : ltN (idxN 0 x62) (lenR sR y1)) (s4 : (smR (rdL (wK (subR sR y1 (idxN 0 x62) (subN (iadd .i64 x62 1) x62))) (wS (subR sR y1 (idxN 0 x62) (subN (iadd .i64 x62 1) x62))) (imax (isub .i64 ((getR sR y1 (idxN 0 x62)).1) (icv .i64 (iquo IntKind.i32 n 2))) 0))) = true) {e : AExit} {tm2 : Tm} {h2 : List AObj} (b : ARun Try.prog 1 (.loop (lp Try.f7 1)) (L7bS l n  (x9) (x61) (y1) (y2) (y2_1) (iadd .i64 x62 1)) (L7bH l n  (x9) (x61) (y1) (y2) (y2_1) (iadd .i64 x62 1)) e tm2 h2) : ARun Try.prog 1 (.loop (lp Try.f7 1)) (L7bS l n  x9 x61 y1 y2 y2_1 x62) (L7bH l n  x9 x61 y1 y2 y2_1 x62) e tm2 h2 :=
  .round [Orc.br true, Orc.call [3] (AV.tup [AV.agg [AV.v (.int .i64 (wK (subR sR y1 (idxN 0 x62) (subN (iadd .i64 x62 1) x62)))), AV.v (Value.slice none 0 0), AV.v (Value.string (wS (subR sR y1 (idxN 0 x62) (subN (iadd .i64 x62 1) x62))))], AV.v (.int .i64 (wE (subR sR y1 (idxN 0 x62) (subN (iadd .i64 x62 1) x62))))]) [] [], Orc.call [] (AV.tup [AV.sw 0 2, AV.v (.int .i64 (rdE (wK (subR sR y1 (idxN 0 x62) (subN (iadd .i64 x62 1) x62))) (wS (subR sR y1 (idxN 0 x62) (subN (iadd .i64 x62 1) x62))) (imax (isub .i64 ((getR sR y1 (idxN 0 x62)).1) (icv .i64 (iquo IntKind.i32 n 2))) 0)))]) [] [AObj.rows true sR (rdL (wK (subR sR y1 (idxN 0 x62) (subN (iadd .i64 x62 1) x62))) (wS (subR sR y1 (idxN 0 x62) (subN (iadd .i64 x62 1) x62))) (imax (isub .i64 ((getR sR y1 (idxN 0 x62)).1) (icv .i64 (iquo IntKind.i32 n 2))) 0))], Orc.br false, Orc.br false, Orc.call [5, 6] (AV.v (Value.bool (samF (rdL (wK (subR sR y1 (idxN 0 x62) (subN (iadd .i64 x62 1) x62))) (wS (subR sR y1 (idxN 0 x62) (subN (iadd .i64 x62 1) x62))) (imax (isub .i64 ((getR sR y1 (idxN 0 x62)).1) (icv .i64 (iquo IntKind.i32 n 2))) 0)) (subR sR y1 (idxN 0 x62) (subN (iadd .i64 x62 1) x62))))) [] [], Orc.br false] [1, 4, 5, 8, 9, 61, 62] [0, 1, 2] [isB (ilt x62 x61) true, inC x62 (iadd .i64 x62 1) (nlen (lenR sR y1)), leN ((idxN 0 x62) + (subN (iadd .i64 x62 1) x62)) (lenR sR y1), ACalls Try.prog 35 [AV.sw 0 2] [AObj.rows false sR (subR sR y1 (idxN 0 x62) (subN (iadd .i64 x62 1) x62))] (AV.tup [AV.agg [AV.v (.int .i64 (wK (subR sR y1 (idxN 0 x62) (subN (iadd .i64 x62 1) x62)))), AV.v (Value.slice none 0 0), AV.v (Value.string (wS (subR sR y1 (idxN 0 x62) (subN (iadd .i64 x62 1) x62))))], AV.v (.int .i64 (wE (subR sR y1 (idxN 0 x62) (subN (iadd .i64 x62 1) x62))))]) [] [], Mixed Try.prog, inB x62 (lenR sR y1), ltN (idxN 0 x62) (lenR sR y1), nz 2, ACalls Try.prog 37 [AV.agg [AV.v (.int .i64 (wK (subR sR y1 (idxN 0 x62) (subN (iadd .i64 x62 1) x62)))), AV.v (Value.slice none 0 0), AV.v (Value.string (wS (subR sR y1 (idxN 0 x62) (subN (iadd .i64 x62 1) x62))))], AV.v (.int .i64 (imax (isub .i64 ((getR sR y1 (idxN 0 x62)).1) (icv .i64 (iquo IntKind.i32 n 2))) 0))] [] (AV.tup [AV.sw 0 2, AV.v (.int .i64 (rdE (wK (subR sR y1 (idxN 0 x62) (subN (iadd .i64 x62 1) x62))) (wS (subR sR y1 (idxN 0 x62) (subN (iadd .i64 x62 1) x62))) (imax (isub .i64 ((getR sR y1 (idxN 0 x62)).1) (icv .i64 (iquo IntKind.i32 n 2))) 0)))]) [] [AObj.rows true sR (rdL (wK (subR sR y1 (idxN 0 x62) (subN (iadd .i64 x62 1) x62))) (wS (subR sR y1 (idxN 0 x62) (subN (iadd .i64 x62 1) x62))) (imax (isub .i64 ((getR sR y1 (idxN 0 x62)).1) (icv .i64 (iquo IntKind.i32 n 2))) 0))], isB (ine (wE (subR sR y1 (idxN 0 x62) (subN (iadd .i64 x62 1) x62))) 0) false, isB (ine (rdE (wK (subR sR y1 (idxN 0 x62) (subN (iadd .i64 x62 1) x62))) (wS (subR sR y1 (idxN 0 x62) (subN (iadd .i64 x62 1) x62))) (imax (isub .i64 ((getR sR y1 (idxN 0 x62)).1) (icv .i64 (iquo IntKind.i32 n 2))) 0)) 0) false, inC x62 (iadd .i64 x62 1) (nlen (lenR sR y1)), leN ((idxN 0 x62) + (subN (iadd .i64 x62 1) x62)) (lenR sR y1), ACalls Try.prog 26 [AV.sw 0 2, AV.sw 1 2] [AObj.rows true sR (rdL (wK (subR sR y1 (idxN 0 x62) (subN (iadd .i64 x62 1) x62))) (wS (subR sR y1 (idxN 0 x62) (subN (iadd .i64 x62 1) x62))) (imax (isub .i64 ((getR sR y1 (idxN 0 x62)).1) (icv .i64 (iquo IntKind.i32 n 2))) 0)), AObj.rows false sR (subR sR y1 (idxN 0 x62) (subN (iadd .i64 x62 1) x62))] (AV.v (Value.bool (samF (rdL (wK (subR sR y1 (idxN 0 x62) (subN (iadd .i64 x62 1) x62))) (wS (subR sR y1 (idxN 0 x62) (subN (iadd .i64 x62 1) x62))) (imax (isub .i64 ((getR sR y1 (idxN 0 x62)).1) (icv .i64 (iquo IntKind.i32 n 2))) 0)) (subR sR y1 (idxN 0 x62) (subN (iadd .i64 x62 1) x62))))) [] [], isB (notB (samF (rdL (wK (subR sR y1 (idxN 0 x62) (subN (iadd .i64 x62 1) x62))) (wS (subR sR y1 (idxN 0 x62) (subN (iadd .i64 x62 1) x62))) (imax (isub .i64 ((getR sR y1 (idxN 0 x62)).1) (icv .i64 (iquo IntKind.i32 n 2))) 0)) (subR sR y1 (idxN 0 x62) (subN (iadd .i64 x62 1) x62)))) false] (by kernel_rfl) (.cons d0 (.cons (s0) (.cons (s1) (.cons (by apply k35) (.cons (by show _ = _; kernel_rfl) (.cons (s2) (.cons (s3) (.cons (by first | decide | simp [nz, nn, inB, ltN, leN, eqN, eqZ, inC, zOk, growN, fitN]) (.cons (by apply g37n) (.cons d1 (.cons d2 (.cons (s0) (.cons (s1) (.cons (by apply g26e <;> (first | exact (s4))) (.cons d3 .nil))))))))))))))) b
theorem L7b_5 (l : List (El sR)) (n : Int) (x9 : Int) (x61 : Int) (y1 : List (El sR)) (y2 : Int) (y2_1 : ByteArray) (x62 : Int)  (d0 : (ilt x62 x61) = false) : ARun Try.prog 1 (.loop (lp Try.f7 1)) (L7bS l n  x9 x61 y1 y2 y2_1 x62) (L7bH l n  x9 x61 y1 y2 y2_1 x62) (AExit.exit 2) (L7bT1 l n  (x9) (y1) (y2) (y2_1)) (L7bU1 l n  (x9) (y1) (y2) (y2_1)) :=
  .last [Orc.br false] [4, 5, 8, 9] [0, 1, 2] [isB (ilt x62 x61) false] (by kernel_rfl) (.cons d0 .nil)
def L7bB (l : List (El sR)) (n : Int) (x9 : Int) (x61 : Int) (y1 : List (El sR)) (y2 : Int) (y2_1 : ByteArray) (x62 : Int) : Option (((Int) × (Int) × (List (El sR)) × (Int) × (ByteArray) × (Int)) ⊕ (Nat × (Int) × (List (El sR)) × (Int) × (ByteArray) × (Int) × (List (El sR)) × (Int) × (ByteArray))) := (bif ilt x62 x61 then (bif ine (wE (subR sR y1 (idxN 0 x62) (subN (iadd .i64 x62 1) x62))) 0 then bif decide (inC x62 (iadd .i64 x62 1) (nlen (lenR sR y1))) then bif decide (leN ((idxN 0 x62) + (subN (iadd .i64 x62 1) x62)) (lenR sR y1)) then bif decide (inB x62 (lenR sR y1)) then bif decide (ltN (idxN 0 x62) (lenR sR y1)) then some (.inr (0, x9, y1, y2, y2_1, 0, [], 0, ByteArray.empty)) else none else none else none else none else (bif ine (rdE (wK (subR sR y1 (idxN 0 x62) (subN (iadd .i64 x62 1) x62))) (wS (subR sR y1 (idxN 0 x62) (subN (iadd .i64 x62 1) x62))) (imax (isub .i64 ((getR sR y1 (idxN 0 x62)).1) (icv .i64 (iquo IntKind.i32 n 2))) 0)) 0 then bif decide (inC x62 (iadd .i64 x62 1) (nlen (lenR sR y1))) then bif decide (leN ((idxN 0 x62) + (subN (iadd .i64 x62 1) x62)) (lenR sR y1)) then bif decide (inB x62 (lenR sR y1)) then bif decide (ltN (idxN 0 x62) (lenR sR y1)) then some (.inr (0, x9, y1, y2, y2_1, 0, [], 0, ByteArray.empty)) else none else none else none else none else (bif notB (samF (rdL (wK (subR sR y1 (idxN 0 x62) (subN (iadd .i64 x62 1) x62))) (wS (subR sR y1 (idxN 0 x62) (subN (iadd .i64 x62 1) x62))) (imax (isub .i64 ((getR sR y1 (idxN 0 x62)).1) (icv .i64 (iquo IntKind.i32 n 2))) 0)) (subR sR y1 (idxN 0 x62) (subN (iadd .i64 x62 1) x62))) then bif decide (inC x62 (iadd .i64 x62 1) (nlen (lenR sR y1))) then bif decide (leN ((idxN 0 x62) + (subN (iadd .i64 x62 1) x62)) (lenR sR y1)) then bif decide (inB x62 (lenR sR y1)) then bif decide (ltN (idxN 0 x62) (lenR sR y1)) then bif decide ((smR (rdL (wK (subR sR y1 (idxN 0 x62) (subN (iadd .i64 x62 1) x62))) (wS (subR sR y1 (idxN 0 x62) (subN (iadd .i64 x62 1) x62))) (imax (isub .i64 ((getR sR y1 (idxN 0 x62)).1) (icv .i64 (iquo IntKind.i32 n 2))) 0))) = true) then some (.inr (0, x9, y1, y2, y2_1, 0, [], 0, ByteArray.empty)) else none else none else none else none else none else bif decide (inC x62 (iadd .i64 x62 1) (nlen (lenR sR y1))) then bif decide (leN ((idxN 0 x62) + (subN (iadd .i64 x62 1) x62)) (lenR sR y1)) then bif decide (inB x62 (lenR sR y1)) then bif decide (ltN (idxN 0 x62) (lenR sR y1)) then bif decide ((smR (rdL (wK (subR sR y1 (idxN 0 x62) (subN (iadd .i64 x62 1) x62))) (wS (subR sR y1 (idxN 0 x62) (subN (iadd .i64 x62 1) x62))) (imax (isub .i64 ((getR sR y1 (idxN 0 x62)).1) (icv .i64 (iquo IntKind.i32 n 2))) 0))) = true) then some (.inl (x9, x61, y1, y2, y2_1, iadd .i64 x62 1)) else none else none else none else none else none))) else some (.inr (1, 0, [], 0, ByteArray.empty, x9, y1, y2, y2_1)))
def L7bL (l : List (El sR)) (n : Int) : Nat → Int → Int → List (El sR) → Int → ByteArray → Int → Option (Nat × (Int) × (List (El sR)) × (Int) × (ByteArray) × (Int) × (List (El sR)) × (Int) × (ByteArray))
  | 0, _, _, _, _, _, _ => none
  | fuel + 1, x9, x61, y1, y2, y2_1, x62 => match L7bB l n  x9 x61 y1 y2 y2_1 x62 with
    | none => none
    | some (.inl s) => L7bL l n fuel s.1 s.2.1 s.2.2.1 s.2.2.2.1 s.2.2.2.2.1 s.2.2.2.2.2
    | some (.inr o) => some o
def L7bK (l : List (El sR)) (n : Int) (fuel : Nat) : Option (((Int) × (Int) × (List (El sR)) × (Int) × (ByteArray) × (Int)) ⊕ (Nat × (Int) × (List (El sR)) × (Int) × (ByteArray) × (Int) × (List (El sR)) × (Int) × (ByteArray))) → Option (Nat × (Int) × (List (El sR)) × (Int) × (ByteArray) × (Int) × (List (El sR)) × (Int) × (ByteArray))
  | none => none
  | some (.inl s) => L7bL l n fuel s.1 s.2.1 s.2.2.1 s.2.2.2.1 s.2.2.2.2.1 s.2.2.2.2.2
  | some (.inr o) => some o
theorem L7bLK (l : List (El sR)) (n : Int) (fuel : Nat) (x9 : Int) (x61 : Int) (y1 : List (El sR)) (y2 : Int) (y2_1 : ByteArray) (x62 : Int) : L7bL l n (fuel + 1)  x9 x61 y1 y2 y2_1 x62 = L7bK l n fuel (L7bB l n  x9 x61 y1 y2 y2_1 x62) := by
  rw [L7bL]; cases L7bB l n  x9 x61 y1 y2 y2_1 x62 with
  | none => rfl
  | some v => cases v <;> rfl
theorem L7bP0 (l : List (El sR)) (n : Int) (fuel : Nat) (ih : ∀ (x9 : Int) (x61 : Int) (y1 : List (El sR)) (y2 : Int) (y2_1 : ByteArray) (x62 : Int) (o0 : Int) (o1 : List (El sR)) (o2 : Int) (o3 : ByteArray) (_ : L7bL l n fuel  x9 x61 y1 y2 y2_1 x62 = some (0, o0, o1, o2, o3, 0, [], 0, ByteArray.empty)), ARun Try.prog 1 (.loop (lp Try.f7 1)) (L7bS l n  x9 x61 y1 y2 y2_1 x62) (L7bH l n  x9 x61 y1 y2 y2_1 x62) (AExit.ret) (L7bT0 l n  o0 o1 o2 o3) (L7bU0 l n  o0 o1 o2 o3)) (x9 : Int) (x61 : Int) (y1 : List (El sR)) (y2 : Int) (y2_1 : ByteArray) (x62 : Int) (o0 : Int) (o1 : List (El sR)) (o2 : Int) (o3 : ByteArray) (h : L7bK l n fuel (L7bB l n  x9 x61 y1 y2 y2_1 x62) = some (0, o0, o1, o2, o3, 0, [], 0, ByteArray.empty)) : ARun Try.prog 1 (.loop (lp Try.f7 1)) (L7bS l n  x9 x61 y1 y2 y2_1 x62) (L7bH l n  x9 x61 y1 y2 y2_1 x62) (AExit.ret) (L7bT0 l n  o0 o1 o2 o3) (L7bU0 l n  o0 o1 o2 o3) := by
  unfold L7bB at h
  exact (splitK h (fun d0 h => (splitK h (fun d1 h => (chkK rfl h (fun s0 h => chkK rfl h (fun s1 h => chkK rfl h (fun s2 h => chkK rfl h (fun s3 h => (by cases h; exact L7b_1 l n  x9 x61 y1 y2 y2_1 x62 d0 d1 s0 s1 s2 s3))))))) (fun d1 h => (splitK h (fun d2 h => (chkK rfl h (fun s0 h => chkK rfl h (fun s1 h => chkK rfl h (fun s2 h => chkK rfl h (fun s3 h => (by cases h; exact L7b_2 l n  x9 x61 y1 y2 y2_1 x62 d0 d1 d2 s0 s1 s2 s3))))))) (fun d2 h => (splitK h (fun d3 h => (chkK rfl h (fun s0 h => chkK rfl h (fun s1 h => chkK rfl h (fun s2 h => chkK rfl h (fun s3 h => chkK rfl h (fun s4 h => (by cases h; exact L7b_3 l n  x9 x61 y1 y2 y2_1 x62 d0 d1 d2 d3 s0 s1 s2 s3 s4)))))))) (fun d3 h => (chkK rfl h (fun s0 h => chkK rfl h (fun s1 h => chkK rfl h (fun s2 h => chkK rfl h (fun s3 h => chkK rfl h (fun s4 h => L7b_4 l n  x9 x61 y1 y2 y2_1 x62 d0 d1 d2 d3 s0 s1 s2 s3 s4 (ih (x9) (x61) (y1) (y2) (y2_1) (iadd .i64 x62 1) o0 o1 o2 o3 h)))))))))))))) (fun d0 h => ((by cases h))))
theorem L7b0 (l : List (El sR)) (n : Int) : ∀ (fuel : Nat) (x9 : Int) (x61 : Int) (y1 : List (El sR)) (y2 : Int) (y2_1 : ByteArray) (x62 : Int) (o0 : Int) (o1 : List (El sR)) (o2 : Int) (o3 : ByteArray) (_ : L7bL l n  fuel  x9 x61 y1 y2 y2_1 x62 = some (0, o0, o1, o2, o3, 0, [], 0, ByteArray.empty)), ARun Try.prog 1 (.loop (lp Try.f7 1)) (L7bS l n  x9 x61 y1 y2 y2_1 x62) (L7bH l n  x9 x61 y1 y2 y2_1 x62) (AExit.ret) (L7bT0 l n  o0 o1 o2 o3) (L7bU0 l n  o0 o1 o2 o3)
  | 0, _, _, _, _, _, _, _, _, _, _, h => by cases h
  | fuel + 1, x9, x61, y1, y2, y2_1, x62, o0, o1, o2, o3, h => L7bP0 l n fuel (L7b0 l n fuel)  x9 x61 y1 y2 y2_1 x62  o0 o1 o2 o3 (by rw [L7bLK] at h; exact h)
theorem L7bP1 (l : List (El sR)) (n : Int) (fuel : Nat) (ih : ∀ (x9 : Int) (x61 : Int) (y1 : List (El sR)) (y2 : Int) (y2_1 : ByteArray) (x62 : Int) (o4 : Int) (o5 : List (El sR)) (o6 : Int) (o7 : ByteArray) (_ : L7bL l n fuel  x9 x61 y1 y2 y2_1 x62 = some (1, 0, [], 0, ByteArray.empty, o4, o5, o6, o7)), ARun Try.prog 1 (.loop (lp Try.f7 1)) (L7bS l n  x9 x61 y1 y2 y2_1 x62) (L7bH l n  x9 x61 y1 y2 y2_1 x62) (AExit.exit 2) (L7bT1 l n  o4 o5 o6 o7) (L7bU1 l n  o4 o5 o6 o7)) (x9 : Int) (x61 : Int) (y1 : List (El sR)) (y2 : Int) (y2_1 : ByteArray) (x62 : Int) (o4 : Int) (o5 : List (El sR)) (o6 : Int) (o7 : ByteArray) (h : L7bK l n fuel (L7bB l n  x9 x61 y1 y2 y2_1 x62) = some (1, 0, [], 0, ByteArray.empty, o4, o5, o6, o7)) : ARun Try.prog 1 (.loop (lp Try.f7 1)) (L7bS l n  x9 x61 y1 y2 y2_1 x62) (L7bH l n  x9 x61 y1 y2 y2_1 x62) (AExit.exit 2) (L7bT1 l n  o4 o5 o6 o7) (L7bU1 l n  o4 o5 o6 o7) := by
  unfold L7bB at h
  exact (splitK h (fun d0 h => (splitK h (fun d1 h => (chkK rfl h (fun s0 h => chkK rfl h (fun s1 h => chkK rfl h (fun s2 h => chkK rfl h (fun s3 h => (by cases h))))))) (fun d1 h => (splitK h (fun d2 h => (chkK rfl h (fun s0 h => chkK rfl h (fun s1 h => chkK rfl h (fun s2 h => chkK rfl h (fun s3 h => (by cases h))))))) (fun d2 h => (splitK h (fun d3 h => (chkK rfl h (fun s0 h => chkK rfl h (fun s1 h => chkK rfl h (fun s2 h => chkK rfl h (fun s3 h => chkK rfl h (fun s4 h => (by cases h)))))))) (fun d3 h => (chkK rfl h (fun s0 h => chkK rfl h (fun s1 h => chkK rfl h (fun s2 h => chkK rfl h (fun s3 h => chkK rfl h (fun s4 h => L7b_4 l n  x9 x61 y1 y2 y2_1 x62 d0 d1 d2 d3 s0 s1 s2 s3 s4 (ih (x9) (x61) (y1) (y2) (y2_1) (iadd .i64 x62 1) o4 o5 o6 o7 h)))))))))))))) (fun d0 h => ((by cases h; exact L7b_5 l n  x9 x61 y1 y2 y2_1 x62 d0))))
theorem L7b1 (l : List (El sR)) (n : Int) : ∀ (fuel : Nat) (x9 : Int) (x61 : Int) (y1 : List (El sR)) (y2 : Int) (y2_1 : ByteArray) (x62 : Int) (o4 : Int) (o5 : List (El sR)) (o6 : Int) (o7 : ByteArray) (_ : L7bL l n  fuel  x9 x61 y1 y2 y2_1 x62 = some (1, 0, [], 0, ByteArray.empty, o4, o5, o6, o7)), ARun Try.prog 1 (.loop (lp Try.f7 1)) (L7bS l n  x9 x61 y1 y2 y2_1 x62) (L7bH l n  x9 x61 y1 y2 y2_1 x62) (AExit.exit 2) (L7bT1 l n  o4 o5 o6 o7) (L7bU1 l n  o4 o5 o6 o7)
  | 0, _, _, _, _, _, _, _, _, _, _, h => by cases h
  | fuel + 1, x9, x61, y1, y2, y2_1, x62, o4, o5, o6, o7, h => L7bP1 l n fuel (L7b1 l n fuel)  x9 x61 y1 y2 y2_1 x62  o4 o5 o6 o7 (by rw [L7bLK] at h; exact h)
def f7r0 (l : List (El sR)) (n : Int) (L7a_0_fuel : Nat) (L7a_0_o0 : List (El sR)) (L7b0_1_c : Nat) (L7b0_1_fuel : Nat) (L7b0_1_o0 : Int) (L7b0_1_o1 : List (El sR)) (L7b0_1_o2 : Int) (L7b0_1_o3 : ByteArray) (L7b0_1_fuel1 : Nat) (L7b0_1_o41 : Int) (L7b0_1_o51 : List (El sR)) (L7b0_1_o61 : Int) (L7b0_1_o71 : ByteArray) : Bool := bif (ieq (nlen (lenR sR L7a_0_o0)) 0) then (bif (ieq (wE L7a_0_o0) 1) then true else false) else (bif (Nat.beq L7b0_1_c 0) then false else (bif (ieq L7b0_1_o41 0) then (bif (ieq (slen L7b0_1_o71) (imul .i64 8 (nlen (lenR sR L7b0_1_o51)))) then true else false) else false))
theorem f7_1 (l : List (El sR)) (n : Int) (L7a_0_fuel : Nat) (L7a_0_o0 : List (El sR))  (d0 : (ieq (nlen (lenR sR L7a_0_o0)) 0) = true) (d1 : (ieq (wE L7a_0_o0) 1) = true) (L7a_0_h0 : (L7aL l n L7a_0_fuel 0 []) = (some L7a_0_o0)) : ACalls Try.prog 7 [AV.sw 0 2, AV.v (.int .i32 n)] [AObj.rows false sR l] (AV.v (Value.bool true)) [] [] :=
  ACalls.nb (res := AV.v (Value.bool true)) (.of_out [Orc.fin (Gh.nil 5 2 (AObj.rows true sR [])), Orc.loop [0, 1, 4, 5, 6] [0, 1] (AExit.exit 0) (tg [(1, AV.v (.int .i32 n)), (2, AV.v (Value.bool false)), (0, AV.sw 1 2)] 114) [AObj.rows false sR l, AObj.rows true sR L7a_0_o0], Orc.call [1] (AV.tup [AV.agg [AV.v (.int .i64 (wK L7a_0_o0)), AV.v (Value.slice none 0 0), AV.v (Value.string (wS L7a_0_o0))], AV.v (.int .i64 (wE L7a_0_o0))]) [] [], Orc.br true, Orc.br true, Orc.call [] (AV.v (Value.bool true)) [] []] [0] [_, ACalls Try.prog 35 [AV.sw 0 2] [AObj.rows true sR L7a_0_o0] (AV.tup [AV.agg [AV.v (.int .i64 (wK L7a_0_o0)), AV.v (Value.slice none 0 0), AV.v (Value.string (wS L7a_0_o0))], AV.v (.int .i64 (wE L7a_0_o0))]) [] [], isB (ieq (nlen (lenR sR L7a_0_o0)) 0) true, isB (ieq (wE L7a_0_o0) 1) true, ACalls Try.prog 20 [] [] (AV.v (Value.bool true)) [] []] Try.func7 (by kernel_rfl) (by kernel_rfl) (.cons (L7a _ _ _ _ _ _ (L7a_0_h0)) (.cons (by apply k35) (.cons d0 (.cons d1 (.cons (by apply f20) .nil))))))
theorem f7_2 (l : List (El sR)) (n : Int) (L7a_0_fuel : Nat) (L7a_0_o0 : List (El sR))  (d0 : (ieq (nlen (lenR sR L7a_0_o0)) 0) = true) (d1 : (ieq (wE L7a_0_o0) 1) = false) (L7a_0_h0 : (L7aL l n L7a_0_fuel 0 []) = (some L7a_0_o0)) : ACalls Try.prog 7 [AV.sw 0 2, AV.v (.int .i32 n)] [AObj.rows false sR l] (AV.v (Value.bool false)) [] [] :=
  ACalls.nb (res := AV.v (Value.bool false)) (.of_out [Orc.fin (Gh.nil 5 2 (AObj.rows true sR [])), Orc.loop [0, 1, 4, 5, 6] [0, 1] (AExit.exit 0) (tg [(1, AV.v (.int .i32 n)), (2, AV.v (Value.bool false)), (0, AV.sw 1 2)] 114) [AObj.rows false sR l, AObj.rows true sR L7a_0_o0], Orc.call [1] (AV.tup [AV.agg [AV.v (.int .i64 (wK L7a_0_o0)), AV.v (Value.slice none 0 0), AV.v (Value.string (wS L7a_0_o0))], AV.v (.int .i64 (wE L7a_0_o0))]) [] [], Orc.br true, Orc.br false] [0] [_, ACalls Try.prog 35 [AV.sw 0 2] [AObj.rows true sR L7a_0_o0] (AV.tup [AV.agg [AV.v (.int .i64 (wK L7a_0_o0)), AV.v (Value.slice none 0 0), AV.v (Value.string (wS L7a_0_o0))], AV.v (.int .i64 (wE L7a_0_o0))]) [] [], isB (ieq (nlen (lenR sR L7a_0_o0)) 0) true, isB (ieq (wE L7a_0_o0) 1) false] Try.func7 (by kernel_rfl) (by kernel_rfl) (.cons (L7a _ _ _ _ _ _ (L7a_0_h0)) (.cons (by apply k35) (.cons d0 (.cons d1 .nil)))))
theorem f7_3 (l : List (El sR)) (n : Int) (L7a_0_fuel : Nat) (L7a_0_o0 : List (El sR)) (L7b0_1_c : Nat) (L7b0_1_fuel : Nat) (L7b0_1_o0 : Int) (L7b0_1_o1 : List (El sR)) (L7b0_1_o2 : Int) (L7b0_1_o3 : ByteArray)  (d0 : (ieq (nlen (lenR sR L7a_0_o0)) 0) = false) (d1 : (Nat.beq L7b0_1_c 0) = true) (L7a_0_h0 : (L7aL l n L7a_0_fuel 0 []) = (some L7a_0_o0)) (L7b0_1_h0 : ((ieq (nlen (lenR sR L7a_0_o0)) 0) = false) → ((Nat.beq L7b0_1_c 0) = true) → (L7bL l n L7b0_1_fuel (wE L7a_0_o0) (nlen (lenR sR L7a_0_o0)) L7a_0_o0 (wK L7a_0_o0) (wS L7a_0_o0) 0) = (some (0, L7b0_1_o0, L7b0_1_o1, L7b0_1_o2, L7b0_1_o3, 0, [], 0, ByteArray.empty))) : ACalls Try.prog 7 [AV.sw 0 2, AV.v (.int .i32 n)] [AObj.rows false sR l] (AV.v (Value.bool false)) [] [] :=
  ACalls.nb (res := AV.v (Value.bool false)) (.of_out [Orc.fin (Gh.nil 5 2 (AObj.rows true sR [])), Orc.loop [0, 1, 4, 5, 6] [0, 1] (AExit.exit 0) (tg [(1, AV.v (.int .i32 n)), (2, AV.v (Value.bool false)), (0, AV.sw 1 2)] 114) [AObj.rows false sR l, AObj.rows true sR L7a_0_o0], Orc.call [1] (AV.tup [AV.agg [AV.v (.int .i64 (wK L7a_0_o0)), AV.v (Value.slice none 0 0), AV.v (Value.string (wS L7a_0_o0))], AV.v (.int .i64 (wE L7a_0_o0))]) [] [], Orc.br false, Orc.fin (Gh.freeze 1), Orc.loop [1, 4, 5, 8, 9, 61, 62] [0, 1, 2] AExit.ret (tg [(4, AV.v (Value.bool false)), (0, AV.sw 1 2), (2, AV.ptr 2 0), (0, AV.v (.int .i64 L7b0_1_o0))] 110) [AObj.rows false sR l, AObj.rows false sR L7b0_1_o1, AObj.cells 0 true [AV.v (.int .i64 L7b0_1_o2), AV.v (Value.slice none 0 0), AV.v (Value.string L7b0_1_o3)]]] [0] [_, ACalls Try.prog 35 [AV.sw 0 2] [AObj.rows true sR L7a_0_o0] (AV.tup [AV.agg [AV.v (.int .i64 (wK L7a_0_o0)), AV.v (Value.slice none 0 0), AV.v (Value.string (wS L7a_0_o0))], AV.v (.int .i64 (wE L7a_0_o0))]) [] [], isB (ieq (nlen (lenR sR L7a_0_o0)) 0) false, _] Try.func7 (by kernel_rfl) (by kernel_rfl) (.cons (L7a _ _ _ _ _ _ (L7a_0_h0)) (.cons (by apply k35) (.cons d0 (.cons (L7b0 _ _ _ _ _ _ _ _ _ _ _ _ _ (L7b0_1_h0 d0 d1)) .nil)))))
theorem f7_4 (l : List (El sR)) (n : Int) (L7a_0_fuel : Nat) (L7a_0_o0 : List (El sR)) (L7b0_1_c : Nat) (L7b0_1_fuel1 : Nat) (L7b0_1_o41 : Int) (L7b0_1_o51 : List (El sR)) (L7b0_1_o61 : Int) (L7b0_1_o71 : ByteArray)  (d0 : (ieq (nlen (lenR sR L7a_0_o0)) 0) = false) (d1 : (Nat.beq L7b0_1_c 0) = false) (d2 : (ieq L7b0_1_o41 0) = true) (d3 : (ieq (slen L7b0_1_o71) (imul .i64 8 (nlen (lenR sR L7b0_1_o51)))) = true) (L7a_0_h0 : (L7aL l n L7a_0_fuel 0 []) = (some L7a_0_o0)) (L7b0_1_h1 : ((ieq (nlen (lenR sR L7a_0_o0)) 0) = false) → ((Nat.beq L7b0_1_c 0) = false) → (L7bL l n L7b0_1_fuel1 (wE L7a_0_o0) (nlen (lenR sR L7a_0_o0)) L7a_0_o0 (wK L7a_0_o0) (wS L7a_0_o0) 0) = (some (1, 0, [], 0, ByteArray.empty, L7b0_1_o41, L7b0_1_o51, L7b0_1_o61, L7b0_1_o71))) : ACalls Try.prog 7 [AV.sw 0 2, AV.v (.int .i32 n)] [AObj.rows false sR l] (AV.v (Value.bool true)) [] [] :=
  ACalls.nb (res := AV.v (Value.bool true)) (.of_out [Orc.fin (Gh.nil 5 2 (AObj.rows true sR [])), Orc.loop [0, 1, 4, 5, 6] [0, 1] (AExit.exit 0) (tg [(1, AV.v (.int .i32 n)), (2, AV.v (Value.bool false)), (0, AV.sw 1 2)] 114) [AObj.rows false sR l, AObj.rows true sR L7a_0_o0], Orc.call [1] (AV.tup [AV.agg [AV.v (.int .i64 (wK L7a_0_o0)), AV.v (Value.slice none 0 0), AV.v (Value.string (wS L7a_0_o0))], AV.v (.int .i64 (wE L7a_0_o0))]) [] [], Orc.br false, Orc.fin (Gh.freeze 1), Orc.loop [1, 4, 5, 8, 9, 61, 62] [0, 1, 2] (AExit.exit 2) (tg [(4, AV.v (Value.bool false)), (0, AV.sw 1 2), (2, AV.ptr 2 0), (0, AV.v (.int .i64 L7b0_1_o41))] 110) [AObj.rows false sR l, AObj.rows false sR L7b0_1_o51, AObj.cells 0 true [AV.v (.int .i64 L7b0_1_o61), AV.v (Value.slice none 0 0), AV.v (Value.string L7b0_1_o71)]], Orc.br true, Orc.br true, Orc.call [] (AV.v (Value.bool true)) [] []] [0] [_, ACalls Try.prog 35 [AV.sw 0 2] [AObj.rows true sR L7a_0_o0] (AV.tup [AV.agg [AV.v (.int .i64 (wK L7a_0_o0)), AV.v (Value.slice none 0 0), AV.v (Value.string (wS L7a_0_o0))], AV.v (.int .i64 (wE L7a_0_o0))]) [] [], isB (ieq (nlen (lenR sR L7a_0_o0)) 0) false, _, isB (ieq L7b0_1_o41 0) true, isB (ieq (slen L7b0_1_o71) (imul .i64 8 (nlen (lenR sR L7b0_1_o51)))) true, ACalls Try.prog 20 [] [] (AV.v (Value.bool true)) [] []] Try.func7 (by kernel_rfl) (by kernel_rfl) (.cons (L7a _ _ _ _ _ _ (L7a_0_h0)) (.cons (by apply k35) (.cons d0 (.cons (L7b1 _ _ _ _ _ _ _ _ _ _ _ _ _ (L7b0_1_h1 d0 d1)) (.cons d2 (.cons d3 (.cons (by apply f20) .nil))))))))
theorem f7_5 (l : List (El sR)) (n : Int) (L7a_0_fuel : Nat) (L7a_0_o0 : List (El sR)) (L7b0_1_c : Nat) (L7b0_1_fuel1 : Nat) (L7b0_1_o41 : Int) (L7b0_1_o51 : List (El sR)) (L7b0_1_o61 : Int) (L7b0_1_o71 : ByteArray)  (d0 : (ieq (nlen (lenR sR L7a_0_o0)) 0) = false) (d1 : (Nat.beq L7b0_1_c 0) = false) (d2 : (ieq L7b0_1_o41 0) = true) (d3 : (ieq (slen L7b0_1_o71) (imul .i64 8 (nlen (lenR sR L7b0_1_o51)))) = false) (L7a_0_h0 : (L7aL l n L7a_0_fuel 0 []) = (some L7a_0_o0)) (L7b0_1_h1 : ((ieq (nlen (lenR sR L7a_0_o0)) 0) = false) → ((Nat.beq L7b0_1_c 0) = false) → (L7bL l n L7b0_1_fuel1 (wE L7a_0_o0) (nlen (lenR sR L7a_0_o0)) L7a_0_o0 (wK L7a_0_o0) (wS L7a_0_o0) 0) = (some (1, 0, [], 0, ByteArray.empty, L7b0_1_o41, L7b0_1_o51, L7b0_1_o61, L7b0_1_o71))) : ACalls Try.prog 7 [AV.sw 0 2, AV.v (.int .i32 n)] [AObj.rows false sR l] (AV.v (Value.bool false)) [] [] :=
  ACalls.nb (res := AV.v (Value.bool false)) (.of_out [Orc.fin (Gh.nil 5 2 (AObj.rows true sR [])), Orc.loop [0, 1, 4, 5, 6] [0, 1] (AExit.exit 0) (tg [(1, AV.v (.int .i32 n)), (2, AV.v (Value.bool false)), (0, AV.sw 1 2)] 114) [AObj.rows false sR l, AObj.rows true sR L7a_0_o0], Orc.call [1] (AV.tup [AV.agg [AV.v (.int .i64 (wK L7a_0_o0)), AV.v (Value.slice none 0 0), AV.v (Value.string (wS L7a_0_o0))], AV.v (.int .i64 (wE L7a_0_o0))]) [] [], Orc.br false, Orc.fin (Gh.freeze 1), Orc.loop [1, 4, 5, 8, 9, 61, 62] [0, 1, 2] (AExit.exit 2) (tg [(4, AV.v (Value.bool false)), (0, AV.sw 1 2), (2, AV.ptr 2 0), (0, AV.v (.int .i64 L7b0_1_o41))] 110) [AObj.rows false sR l, AObj.rows false sR L7b0_1_o51, AObj.cells 0 true [AV.v (.int .i64 L7b0_1_o61), AV.v (Value.slice none 0 0), AV.v (Value.string L7b0_1_o71)]], Orc.br true, Orc.br false] [0] [_, ACalls Try.prog 35 [AV.sw 0 2] [AObj.rows true sR L7a_0_o0] (AV.tup [AV.agg [AV.v (.int .i64 (wK L7a_0_o0)), AV.v (Value.slice none 0 0), AV.v (Value.string (wS L7a_0_o0))], AV.v (.int .i64 (wE L7a_0_o0))]) [] [], isB (ieq (nlen (lenR sR L7a_0_o0)) 0) false, _, isB (ieq L7b0_1_o41 0) true, isB (ieq (slen L7b0_1_o71) (imul .i64 8 (nlen (lenR sR L7b0_1_o51)))) false] Try.func7 (by kernel_rfl) (by kernel_rfl) (.cons (L7a _ _ _ _ _ _ (L7a_0_h0)) (.cons (by apply k35) (.cons d0 (.cons (L7b1 _ _ _ _ _ _ _ _ _ _ _ _ _ (L7b0_1_h1 d0 d1)) (.cons d2 (.cons d3 .nil)))))))
theorem f7_6 (l : List (El sR)) (n : Int) (L7a_0_fuel : Nat) (L7a_0_o0 : List (El sR)) (L7b0_1_c : Nat) (L7b0_1_fuel1 : Nat) (L7b0_1_o41 : Int) (L7b0_1_o51 : List (El sR)) (L7b0_1_o61 : Int) (L7b0_1_o71 : ByteArray)  (d0 : (ieq (nlen (lenR sR L7a_0_o0)) 0) = false) (d1 : (Nat.beq L7b0_1_c 0) = false) (d2 : (ieq L7b0_1_o41 0) = false) (L7a_0_h0 : (L7aL l n L7a_0_fuel 0 []) = (some L7a_0_o0)) (L7b0_1_h1 : ((ieq (nlen (lenR sR L7a_0_o0)) 0) = false) → ((Nat.beq L7b0_1_c 0) = false) → (L7bL l n L7b0_1_fuel1 (wE L7a_0_o0) (nlen (lenR sR L7a_0_o0)) L7a_0_o0 (wK L7a_0_o0) (wS L7a_0_o0) 0) = (some (1, 0, [], 0, ByteArray.empty, L7b0_1_o41, L7b0_1_o51, L7b0_1_o61, L7b0_1_o71))) : ACalls Try.prog 7 [AV.sw 0 2, AV.v (.int .i32 n)] [AObj.rows false sR l] (AV.v (Value.bool false)) [] [] :=
  ACalls.nb (res := AV.v (Value.bool false)) (.of_out [Orc.fin (Gh.nil 5 2 (AObj.rows true sR [])), Orc.loop [0, 1, 4, 5, 6] [0, 1] (AExit.exit 0) (tg [(1, AV.v (.int .i32 n)), (2, AV.v (Value.bool false)), (0, AV.sw 1 2)] 114) [AObj.rows false sR l, AObj.rows true sR L7a_0_o0], Orc.call [1] (AV.tup [AV.agg [AV.v (.int .i64 (wK L7a_0_o0)), AV.v (Value.slice none 0 0), AV.v (Value.string (wS L7a_0_o0))], AV.v (.int .i64 (wE L7a_0_o0))]) [] [], Orc.br false, Orc.fin (Gh.freeze 1), Orc.loop [1, 4, 5, 8, 9, 61, 62] [0, 1, 2] (AExit.exit 2) (tg [(4, AV.v (Value.bool false)), (0, AV.sw 1 2), (2, AV.ptr 2 0), (0, AV.v (.int .i64 L7b0_1_o41))] 110) [AObj.rows false sR l, AObj.rows false sR L7b0_1_o51, AObj.cells 0 true [AV.v (.int .i64 L7b0_1_o61), AV.v (Value.slice none 0 0), AV.v (Value.string L7b0_1_o71)]], Orc.br false, Orc.br false] [0] [_, ACalls Try.prog 35 [AV.sw 0 2] [AObj.rows true sR L7a_0_o0] (AV.tup [AV.agg [AV.v (.int .i64 (wK L7a_0_o0)), AV.v (Value.slice none 0 0), AV.v (Value.string (wS L7a_0_o0))], AV.v (.int .i64 (wE L7a_0_o0))]) [] [], isB (ieq (nlen (lenR sR L7a_0_o0)) 0) false, _, isB (ieq L7b0_1_o41 0) false, isB false false] Try.func7 (by kernel_rfl) (by kernel_rfl) (.cons (L7a _ _ _ _ _ _ (L7a_0_h0)) (.cons (by apply k35) (.cons d0 (.cons (L7b1 _ _ _ _ _ _ _ _ _ _ _ _ _ (L7b0_1_h1 d0 d1)) (.cons d2 (.cons (by show _ = _; kernel_rfl) .nil)))))))
theorem f7 (l : List (El sR)) (n : Int) (L7a_0_fuel : Nat) (L7a_0_o0 : List (El sR)) (L7b0_1_c : Nat) (L7b0_1_fuel : Nat) (L7b0_1_o0 : Int) (L7b0_1_o1 : List (El sR)) (L7b0_1_o2 : Int) (L7b0_1_o3 : ByteArray) (L7b0_1_fuel1 : Nat) (L7b0_1_o41 : Int) (L7b0_1_o51 : List (El sR)) (L7b0_1_o61 : Int) (L7b0_1_o71 : ByteArray) (L7a_0_h0 : (L7aL l n L7a_0_fuel 0 []) = (some L7a_0_o0)) (L7b0_1_h0 : ((ieq (nlen (lenR sR L7a_0_o0)) 0) = false) → ((Nat.beq L7b0_1_c 0) = true) → (L7bL l n L7b0_1_fuel (wE L7a_0_o0) (nlen (lenR sR L7a_0_o0)) L7a_0_o0 (wK L7a_0_o0) (wS L7a_0_o0) 0) = (some (0, L7b0_1_o0, L7b0_1_o1, L7b0_1_o2, L7b0_1_o3, 0, [], 0, ByteArray.empty))) (L7b0_1_h1 : ((ieq (nlen (lenR sR L7a_0_o0)) 0) = false) → ((Nat.beq L7b0_1_c 0) = false) → (L7bL l n L7b0_1_fuel1 (wE L7a_0_o0) (nlen (lenR sR L7a_0_o0)) L7a_0_o0 (wK L7a_0_o0) (wS L7a_0_o0) 0) = (some (1, 0, [], 0, ByteArray.empty, L7b0_1_o41, L7b0_1_o51, L7b0_1_o61, L7b0_1_o71))) : ACalls Try.prog 7 [AV.sw 0 2, AV.v (.int .i32 n)] [AObj.rows false sR l] (AV.v (Value.bool (f7r0 l n L7a_0_fuel L7a_0_o0 L7b0_1_c L7b0_1_fuel L7b0_1_o0 L7b0_1_o1 L7b0_1_o2 L7b0_1_o3 L7b0_1_fuel1 L7b0_1_o41 L7b0_1_o51 L7b0_1_o61 L7b0_1_o71))) [] [] := by
  have h := (ACalls.cond (ieq (nlen (lenR sR L7a_0_o0)) 0) (fun d0 => (ACalls.cond (ieq (wE L7a_0_o0) 1) (fun d1 => (f7_1 l n L7a_0_fuel L7a_0_o0 d0 d1 L7a_0_h0)) (fun d1 => (f7_2 l n L7a_0_fuel L7a_0_o0 d0 d1 L7a_0_h0)))) (fun d0 => (ACalls.cond (Nat.beq L7b0_1_c 0) (fun d1 => (f7_3 l n L7a_0_fuel L7a_0_o0 L7b0_1_c L7b0_1_fuel L7b0_1_o0 L7b0_1_o1 L7b0_1_o2 L7b0_1_o3 d0 d1 L7a_0_h0 L7b0_1_h0)) (fun d1 => (ACalls.cond (ieq L7b0_1_o41 0) (fun d2 => (ACalls.cond (ieq (slen L7b0_1_o71) (imul .i64 8 (nlen (lenR sR L7b0_1_o51)))) (fun d3 => (f7_4 l n L7a_0_fuel L7a_0_o0 L7b0_1_c L7b0_1_fuel1 L7b0_1_o41 L7b0_1_o51 L7b0_1_o61 L7b0_1_o71 d0 d1 d2 d3 L7a_0_h0 L7b0_1_h1)) (fun d3 => (f7_5 l n L7a_0_fuel L7a_0_o0 L7b0_1_c L7b0_1_fuel1 L7b0_1_o41 L7b0_1_o51 L7b0_1_o61 L7b0_1_o71 d0 d1 d2 d3 L7a_0_h0 L7b0_1_h1)))) (fun d2 => (f7_6 l n L7a_0_fuel L7a_0_o0 L7b0_1_c L7b0_1_fuel1 L7b0_1_o41 L7b0_1_o51 L7b0_1_o61 L7b0_1_o71 d0 d1 d2 L7a_0_h0 L7b0_1_h1)))))))
  simp only [c_int, c_bool, c_str, c_agg, c_tup, c_fn, c_ifc, c_sl, c_pe, c_ptr, c_rows, c_siter, c_consA, c_consU, c_consO, c_cells, c_ints, c_bools, c_strs, c_same] at h
  exact h
end Go.Proofs.Ytffoldigaififaa.Sk

set_option maxRecDepth 100000
set_option linter.all false
set_option maxHeartbeats 4000000
/- What is written is read as it was. -/
namespace Go.Proofs.Ytffoldigaififaa.Sk
open Go.Abs Go.Proofs.Ytffoldigaififaa.Ser
def c8 (b : Int) : Int := ((UInt8.ofNat b.toNat).toNat : Int)
theorem num4a (b0 b1 b2 b3 b4 b5 b6 b7 : Int) : numV (ssub (strI [b0, b1, b2, b3, b4, b5, b6, b7]) ((0 : Nat) : Int) ((0 + 4 : Nat) : Int)) = c8 b0 * 16777216 + c8 b1 * 65536 + c8 b2 * 256 + c8 b3 := by
  rfl
theorem num4b (b0 b1 b2 b3 b4 b5 b6 b7 : Int) : numV (ssub (strI [b0, b1, b2, b3, b4, b5, b6, b7]) ((0 + 4 : Nat) : Int) ((0 + 8 : Nat) : Int)) = c8 b4 * 16777216 + c8 b5 * 65536 + c8 b6 * 256 + c8 b7 := by
  rfl
theorem c8_eq {b : Int} (h : 0 ≤ b ∧ b < 256) : c8 b = b := by
  unfold c8
  rw [UInt8.toNat_ofNat']
  omega
def f0 (n : Int) : Int := icv IntKind.u8 (iquo IntKind.u32 (icv IntKind.u32 n) 16777216)
def f1 (n : Int) : Int := icv IntKind.u8 (irem (iquo IntKind.u32 (icv IntKind.u32 n) 65536) 256)
def f2 (n : Int) : Int := icv IntKind.u8 (irem (iquo IntKind.u32 (icv IntKind.u32 n) 256) 256)
def f3 (n : Int) : Int := icv IntKind.u8 (irem (icv IntKind.u32 n) 256)
theorem fou_val {n : Int} (h : 0 ≤ n) : c8 (f0 n) * 16777216 + c8 (f1 n) * 65536 + c8 (f2 n) * 256 + c8 (f3 n) = n % 4294967296 := by
  have w32 : icv IntKind.u32 n = n % 4294967296 := by unfold icv; rw [w_u32]
  have q : ∀ d : Int, 0 < d → iquo IntKind.u32 (n % 4294967296) d = (n % 4294967296) / d % 4294967296 := fun d hd => by
    unfold iquo; rw [w_u32, Int.tdiv_eq_ediv_of_nonneg (by omega)]
  have r : ∀ x : Int, 0 ≤ x → irem x 256 = x % 256 := fun x hx => by unfold irem; rw [Int.tmod_eq_emod_of_nonneg hx]
  have c : ∀ x : Int, icv IntKind.u8 x = x % 256 := fun x => by unfold icv; rw [w_u8]
  have e0 : f0 n = (n % 4294967296) / 16777216 % 4294967296 % 256 := by unfold f0; rw [w32, q _ (by decide), c]
  have e1 : f1 n = (n % 4294967296) / 65536 % 4294967296 % 256 % 256 := by unfold f1; rw [w32, q _ (by decide), r _ (by omega), c]
  have e2 : f2 n = (n % 4294967296) / 256 % 4294967296 % 256 % 256 := by unfold f2; rw [w32, q _ (by decide), r _ (by omega), c]
  have e3 : f3 n = (n % 4294967296) % 256 % 256 := by unfold f3; rw [w32, r _ (by omega), c]
  rw [c8_eq (by rw [e0]; omega), c8_eq (by rw [e1]; omega), c8_eq (by rw [e2]; omega), c8_eq (by rw [e3]; omega), e0, e1, e2, e3]
  omega
theorem back1 {x a : Int} (hx : 0 ≤ x ∧ x ≤ 2000000000000) (ha : 0 ≤ a ∧ a ≤ 2000000000000) (hd : -2147483648 ≤ x - a ∧ x - a < 2147483648) : unwV a (x % 4294967296) = x := by
  have e : rd 32 = 4294967296 := by decide
  rw [unwV_eq, unw_mid a _ 32 (by omega), e]
  have ec : clampL a = a := by unfold clampL; omega
  rw [ec]
  unfold mid
  split <;> omega
def okC (r : El sR) (a b : Int) : Prop := r.1 = a ∧ r.2 = b ∧ 0 ≤ a ∧ a ≤ 549755813888 ∧ a < b ∧ b ≤ a + 1048577
theorem one_back {r : El sR} {p q a : Int} (h : okC r p q) (ha : 0 ≤ a ∧ a ≤ 2000000000000) (hd : -2147483648 ≤ p - a ∧ p - a < 2147483648) :
    wK [r] = 5 ∧ wE [r] = 0 ∧ (wS [r]).size = 8 ∧ rdE 5 (wS [r]) a = 0 ∧ rdL 5 (wS [r]) a = [r] := by
  obtain ⟨rfl, rfl, h1, h2, h3, h4⟩ := h
  have hw : wrF [] [r] = some (fouV r.1 ++ fouV r.2) := by
    show (bif okE r then wrF ([] ++ fouV r.1 ++ fouV r.2) [] else none) = _
    rw [show okE r = true from okP_t (by omega)]; rfl
  have hS : wS [r] = strI [f0 r.1, f1 r.1, f2 r.1, f3 r.1, f0 r.2, f1 r.2, f2 r.2, f3 r.2] := by
    unfold wS; rw [hw]; rfl
  have hA : rdA (wS [r]) a 0 = r.1 := by
    unfold rdA
    rw [hS, num4a, fou_val (n := r.1) h1]
    exact back1 (by omega) ha hd
  have hB : rdB (wS [r]) a 0 = r.2 := by
    unfold rdB
    rw [hA, hS, num4b, fou_val (n := r.2) (by omega)]
    exact back1 (by omega) (by omega) (by omega)
  have hz : (wS [r]).size = 8 := by rw [hS]; rfl
  have hn : rN (wS [r]) = true := decide_eq_true (by rw [hz]; decide)
  have hF : rdF (wS [r]) a ((wS [r]).size / 8) 0 [] = some [r] := by
    rw [hz]
    show (bif rdP (rdA (wS [r]) a 0) (rdB (wS [r]) a 0) then none else some ([] ++ [(rdA (wS [r]) a 0, rdB (wS [r]) a 0)])) = _
    rw [hA, hB, show rdP r.1 r.2 = false from decide_eq_false (by omega)]
    rfl
  refine ⟨by unfold wK; rw [hw]; rfl, by unfold wE; rw [hw]; rfl, hz, ?_, ?_⟩
  · unfold rdE; rw [hn, hF]; rfl
  · unfold rdL; rw [hn, hF]; rfl
def okAll (o : List (El sR)) : Prop := ∀ r ∈ o, ∃ p q, okC r p q
theorem l7a (l : List (El sR)) (n : Int) : ∀ (j i : Nat) (acc : List (El sR)), i + j = min l.length 4 → acc.length = i → okAll acc → ∃ o, L7aL l n (j + 1) (i : Int) acc = some o ∧ o.length ≤ 4 ∧ okAll o
  | 0, i, acc, h, hl, ho => by
    refine ⟨acc, ?_, by omega, ho⟩
    rw [L7aLK]; unfold L7aB
    by_cases h1 : i < l.length
    · have e0 : ilt (i : Int) (nlen (lenR sR l)) = true := by rw [ilt_d]; exact decide_eq_true (by unfold nlen lenR; omega)
      have e1 : ilt (i : Int) 4 = false := by rw [ilt_d]; exact decide_eq_false (by omega)
      rw [e0, e1]; rfl
    · have e0 : ilt (i : Int) (nlen (lenR sR l)) = false := by rw [ilt_d]; exact decide_eq_false (by unfold nlen lenR; omega)
      rw [e0]; rfl
  | j + 1, i, acc, h, hl, ho => by
    have hi : i < l.length := by omega
    have e0 : ilt (i : Int) (nlen (lenR sR l)) = true := by rw [ilt_d]; exact decide_eq_true (by unfold nlen lenR; omega)
    have e1 : ilt (i : Int) 4 = true := by rw [ilt_d]; exact decide_eq_true (by omega)
    rw [L7aLK]; unfold L7aB
    rw [e0, e1, (inR hi).1, (inR hi).2, ad1 (by omega), getR_get hi]
    rw [decide_eq_true (show fitN (addN (lenR sR acc) (lenR sR [(imin (imax (l[i]).1 0) 549755813888, iadd .i64 (iadd .i64 (imin (imax (l[i]).1 0) 549755813888) 1) (imin (imax (l[i]).2 0) 1048576))])) 16 from by unfold fitN addN lenR; simp only [List.length_cons, List.length_nil]; omega)]
    refine l7a l n j (i + 1) _ (by omega) (by unfold appR; rw [List.length_append]; simp only [List.length_cons, List.length_nil]; omega) ?_
    intro r hr
    unfold appR at hr
    rcases List.mem_append.1 hr with hr | hr
    · exact ho r hr
    · rw [List.mem_singleton] at hr
      subst hr
      have b1 : 0 ≤ imin (imax (l[i]).1 0) 549755813888 ∧ imin (imax (l[i]).1 0) 549755813888 ≤ 549755813888 := by unfold imin imax; omega
      have b2 : 0 ≤ imin (imax (l[i]).2 0) 1048576 ∧ imin (imax (l[i]).2 0) 1048576 ≤ 1048576 := by unfold imin imax; omega
      generalize imin (imax (l[i]).1 0) 549755813888 = p at *
      generalize imin (imax (l[i]).2 0) 1048576 = d at *
      have e3 : iadd .i64 (iadd .i64 p 1) d = p + 1 + d := by unfold iadd; rw [w_i64_in (x := p + 1) (by omega), w_i64_in (by omega)]
      refine ⟨p, p + 1 + d, rfl, e3, ?_⟩
      omega
theorem half_bd {n : Int} (h : -2147483648 ≤ n ∧ n ≤ 2147483647) : -1073741824 ≤ icv .i64 (iquo IntKind.i32 n 2) ∧ icv .i64 (iquo IntKind.i32 n 2) ≤ 1073741824 := by
  have hb : -1073741824 ≤ n.tdiv 2 ∧ n.tdiv 2 ≤ 1073741824 := by
    by_cases h0 : 0 ≤ n
    · rw [Int.tdiv_eq_ediv_of_nonneg h0]; omega
    · have : n.tdiv 2 = -((-n).tdiv 2) := by rw [Int.neg_tdiv, Int.neg_neg]
      rw [this, Int.tdiv_eq_ediv_of_nonneg (by omega)]; omega
  have e : iquo IntKind.i32 n 2 = n.tdiv 2 := by
    unfold iquo
    have w32 : ∀ x : Int, -2147483648 ≤ x ∧ x ≤ 2147483647 → IntKind.wrap .i32 x = x := fun x hx => by
      simp only [IntKind.wrap, IntKind.signed, IntKind.bits]; simp; omega
    exact w32 _ (by omega)
  rw [e]
  unfold icv
  rw [w_i64_in (by omega)]
  exact hb
theorem l7b (l : List (El sR)) (n : Int) (hn : -2147483648 ≤ n ∧ n ≤ 2147483647) (o : List (El sR)) (ho : okAll o) (ho4 : o.length ≤ 4) (x9 y2 : Int) (y21 : ByteArray) : ∀ (j i : Nat), i + j = o.length →
    L7bL l n (j + 1) x9 (nlen (lenR sR o)) o y2 y21 (i : Int) = some (1, 0, [], 0, ByteArray.empty, x9, o, y2, y21)
  | 0, i, h => by
    have e0 : ilt (i : Int) (nlen (lenR sR o)) = false := by rw [ilt_d]; exact decide_eq_false (by unfold nlen lenR; omega)
    rw [L7bLK]; unfold L7bB; rw [e0]; rfl
  | j + 1, i, h => by
    have hi : i < o.length := by omega
    have e0 : ilt (i : Int) (nlen (lenR sR o)) = true := by rw [ilt_d]; exact decide_eq_true (by unfold nlen lenR; omega)
    have es : subR sR o (idxN 0 (i : Int)) (subN ((i + 1 : Nat) : Int) (i : Int)) = [o[i]] := by
      unfold subR idxN subN
      rw [Int.toNat_natCast, Nat.zero_add, show (((i + 1 : Nat) : Int) - (i : Int)).toNat = 1 by omega, List.drop_eq_getElem_cons hi]
      rfl
    obtain ⟨p, q, hpq⟩ := ho _ (List.getElem_mem hi)
    have hd := half_bd hn
    have h1 := hpq.1
    rw [L7bLK]; unfold L7bB
    rw [e0, ad1 (by omega), es, getR_get hi, (inR hi).1, (inR hi).2, h1]
    generalize icv .i64 (iquo IntKind.i32 n 2) = d at *
    have b := hpq.2.2
    have ea : isub .i64 p d = p - d := by unfold isub; rw [w_i64_in (by omega)]
    rw [ea]
    have ha : 0 ≤ imax (p - d) 0 ∧ imax (p - d) 0 ≤ 2000000000000 := by unfold imax; omega
    have hdd : -2147483648 ≤ p - imax (p - d) 0 ∧ p - imax (p - d) 0 < 2147483648 := by unfold imax; omega
    generalize imax (p - d) 0 = a at *
    obtain ⟨k1, k2, k3, k4, k5⟩ := one_back hpq ha hdd
    rw [k1, k2, k4, k5, samF_self]
    rw [decide_eq_true (show inC (i : Int) ((i + 1 : Nat) : Int) (nlen (lenR sR o)) from ⟨by omega, by omega, by unfold nlen lenR; omega⟩), decide_eq_true (show leN (idxN 0 (i : Int) + subN ((i + 1 : Nat) : Int) (i : Int)) (lenR sR o) from by unfold leN idxN subN lenR; omega), decide_eq_true (show smR [o[i]] = true from decide_eq_true (by simp))]
    exact l7b l n hn o ho ho4 x9 y2 y21 j (i + 1) (by omega)
theorem wr_all : ∀ {o : List (El sR)} {acc : List Int}, okAll o → ∃ a, wrF acc o = some a ∧ a.length = acc.length + 8 * o.length
  | [], acc, _ => ⟨acc, rfl, by simp⟩
  | r :: o, acc, h => by
    obtain ⟨p, q, h1, h2, h3⟩ := h r (by simp)
    have e : okE r = true := okP_t (by rw [h1, h2]; omega)
    obtain ⟨a, k1, k2⟩ := wr_all (o := o) (acc := acc ++ fouV r.1 ++ fouV r.2) (fun x hx => h x (by simp [hx]))
    refine ⟨a, ?_, ?_⟩
    · rw [wrF, e]; exact k1
    · rw [k2, List.length_append, List.length_append, fouV_len, fouV_len, List.length_cons]; omega
theorem strI_size (a : List Int) : (strI a).size = a.length := by
  unfold strI strOfNums
  simp [ByteArray.size]
theorem law7 (l : List (El sR)) (n : Int) (hn : -2147483648 ≤ n ∧ n ≤ 2147483647) : ACalls Try.prog 7 [AV.sw 0 2, AV.v (.int .i32 n)] [AObj.rows false sR l] (AV.v (Value.bool true)) [] [] := by
  obtain ⟨o, k1, k2, k3⟩ := l7a l n (min l.length 4) 0 [] (by omega) rfl (fun r hr => by simp at hr)
  have k4 := l7b l n hn o k3 k2 (wE o) (wK o) (wS o) o.length 0 (by omega)
  have := f7 l n (min l.length 4 + 1) o 1 0 0 [] 0 ByteArray.empty (o.length + 1) (wE o) o (wK o) (wS o) k1 (fun _ h => by simp at h) (fun _ _ => k4)
  have e : f7r0 l n (min l.length 4 + 1) o 1 0 0 [] 0 ByteArray.empty (o.length + 1) (wE o) o (wK o) (wS o) = true := by
    unfold f7r0
    by_cases h0 : o.length = 0
    · have e0 : ieq (nlen (lenR sR o)) 0 = true := ieq_t (by unfold nlen lenR; omega)
      have e1 : wE o = 1 := by
        unfold wE
        rw [show wG o = false from decide_eq_false (by omega)]; rfl
      rw [e0, e1]; rfl
    · have e0 : ieq (nlen (lenR sR o)) 0 = false := ne0 h0
      obtain ⟨a, w1, w2⟩ := wr_all (acc := []) k3
      have hg : wG o = true := decide_eq_true (by omega)
      have e1 : wE o = 0 := by unfold wE; rw [hg, w1]; rfl
      have e2 : wS o = strI a := by unfold wS; rw [hg, w1]; rfl
      have e3 : ieq (slen (wS o)) (imul .i64 8 (nlen (lenR sR o))) = true := by
        refine ieq_t ?_
        rw [e2]
        unfold slen imul nlen lenR
        rw [strI_size, w2, w_i64_in (by omega)]
        simp only [List.length_nil]; omega
      rw [e0, e1, e3]; rfl
  rw [e] at this
  exact this
theorem i32_bd {n : Int} (h : (Lit.int .i32 n).wf = true) : -2147483648 ≤ n ∧ n ≤ 2147483647 := by
  have e1 : IntKind.i32.min = -2147483648 := by decide
  have e2 : IntKind.i32.max = 2147483647 := by decide
  simpa [Lit.wf, e1, e2] using h
theorem law_back (l0 : List (El sR)) (a1 : Int) {p0 : Prop} (w0 : p0) (w1 : (Lit.int .i32 a1).wf = true) : ACalls Try.prog 7 [AV.sw 0 2, AV.v (.int .i32 a1)] [AObj.rows false sR l0] (AV.v (Value.bool true)) [] [] := law7 l0 a1 (i32_bd w1)
end Go.Proofs.Ytffoldigaififaa.Sk
