/- Layer 3 (serial) and its reference: what each function comes to. -/
import Derived.Test.YteaeolklkioceaaSerM
import Derived.Test.YteaeolklkioceaaProg
set_option linter.unusedVariables false
set_option maxRecDepth 100000
namespace Go.Proofs.Yteaeolklkioceaa.Ser
open Go.Abs
theorem f46 (n : Int) : ACalls Try.prog 46 [.v (.int .i64 n)] [] (.v (.int .u64 (wi n))) [] [] :=
  .of_out [] [] _ Try.func46 (by kernel_rfl) (by kernel_rfl) .nil
theorem f17 (a b n : Int) : ACalls Try.prog 17 [.v (.int .u64 a), .v (.int .u64 b), .v (.int .i64 n)] [] (.v (.int .i64 (dif a b n))) [] [] := by
  have h : nn (isub .u64 64 (wi n)) := by have := wi_bd n; rw [sh_eq]; show 0 ≤ _; omega
  exact .of_out [.call [] (.v (.int .u64 (wi n))) [] []] [] _ Try.func17 (by kernel_rfl) (by kernel_rfl) (.cons (f46 n) (.cons h (.cons h .nil)))
theorem f45 (a b n : Int) : ACalls Try.prog 45 [.v (.int .i64 a), .ptr 0 0, .ptr 1 0] [.cells 22 true [.v (.int .u64 b)], .cells 3 true [.v (.int .i64 n)]] (.v (.int .i64 (dif b (icv .u64 a) n))) [] [] :=
  .of_out [.call [] (.v (.int .i64 (dif b (icv .u64 a) n))) [] []] [0, 1] _ Try.func45 (by kernel_rfl) (by kernel_rfl) (.cons (f17 b (icv .u64 a) n) .nil)
theorem f13 (a b n : Int) : ACalls Try.prog 13 [.v (.int .i64 a), .v (.int .u64 b), .v (.int .i64 n)] [] (.v (.int .i64 (unw a b n))) [] [] :=
  .of_out [.call [0, 1] (.v (.int .i64 (dif b (icv .u64 (imax (-4611686018427387904) (imin a 4611686018427387904))) n))) [] []] [] _ Try.func13 (by kernel_rfl) (by kernel_rfl)
    (.cons (f45 (imax (-4611686018427387904) (imin a 4611686018427387904)) b n) .nil)
theorem f19 (n : Int) : ACalls Try.prog 19 [.v (.int .i64 n)] [] (.v (.int .u64 (mask n))) [] [] := by
  have h : nn (wi n) := by have := wi_bd n; show 0 ≤ _; omega
  exact .of_out [.call [] (.v (.int .u64 (wi n))) [] []] [] _ Try.func19 (by kernel_rfl) (by kernel_rfl) (.cons (f46 n) (.cons h .nil))
theorem f21 (x n : Int) : ACalls Try.prog 21 [.v (.int .u64 x), .v (.int .i64 n)] [] (.v (.int .u64 (cut x n))) [] [] :=
  .of_out [.call [] (.v (.int .u64 (mask n))) [] []] [] _ Try.func21 (by kernel_rfl) (by kernel_rfl) (.cons (f19 n) .nil)
theorem f23 (a b n : Int) : ACalls Try.prog 23 [.v (.int .u64 a), .v (.int .u64 b), .v (.int .i64 n)] [] (.v (.int .u64 (cut (iadd .u64 a b) n))) [] [] :=
  .of_out [.call [] (.v (.int .u64 (cut (iadd .u64 a b) n))) [] []] [] _ Try.func23 (by kernel_rfl) (by kernel_rfl) (.cons (f21 (iadd .u64 a b) n) .nil)
theorem f18 (a b n : Int) : ACalls Try.prog 18 [.v (.int .u64 a), .v (.int .u64 b), .v (.int .i64 n)] [] (.v (.bool (ilt 0 (dif a b n)))) [] [] :=
  .of_out [.call [] (.v (.int .i64 (dif a b n))) [] []] [] _ Try.func18 (by kernel_rfl) (by kernel_rfl) (.cons (f17 a b n) .nil)

/-! ### the reference -/
def st20 (n x i : Int) : Tm := [some (.v (.int .i64 n)), none, some (.v (.int .i64 0)), some (.v (.int .i64 x)), some (.v (.int .i64 i)), none, none, none, none, none, none, none, none, none, none]
theorem loop20 (n : Int) (d : Nat) : ∀ (i : Nat), 1 ≤ i + 1 → (i : Int) + d = max 1 (min n 62) →
    ARun Try.prog 0 (.loop (lp Try.f20 0)) (st20 n (2 ^ i) i) [] (.exit 0) (st20 n (rd n) (max 1 (min n 62))) [] := by
  induction d with
  | zero =>
    intro i hi hd
    have h : isB (ilt i (imin (imax n 1) 62)) false := ilt_f (by simp only [imin, imax]; omega)
    have e1 : rd n = 2 ^ i := by unfold rd; rw [← hd]; simp
    rw [e1, ← hd]
    have e2 : (i : Int) + ((0 : Nat) : Int) = i := by simp
    rw [e2]
    exact .last [.br false] [0, 2, 3, 4] [] _ (by kernel_rfl) (.cons h .nil)
  | succ d ih =>
    intro i hi hd
    have h : isB (ilt i (imin (imax n 1) 62)) true := ilt_t (by simp only [imin, imax]; omega)
    have hi62 : i < 62 := by omega
    have hp : (2 : Int) ^ i < 2 ^ 62 := by
      have : (2 : Nat) ^ i < 2 ^ 62 := Nat.pow_lt_pow_right (by omega) hi62
      exact_mod_cast this
    have hp0 : (0 : Int) < 2 ^ i := Int.pow_pos (by omega)
    have e1 : imul .i64 (2 ^ i) 2 = 2 ^ (i + 1) := by
      simp only [imul, IntKind.wrap, IntKind.signed, IntKind.bits, Int.pow_succ]
      simp at hp ⊢
      omega
    have e2 : iadd .i64 i 1 = ((i + 1 : Nat) : Int) := by
      simp only [iadd, IntKind.wrap, IntKind.signed, IntKind.bits]
      simp; omega
    have hr : roundA Try.prog 0 (lp Try.f20 0) (st20 n (2 ^ i) i) [] [.br true] [0, 2, 3, 4] [] = some (.normal, st20 n (imul .i64 (2 ^ i) 2) (iadd .i64 i 1), [], [isB (ilt i (imin (imax n 1) 62)) true]) := by kernel_rfl
    rw [e1, e2] at hr
    exact .round [.br true] [0, 2, 3, 4] [] _ hr (.cons h .nil) (ih (i + 1) (by omega) (by omega))
theorem f20 (n : Int) : ACalls Try.prog 20 [.v (.int .i64 n)] [] (.v (.int .i64 (rd n))) [] [] := by
  have h := loop20 n (max 1 (min n 62)).toNat 0 (by omega) (by omega)
  exact .of_out [.loop [0, 2, 3, 4] [] (.exit 0) (st20 n (rd n) (max 1 (min n 62))) []] [] _ Try.func20 (by kernel_rfl) (by kernel_rfl) (.cons h .nil)
end Go.Proofs.Yteaeolklkioceaa.Ser
