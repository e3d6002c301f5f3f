import Derived.Test.YtfihmphhklplnaaSerN
import Derived.Test.YtfihmphhklplnaaProg
set_option linter.unusedVariables false
set_option maxRecDepth 100000
namespace Go.Proofs.Ytfihmphhklplnaa.Sr
open Go.Abs Go.Proofs.Ytfihmphhklplnaa.Ser
theorem f46 (n : Int) : ACalls Try.prog 46 [.v (.int .i64 n)] [] (.v (.int .u64 (wi n))) [] [] :=
  .of_out [] [] _ Try.func46 (by kernel_rfl) (by kernel_rfl) .nil
theorem f44 (a b n : Int) : ACalls Try.prog 44 [.v (.int .u64 a), .v (.int .u64 b), .v (.int .i64 n)] [] (.v (.int .i64 (dif a b n))) [] [] := by
  have h : nn (isub .u64 64 (wi n)) := by have := wi_bd n; rw [sh_eq]; show 0 ≤ _; omega
  exact .of_out [.call [] (.v (.int .u64 (wi n))) [] []] [] _ Try.func44 (by kernel_rfl) (by kernel_rfl) (.cons (f46 n) (.cons h (.cons h .nil)))
theorem f45 (n : Int) : ACalls Try.prog 45 [.v (.int .i64 n)] [] (.v (.int .u64 (mask n))) [] [] := by
  have h : nn (wi n) := by have := wi_bd n; show 0 ≤ _; omega
  exact .of_out [.call [] (.v (.int .u64 (wi n))) [] []] [] _ Try.func45 (by kernel_rfl) (by kernel_rfl) (.cons (f46 n) (.cons h .nil))
theorem f39 (x n : Int) : ACalls Try.prog 39 [.v (.int .u64 x), .v (.int .i64 n)] [] (.v (.int .u64 (cut x n))) [] [] :=
  .of_out [.call [] (.v (.int .u64 (mask n))) [] []] [] _ Try.func39 (by kernel_rfl) (by kernel_rfl) (.cons (f45 n) .nil)
theorem f36 (a b n : Int) : ACalls Try.prog 36 [.v (.int .u64 a), .v (.int .u64 b), .v (.int .i64 n)] [] (.v (.bool (ilt 0 (dif a b n)))) [] [] :=
  .of_out [.call [] (.v (.int .i64 (dif a b n))) [] []] [] _ Try.func36 (by kernel_rfl) (by kernel_rfl) (.cons (f44 a b n) .nil)
def st20 (n x i : Int) : Tm := [some (.v (.int .i64 n)), none, some (.v (.int .i64 0)), some (.v (.int .i64 x)), some (.v (.int .i64 i)), none, none, none, none, none, none, none, none, none, none]
theorem loop20 (n : Int) (d : Nat) : ∀ (i : Nat), 1 ≤ i + 1 → (i : Int) + d = max 1 (min n 62) →
    ARun Try.prog 0 (.loop (lp Try.f42 0)) (st20 n (2 ^ i) i) [] (.exit 0) (st20 n (rd n) (max 1 (min n 62))) [] := by
  induction d with
  | zero =>
    intro i hi hd
    have h : isB (ilt i (imin (imax n 1) 62)) false := ilt_f (by simp only [imin, imax]; omega)
    have e1 : rd n = 2 ^ i := by unfold rd; rw [← hd]; simp
    rw [e1, ← hd]
    have e2 : (i : Int) + ((0 : Nat) : Int) = i := by simp
    rw [e2]
    exact .last [.br false] [0, 2, 3, 4] [] _ (by kernel_rfl) (.cons h .nil)
  | succ d ih =>
    intro i hi hd
    have h : isB (ilt i (imin (imax n 1) 62)) true := ilt_t (by simp only [imin, imax]; omega)
    have hi62 : i < 62 := by omega
    have hp : (2 : Int) ^ i < 2 ^ 62 := by
      have : (2 : Nat) ^ i < 2 ^ 62 := Nat.pow_lt_pow_right (by omega) hi62
      exact_mod_cast this
    have hp0 : (0 : Int) < 2 ^ i := Int.pow_pos (by omega)
    have e1 : imul .i64 (2 ^ i) 2 = 2 ^ (i + 1) := by
      simp only [imul, IntKind.wrap, IntKind.signed, IntKind.bits, Int.pow_succ]
      simp at hp ⊢
      omega
    have e2 : iadd .i64 i 1 = ((i + 1 : Nat) : Int) := by
      simp only [iadd, IntKind.wrap, IntKind.signed, IntKind.bits]
      simp; omega
    have hr : roundA Try.prog 0 (lp Try.f42 0) (st20 n (2 ^ i) i) [] [.br true] [0, 2, 3, 4] [] = some (.normal, st20 n (imul .i64 (2 ^ i) 2) (iadd .i64 i 1), [], [isB (ilt i (imin (imax n 1) 62)) true]) := by kernel_rfl
    rw [e1, e2] at hr
    exact .round [.br true] [0, 2, 3, 4] [] _ hr (.cons h .nil) (ih (i + 1) (by omega) (by omega))
theorem f42 (n : Int) : ACalls Try.prog 42 [.v (.int .i64 n)] [] (.v (.int .i64 (rd n))) [] [] := by
  have h := loop20 n (max 1 (min n 62)).toNat 0 (by omega) (by omega)
  exact .of_out [.loop [0, 2, 3, 4] [] (.exit 0) (st20 n (rd n) (max 1 (min n 62))) []] [] _ Try.func42 (by kernel_rfl) (by kernel_rfl) (.cons h .nil)
theorem f43_1 (x n : Int) (h2 : nz (icv IntKind.u64 (rd n))) : ACalls Try.prog 43 [AV.v (Value.int IntKind.u64 x), AV.v (Value.int IntKind.i64 n)] [] (AV.v (Value.int IntKind.u64 (irem x (icv IntKind.u64 (rd n))))) [] [] :=
  .of_out [Orc.call [] (AV.v (Value.int IntKind.i64 (rd n))) [] []] [] [ACalls Try.prog 42 [AV.v (Value.int IntKind.i64 n)] [] (AV.v (Value.int IntKind.i64 (rd n))) [] [], nz (icv IntKind.u64 (rd n))] Try.func43 (by kernel_rfl) (by kernel_rfl) (.cons (by apply f42) (.cons h2 .nil))
theorem f43 (x n : Int) : ACalls Try.prog 43 [.v (.int .u64 x), .v (.int .i64 n)] [] (.v (.int .u64 (rcut x n))) [] [] := f43_1 x n (rd_nz n).2
theorem f34_1 (a b n : Int) (h4 : nz 2) (h5 : isB (ilt (isub IntKind.i64 (icv IntKind.i64 (rcut a n)) (icv IntKind.i64 (rcut b n))) (isub IntKind.i64 0 (iquo IntKind.i64 (rd n) 2))) true) (h7 : isB (ile (iquo IntKind.i64 (rd n) 2) (iadd IntKind.i64 (isub IntKind.i64 (icv IntKind.i64 (rcut a n)) (icv IntKind.i64 (rcut b n))) (rd n))) true) : ACalls Try.prog 34 [AV.v (Value.int IntKind.u64 a), AV.v (Value.int IntKind.u64 b), AV.v (Value.int IntKind.i64 n)] [] (AV.v (Value.int IntKind.i64 (isub IntKind.i64 (iadd IntKind.i64 (isub IntKind.i64 (icv IntKind.i64 (rcut a n)) (icv IntKind.i64 (rcut b n))) (rd n)) (rd n)))) [] [] :=
  .of_out [Orc.call [] (AV.v (Value.int IntKind.i64 (rd n))) [] [], Orc.call [] (AV.v (Value.int IntKind.u64 (rcut a n))) [] [], Orc.call [] (AV.v (Value.int IntKind.u64 (rcut b n))) [] [], Orc.br true, Orc.br true] [] [ACalls Try.prog 42 [AV.v (Value.int IntKind.i64 n)] [] (AV.v (Value.int IntKind.i64 (rd n))) [] [], ACalls Try.prog 43 [AV.v (Value.int IntKind.u64 a), AV.v (Value.int IntKind.i64 n)] [] (AV.v (Value.int IntKind.u64 (rcut a n))) [] [], ACalls Try.prog 43 [AV.v (Value.int IntKind.u64 b), AV.v (Value.int IntKind.i64 n)] [] (AV.v (Value.int IntKind.u64 (rcut b n))) [] [], nz 2, isB (ilt (isub IntKind.i64 (icv IntKind.i64 (rcut a n)) (icv IntKind.i64 (rcut b n))) (isub IntKind.i64 0 (iquo IntKind.i64 (rd n) 2))) true, nz 2, isB (ile (iquo IntKind.i64 (rd n) 2) (iadd IntKind.i64 (isub IntKind.i64 (icv IntKind.i64 (rcut a n)) (icv IntKind.i64 (rcut b n))) (rd n))) true] Try.func34 (by kernel_rfl) (by kernel_rfl) (.cons (by apply f42) (.cons (by apply f43) (.cons (by apply f43) (.cons h4 (.cons h5 (.cons h4 (.cons h7 .nil)))))))
theorem f34_2 (a b n : Int) (h4 : nz 2) (h5 : isB (ilt (isub IntKind.i64 (icv IntKind.i64 (rcut a n)) (icv IntKind.i64 (rcut b n))) (isub IntKind.i64 0 (iquo IntKind.i64 (rd n) 2))) true) (h7 : isB (ile (iquo IntKind.i64 (rd n) 2) (iadd IntKind.i64 (isub IntKind.i64 (icv IntKind.i64 (rcut a n)) (icv IntKind.i64 (rcut b n))) (rd n))) false) : ACalls Try.prog 34 [AV.v (Value.int IntKind.u64 a), AV.v (Value.int IntKind.u64 b), AV.v (Value.int IntKind.i64 n)] [] (AV.v (Value.int IntKind.i64 (iadd IntKind.i64 (isub IntKind.i64 (icv IntKind.i64 (rcut a n)) (icv IntKind.i64 (rcut b n))) (rd n)))) [] [] :=
  .of_out [Orc.call [] (AV.v (Value.int IntKind.i64 (rd n))) [] [], Orc.call [] (AV.v (Value.int IntKind.u64 (rcut a n))) [] [], Orc.call [] (AV.v (Value.int IntKind.u64 (rcut b n))) [] [], Orc.br true, Orc.br false] [] [ACalls Try.prog 42 [AV.v (Value.int IntKind.i64 n)] [] (AV.v (Value.int IntKind.i64 (rd n))) [] [], ACalls Try.prog 43 [AV.v (Value.int IntKind.u64 a), AV.v (Value.int IntKind.i64 n)] [] (AV.v (Value.int IntKind.u64 (rcut a n))) [] [], ACalls Try.prog 43 [AV.v (Value.int IntKind.u64 b), AV.v (Value.int IntKind.i64 n)] [] (AV.v (Value.int IntKind.u64 (rcut b n))) [] [], nz 2, isB (ilt (isub IntKind.i64 (icv IntKind.i64 (rcut a n)) (icv IntKind.i64 (rcut b n))) (isub IntKind.i64 0 (iquo IntKind.i64 (rd n) 2))) true, nz 2, isB (ile (iquo IntKind.i64 (rd n) 2) (iadd IntKind.i64 (isub IntKind.i64 (icv IntKind.i64 (rcut a n)) (icv IntKind.i64 (rcut b n))) (rd n))) false] Try.func34 (by kernel_rfl) (by kernel_rfl) (.cons (by apply f42) (.cons (by apply f43) (.cons (by apply f43) (.cons h4 (.cons h5 (.cons h4 (.cons h7 .nil)))))))
theorem f34_3 (a b n : Int) (h4 : nz 2) (h5 : isB (ilt (isub IntKind.i64 (icv IntKind.i64 (rcut a n)) (icv IntKind.i64 (rcut b n))) (isub IntKind.i64 0 (iquo IntKind.i64 (rd n) 2))) false) (h7 : isB (ile (iquo IntKind.i64 (rd n) 2) (isub IntKind.i64 (icv IntKind.i64 (rcut a n)) (icv IntKind.i64 (rcut b n)))) true) : ACalls Try.prog 34 [AV.v (Value.int IntKind.u64 a), AV.v (Value.int IntKind.u64 b), AV.v (Value.int IntKind.i64 n)] [] (AV.v (Value.int IntKind.i64 (isub IntKind.i64 (isub IntKind.i64 (icv IntKind.i64 (rcut a n)) (icv IntKind.i64 (rcut b n))) (rd n)))) [] [] :=
  .of_out [Orc.call [] (AV.v (Value.int IntKind.i64 (rd n))) [] [], Orc.call [] (AV.v (Value.int IntKind.u64 (rcut a n))) [] [], Orc.call [] (AV.v (Value.int IntKind.u64 (rcut b n))) [] [], Orc.br false, Orc.br true] [] [ACalls Try.prog 42 [AV.v (Value.int IntKind.i64 n)] [] (AV.v (Value.int IntKind.i64 (rd n))) [] [], ACalls Try.prog 43 [AV.v (Value.int IntKind.u64 a), AV.v (Value.int IntKind.i64 n)] [] (AV.v (Value.int IntKind.u64 (rcut a n))) [] [], ACalls Try.prog 43 [AV.v (Value.int IntKind.u64 b), AV.v (Value.int IntKind.i64 n)] [] (AV.v (Value.int IntKind.u64 (rcut b n))) [] [], nz 2, isB (ilt (isub IntKind.i64 (icv IntKind.i64 (rcut a n)) (icv IntKind.i64 (rcut b n))) (isub IntKind.i64 0 (iquo IntKind.i64 (rd n) 2))) false, nz 2, isB (ile (iquo IntKind.i64 (rd n) 2) (isub IntKind.i64 (icv IntKind.i64 (rcut a n)) (icv IntKind.i64 (rcut b n)))) true] Try.func34 (by kernel_rfl) (by kernel_rfl) (.cons (by apply f42) (.cons (by apply f43) (.cons (by apply f43) (.cons h4 (.cons h5 (.cons h4 (.cons h7 .nil)))))))
theorem f34_4 (a b n : Int) (h4 : nz 2) (h5 : isB (ilt (isub IntKind.i64 (icv IntKind.i64 (rcut a n)) (icv IntKind.i64 (rcut b n))) (isub IntKind.i64 0 (iquo IntKind.i64 (rd n) 2))) false) (h7 : isB (ile (iquo IntKind.i64 (rd n) 2) (isub IntKind.i64 (icv IntKind.i64 (rcut a n)) (icv IntKind.i64 (rcut b n)))) false) : ACalls Try.prog 34 [AV.v (Value.int IntKind.u64 a), AV.v (Value.int IntKind.u64 b), AV.v (Value.int IntKind.i64 n)] [] (AV.v (Value.int IntKind.i64 (isub IntKind.i64 (icv IntKind.i64 (rcut a n)) (icv IntKind.i64 (rcut b n))))) [] [] :=
  .of_out [Orc.call [] (AV.v (Value.int IntKind.i64 (rd n))) [] [], Orc.call [] (AV.v (Value.int IntKind.u64 (rcut a n))) [] [], Orc.call [] (AV.v (Value.int IntKind.u64 (rcut b n))) [] [], Orc.br false, Orc.br false] [] [ACalls Try.prog 42 [AV.v (Value.int IntKind.i64 n)] [] (AV.v (Value.int IntKind.i64 (rd n))) [] [], ACalls Try.prog 43 [AV.v (Value.int IntKind.u64 a), AV.v (Value.int IntKind.i64 n)] [] (AV.v (Value.int IntKind.u64 (rcut a n))) [] [], ACalls Try.prog 43 [AV.v (Value.int IntKind.u64 b), AV.v (Value.int IntKind.i64 n)] [] (AV.v (Value.int IntKind.u64 (rcut b n))) [] [], nz 2, isB (ilt (isub IntKind.i64 (icv IntKind.i64 (rcut a n)) (icv IntKind.i64 (rcut b n))) (isub IntKind.i64 0 (iquo IntKind.i64 (rd n) 2))) false, nz 2, isB (ile (iquo IntKind.i64 (rd n) 2) (isub IntKind.i64 (icv IntKind.i64 (rcut a n)) (icv IntKind.i64 (rcut b n)))) false] Try.func34 (by kernel_rfl) (by kernel_rfl) (.cons (by apply f42) (.cons (by apply f43) (.cons (by apply f43) (.cons h4 (.cons h5 (.cons h4 (.cons h7 .nil)))))))
theorem f34 (a b n : Int) : ACalls Try.prog 34 [.v (.int .u64 a), .v (.int .u64 b), .v (.int .i64 n)] [] (.v (.int .i64 (rdif a b n))) [] [] := by
  have hz : nz 2 := by show (2 : Int) ≠ 0; decide
  unfold rdif rdif1
  cases h1 : ilt (rdif0 a b n) (isub .i64 0 (iquo .i64 (rd n) 2)) with
  | true =>
    simp only [cond_true]
    cases h2 : ile (iquo .i64 (rd n) 2) (iadd .i64 (rdif0 a b n) (rd n)) with
    | true => exact f34_1 a b n hz h1 h2
    | false => exact f34_2 a b n hz h1 h2
  | false =>
    simp only [cond_false]
    cases h2 : ile (iquo .i64 (rd n) 2) (rdif0 a b n) with
    | true => exact f34_3 a b n hz h1 h2
    | false => exact f34_4 a b n hz h1 h2
end Go.Proofs.Ytfihmphhklplnaa.Sr
