import Derived.Test.YteagpmfnhjhlfaaAbsO
import Derived.Test.YteagpmfnhjhlfaaConB
set_option linter.unusedVariables false
set_option maxRecDepth 100000
namespace Go.Proofs.Yteagpmfnhjhlfaa.Con
open Go.Abs
/-- a state's name -/
def nm (t : Int) : ByteArray := if t = 0 then (bs [99, 108, 111, 115, 101, 100]) else if t = 1 then (bs [108, 105, 115, 116, 101, 110, 105, 110, 103]) else if t = 2 then (bs [97, 115, 107, 101, 100]) else if t = 3 then (bs [116, 111, 108, 100]) else if t = 4 then (bs [111, 112, 101, 110]) else if t = 5 then (bs [102, 105, 110, 49]) else if t = 6 then (bs [102, 105, 110, 50]) else if t = 7 then (bs [99, 108, 111, 115, 105, 110, 103]) else if t = 8 then (bs [119, 97, 105, 116]) else if t = 9 then (bs [108, 101, 102, 116]) else if t = 10 then (bs [108, 97, 115, 116]) else (bs [])
theorem f23_0 (t : Int) (h : t = 0) : ACalls Try.prog 23 [.v (.int .i64 t)] [] (.v (.string (bs [99, 108, 111, 115, 101, 100]))) [] [] :=
  .of_out [.br false, .br false, .at 0] [] [isB (ilt t 0) false, isB (ile 11 t) false, eqZ t 0, inB 0 11] Try.func23 (by kernel_rfl) (by kernel_rfl) (.cons (ilt_f (by omega)) (.cons (ile_f (by omega)) (.cons h (.cons (by decide) .nil))))
theorem f23_1 (t : Int) (h : t = 1) : ACalls Try.prog 23 [.v (.int .i64 t)] [] (.v (.string (bs [108, 105, 115, 116, 101, 110, 105, 110, 103]))) [] [] :=
  .of_out [.br false, .br false, .at 1] [] [isB (ilt t 0) false, isB (ile 11 t) false, eqZ t 1, inB 1 11] Try.func23 (by kernel_rfl) (by kernel_rfl) (.cons (ilt_f (by omega)) (.cons (ile_f (by omega)) (.cons h (.cons (by decide) .nil))))
theorem f23_2 (t : Int) (h : t = 2) : ACalls Try.prog 23 [.v (.int .i64 t)] [] (.v (.string (bs [97, 115, 107, 101, 100]))) [] [] :=
  .of_out [.br false, .br false, .at 2] [] [isB (ilt t 0) false, isB (ile 11 t) false, eqZ t 2, inB 2 11] Try.func23 (by kernel_rfl) (by kernel_rfl) (.cons (ilt_f (by omega)) (.cons (ile_f (by omega)) (.cons h (.cons (by decide) .nil))))
theorem f23_3 (t : Int) (h : t = 3) : ACalls Try.prog 23 [.v (.int .i64 t)] [] (.v (.string (bs [116, 111, 108, 100]))) [] [] :=
  .of_out [.br false, .br false, .at 3] [] [isB (ilt t 0) false, isB (ile 11 t) false, eqZ t 3, inB 3 11] Try.func23 (by kernel_rfl) (by kernel_rfl) (.cons (ilt_f (by omega)) (.cons (ile_f (by omega)) (.cons h (.cons (by decide) .nil))))
theorem f23_4 (t : Int) (h : t = 4) : ACalls Try.prog 23 [.v (.int .i64 t)] [] (.v (.string (bs [111, 112, 101, 110]))) [] [] :=
  .of_out [.br false, .br false, .at 4] [] [isB (ilt t 0) false, isB (ile 11 t) false, eqZ t 4, inB 4 11] Try.func23 (by kernel_rfl) (by kernel_rfl) (.cons (ilt_f (by omega)) (.cons (ile_f (by omega)) (.cons h (.cons (by decide) .nil))))
theorem f23_5 (t : Int) (h : t = 5) : ACalls Try.prog 23 [.v (.int .i64 t)] [] (.v (.string (bs [102, 105, 110, 49]))) [] [] :=
  .of_out [.br false, .br false, .at 5] [] [isB (ilt t 0) false, isB (ile 11 t) false, eqZ t 5, inB 5 11] Try.func23 (by kernel_rfl) (by kernel_rfl) (.cons (ilt_f (by omega)) (.cons (ile_f (by omega)) (.cons h (.cons (by decide) .nil))))
theorem f23_6 (t : Int) (h : t = 6) : ACalls Try.prog 23 [.v (.int .i64 t)] [] (.v (.string (bs [102, 105, 110, 50]))) [] [] :=
  .of_out [.br false, .br false, .at 6] [] [isB (ilt t 0) false, isB (ile 11 t) false, eqZ t 6, inB 6 11] Try.func23 (by kernel_rfl) (by kernel_rfl) (.cons (ilt_f (by omega)) (.cons (ile_f (by omega)) (.cons h (.cons (by decide) .nil))))
theorem f23_7 (t : Int) (h : t = 7) : ACalls Try.prog 23 [.v (.int .i64 t)] [] (.v (.string (bs [99, 108, 111, 115, 105, 110, 103]))) [] [] :=
  .of_out [.br false, .br false, .at 7] [] [isB (ilt t 0) false, isB (ile 11 t) false, eqZ t 7, inB 7 11] Try.func23 (by kernel_rfl) (by kernel_rfl) (.cons (ilt_f (by omega)) (.cons (ile_f (by omega)) (.cons h (.cons (by decide) .nil))))
theorem f23_8 (t : Int) (h : t = 8) : ACalls Try.prog 23 [.v (.int .i64 t)] [] (.v (.string (bs [119, 97, 105, 116]))) [] [] :=
  .of_out [.br false, .br false, .at 8] [] [isB (ilt t 0) false, isB (ile 11 t) false, eqZ t 8, inB 8 11] Try.func23 (by kernel_rfl) (by kernel_rfl) (.cons (ilt_f (by omega)) (.cons (ile_f (by omega)) (.cons h (.cons (by decide) .nil))))
theorem f23_9 (t : Int) (h : t = 9) : ACalls Try.prog 23 [.v (.int .i64 t)] [] (.v (.string (bs [108, 101, 102, 116]))) [] [] :=
  .of_out [.br false, .br false, .at 9] [] [isB (ilt t 0) false, isB (ile 11 t) false, eqZ t 9, inB 9 11] Try.func23 (by kernel_rfl) (by kernel_rfl) (.cons (ilt_f (by omega)) (.cons (ile_f (by omega)) (.cons h (.cons (by decide) .nil))))
theorem f23_10 (t : Int) (h : t = 10) : ACalls Try.prog 23 [.v (.int .i64 t)] [] (.v (.string (bs [108, 97, 115, 116]))) [] [] :=
  .of_out [.br false, .br false, .at 10] [] [isB (ilt t 0) false, isB (ile 11 t) false, eqZ t 10, inB 10 11] Try.func23 (by kernel_rfl) (by kernel_rfl) (.cons (ilt_f (by omega)) (.cons (ile_f (by omega)) (.cons h (.cons (by decide) .nil))))
theorem f23_lo (t : Int) (h : t < 0) : ACalls Try.prog 23 [.v (.int .i64 t)] [] (.v (.string (bs []))) [] [] :=
  .of_out [.br true, .br true] [] [isB (ilt t 0) true, isB true true] Try.func23 (by kernel_rfl) (by kernel_rfl) (.cons (ilt_t h) (.cons rfl .nil))
theorem f23_hi (t : Int) (h : 11 ≤ t) : ACalls Try.prog 23 [.v (.int .i64 t)] [] (.v (.string (bs []))) [] [] :=
  .of_out [.br false, .br true] [] [isB (ilt t 0) false, isB (ile 11 t) true] Try.func23 (by kernel_rfl) (by kernel_rfl) (.cons (ilt_f (by omega)) (.cons (ile_t h) .nil))
theorem g23 (t : Int) : ACalls Try.prog 23 [.v (.int .i64 t)] [] (.v (.string (nm t))) [] [] := by
  by_cases h0 : t < 0
  · have e : nm t = bs [] := by unfold nm; repeat rw [if_neg (by omega)]
    rw [e]; exact f23_lo t h0
  by_cases h1 : 11 ≤ t
  · have e : nm t = bs [] := by unfold nm; repeat rw [if_neg (by omega)]
    rw [e]; exact f23_hi t h1
  have h : t = 0 ∨ t = 1 ∨ t = 2 ∨ t = 3 ∨ t = 4 ∨ t = 5 ∨ t = 6 ∨ t = 7 ∨ t = 8 ∨ t = 9 ∨ t = 10 := by omega
  rcases h with h | h | h | h | h | h | h | h | h | h | h
  · have k := f23_0 t h
    subst h; exact k
  · have k := f23_1 t h
    subst h; exact k
  · have k := f23_2 t h
    subst h; exact k
  · have k := f23_3 t h
    subst h; exact k
  · have k := f23_4 t h
    subst h; exact k
  · have k := f23_5 t h
    subst h; exact k
  · have k := f23_6 t h
    subst h; exact k
  · have k := f23_7 t h
    subst h; exact k
  · have k := f23_8 t h
    subst h; exact k
  · have k := f23_9 t h
    subst h; exact k
  · have k := f23_10 t h
    subst h; exact k
end Go.Proofs.Yteagpmfnhjhlfaa.Con
