import Derived.Test.YteagpmfnhjhlfaaAbsO
import Derived.Test.YteagpmfnhjhlfaaConA
set_option maxRecDepth 100000
set_option linter.all false
set_option maxHeartbeats 4000000
set_option linter.unusedSimpArgs false
set_option linter.unusedVariables false
namespace Go.Proofs.Yteagpmfnhjhlfaa.Con
open Go.Abs Go.Proofs.Yteagpmfnhjhlfaa.Ser
/-- a flag -/
def bt (f m : Int) : Bool := decide (f / m % 2 = 1)
def bt2 (f : Int) : Bool := bif bt f 2 then bt f 16 else false
theorem iand_w (a b : Int) : iand .u8 (a % 256) b = iand .u8 a b := by
  unfold iand bits
  have e : BitVec.ofInt IntKind.u8.bits (a % 256) = BitVec.ofInt IntKind.u8.bits a := by
    apply BitVec.eq_of_toInt_eq
    rw [BitVec.toInt_ofInt, BitVec.toInt_ofInt]
    show (a % 256).bmod (2^8) = a.bmod (2^8)
    rw [Int.bmod_def, Int.bmod_def]
    have h : ((2 ^ 8 : Nat) : Int) = 256 := rfl
    rw [h, Int.emod_emod_of_dvd _ (Int.dvd_refl 256)]
  simp only [e]
theorem bt_all : ∀ n : Fin 256, ieq (iand .u8 ((n.val : Nat) : Int) 1) 1 = bt ((n.val : Nat) : Int) 1 ∧ ieq (iand .u8 ((n.val : Nat) : Int) 2) 2 = bt ((n.val : Nat) : Int) 2 ∧ ieq (iand .u8 ((n.val : Nat) : Int) 4) 4 = bt ((n.val : Nat) : Int) 4 ∧ ieq (iand .u8 ((n.val : Nat) : Int) 16) 16 = bt ((n.val : Nat) : Int) 16 ∧ ieq (iand .u8 ((n.val : Nat) : Int) 18) 18 = bt2 ((n.val : Nat) : Int) := by decide
theorem bt_eq (f : Int) : ieq (iand .u8 f 1) 1 = bt f 1 ∧ ieq (iand .u8 f 2) 2 = bt f 2 ∧ ieq (iand .u8 f 4) 4 = bt f 4 ∧ ieq (iand .u8 f 16) 16 = bt f 16 ∧ ieq (iand .u8 f 18) 18 = bt2 f := by
  have h := bt_all ⟨(f % 256).toNat, by omega⟩
  have e : (((f % 256).toNat : Nat) : Int) = f % 256 := by omega
  simp only [e, iand_w] at h
  have e1 : bt (f % 256) 1 = bt f 1 := by unfold bt; congr 1; apply propext; omega
  have e2 : bt (f % 256) 2 = bt f 2 := by unfold bt; congr 1; apply propext; omega
  have e4 : bt (f % 256) 4 = bt f 4 := by unfold bt; congr 1; apply propext; omega
  have e16 : bt (f % 256) 16 = bt f 16 := by unfold bt; congr 1; apply propext; omega
  unfold bt2 at *
  rw [e1, e2, e4, e16] at h; exact h
def b8 (f : Int) : Bool := decide (0 ≤ f) && decide (f < 256)
theorem bt_r (f : Int) (hf : b8 f = true) : ieq (irem (iquo .u8 f 1) 2) 1 = bt f 1 ∧ ieq (irem (iquo .u8 f 2) 2) 1 = bt f 2 ∧ ieq (irem (iquo .u8 f 4) 2) 1 = bt f 4 ∧ ieq (irem (iquo .u8 f 16) 2) 1 = bt f 16 := by
  simp [b8] at hf
  refine ⟨?_, ?_, ?_, ?_⟩ <;>
  · unfold bt irem iquo
    rw [ieq_d]
    congr 1
    rw [w_u8, Int.tdiv_eq_ediv_of_nonneg hf.1, Int.tmod_eq_emod_of_nonneg (by omega)]
    apply propext; omega
/-- what is asked -/
def askb (c : Int) : Int := if 1 < c then 7 else if c = 1 then 3 else 0
theorem g58 (c : Int) : ACalls Try.prog 58 [.v (.int .i64 c)] [] (.v (.int .u8 (askb c))) [] [] := by
  have h := f58 c
  have e : f58r0 c = askb c := by
    unfold f58r0 askb
    simp only [ilt_d, ile_d, ieq_d, cond_if, decide_eq_true_eq]
    repeat' split
    all_goals omega
  rw [e] at h; exact h
theorem g59 (c : Int) : ACalls Try.prog 59 [.v (.int .i64 c)] [] (.v (.int .u8 (askb c))) [] [] := by
  have h := f59 c
  have e : f59r0 c = askb c := by
    unfold f59r0 askb
    simp only [ilt_d, ile_d, ieq_d, cond_if, decide_eq_true_eq]
  rw [e] at h; exact h
/-- with what a count begins -/
def sta (c : Int) : Int := if c = 6 then 6 else 5
theorem g48 (c : Int) : ACalls Try.prog 48 [.v (.int .u8 c)] [] (.v (.int .i64 (sta c))) [] [] := by
  have h := f48 c
  have e : f48r0 c = sta c := by
    unfold f48r0 sta shb shn
    simp only [ieq_d, cond_if, Bool.or_eq_true, decide_eq_true_eq]
    repeat' split
    all_goals omega
  rw [e] at h; exact h
theorem g34 (c : Int) : ACalls Try.prog 34 [.v (.int .u8 c)] [] (.v (.int .i64 (sta c))) [] [] := by
  have h := f34 c
  have e : f34r0 c = sta c := by
    unfold f34r0 sta
    simp only [ieq_d, cond_if, decide_eq_true_eq]
  rw [e] at h; exact h
/-- what is answered, and the mode -/
def rpl (a c b : Int) : Int := if a = 7 ∧ 1 < b then max (shk c) 2 else if (a = 7 ∨ a = 3) ∧ 0 < b then 1 else 0
def rpm (a b : Int) : Int := if a = 7 ∧ 1 < b then 2 else if (a = 7 ∨ a = 3) ∧ 0 < b then 1 else 0
theorem shk_bd (c : Int) : shk c = 0 ∨ 2 ≤ shk c := by unfold shk; repeat' split
                                                       all_goals omega
theorem g46 (a c b : Int) : ACalls Try.prog 46 [.v (.int .u8 a), .v (.int .i64 c), .v (.int .i64 b)] [] (.tup [.v (.int .u8 (rpl a c b)), .v (.int .i64 (rpm a b))]) [] [] := by
  have h := f46 a c b
  have e : f46r0 a c b = rpl a c b := by
    unfold f46r0 rpl
    rw [k55.1]
    simp only [ilt_d, ile_d, ieq_d, imax, cond_if, decide_eq_true_eq]
    repeat' split
    all_goals omega
  have e1 : f46r1 a c b = rpm a b := by
    unfold f46r1 rpm
    simp only [ilt_d, ile_d, ieq_d, imax, cond_if, decide_eq_true_eq]
    repeat' split
    all_goals omega
  rw [e, e1] at h; exact h
theorem g56 (a c b : Int) : ACalls Try.prog 56 [.v (.int .u8 a), .v (.int .i64 c), .v (.int .i64 b)] [] (.tup [.v (.int .u8 (rpl a c b)), .v (.int .i64 (rpm a b))]) [] [] := by
  have h := f56 a c b
  have hb := shk_bd c
  have e : f56r0 a c b = rpl a c b := by
    unfold f56r0 rpl
    simp only [ilt_d, ile_d, ieq_d, imax, cond_if, decide_eq_true_eq]
    repeat' split
    all_goals omega
  have e1 : f56r1 a c b = rpm a b := by
    unfold f56r1 rpm
    simp only [ilt_d, ile_d, ieq_d, imax, cond_if, decide_eq_true_eq]
    repeat' split
    all_goals omega
  rw [e, e1] at h; exact h
/-- the mode, and the code with which the question came -/
def stm (a c : Int) : Int := if 1 < a ∧ shb c = true then 2 else if 0 < a ∧ (c = 1 ∨ c = 5) then 1 else 0
def stc (a c : Int) : Int := if 1 < a ∧ shb c = true then shn c else 0
theorem g47 (a c : Int) : ACalls Try.prog 47 [.v (.int .i64 a), .v (.int .u8 c)] [] (.tup [.v (.int .i64 (stm a c)), .v (.int .i64 (stc a c))]) [] [] := by
  have h := f47 a c
  have e : f47r0 a c = stm a c := by
    unfold f47r0 stm
    simp only [ilt_d, ile_d, ieq_d, imax, cond_if, decide_eq_true_eq]
    cases shb c <;> simp <;> repeat' split
    all_goals omega
  have e1 : f47r1 a c = stc a c := by
    unfold f47r1 stc
    simp only [ilt_d, ile_d, ieq_d, imax, cond_if, decide_eq_true_eq]
    cases shb c <;> simp <;> repeat' split
    all_goals omega
  rw [e, e1] at h; exact h
theorem g53 (a c : Int) : ACalls Try.prog 53 [.v (.int .i64 a), .v (.int .u8 c)] [] (.tup [.v (.int .i64 (stm a c)), .v (.int .i64 (stc a c))]) [] [] := by
  have h := f53 a c
  have e : f53r0 a c = stm a c := by
    unfold f53r0 stm
    simp only [ilt_d, ile_d, ieq_d, imax, cond_if, decide_eq_true_eq]
    cases shb c <;> simp <;> repeat' split
    all_goals omega
  have e1 : f53r1 a c = stc a c := by
    unfold f53r1 stc
    simp only [ilt_d, ile_d, ieq_d, imax, cond_if, decide_eq_true_eq]
    cases shb c <;> simp <;> repeat' split
    all_goals omega
  rw [e, e1] at h; exact h
theorem g49 (a b : Int) : ACalls Try.prog 49 [.v (.int .u32 a), .v (.int .u32 b)] [] (.v (.bool (nw a b))) [] [] := f49 a b
theorem g33 (a b : Int) : ACalls Try.prog 33 [.v (.int .u32 a), .v (.int .u32 b)] [] (.v (.bool (nw a b))) [] [] := by
  have h := f33 a b
  have e : f33r0 a b = nw a b := by unfold f33r0 nw; rw [dif_rdif _ _ _ (uu a) (uu b)]
  rw [e] at h; exact h
/-- a header -/
@[reducible] def hd (s d q a o e f w u r : Int) : AV := .agg [.v (.int .u16 s), .v (.int .u16 d), .v (.int .u32 q), .v (.int .u32 a), .v (.int .u8 o), .v (.int .u8 e), .v (.int .u8 f), .v (.int .u16 w), .v (.int .u16 u), .v (.int .u16 r)]
theorem g44_1 (s d q a o e f w u r : Int) : ACalls Try.prog 44 [.agg [.v (.int .u16 s), .v (.int .u16 d), .v (.int .u32 q), .v (.int .u32 a), .v (.int .u8 o), .v (.int .u8 e), .v (.int .u8 f), .v (.int .u16 w), .v (.int .u16 u), .v (.int .u16 r)], .v (.int .u8 1)] [] (.v (.bool (bt f 1))) [] [] := by
  have h := f44 s d q a o e f w u r 1
  have e := (bt_eq f).1
  rw [e] at h; exact h
theorem g44_2 (s d q a o e f w u r : Int) : ACalls Try.prog 44 [.agg [.v (.int .u16 s), .v (.int .u16 d), .v (.int .u32 q), .v (.int .u32 a), .v (.int .u8 o), .v (.int .u8 e), .v (.int .u8 f), .v (.int .u16 w), .v (.int .u16 u), .v (.int .u16 r)], .v (.int .u8 2)] [] (.v (.bool (bt f 2))) [] [] := by
  have h := f44 s d q a o e f w u r 2
  have e := (bt_eq f).2.1
  rw [e] at h; exact h
theorem g44_4 (s d q a o e f w u r : Int) : ACalls Try.prog 44 [.agg [.v (.int .u16 s), .v (.int .u16 d), .v (.int .u32 q), .v (.int .u32 a), .v (.int .u8 o), .v (.int .u8 e), .v (.int .u8 f), .v (.int .u16 w), .v (.int .u16 u), .v (.int .u16 r)], .v (.int .u8 4)] [] (.v (.bool (bt f 4))) [] [] := by
  have h := f44 s d q a o e f w u r 4
  have e := (bt_eq f).2.2.1
  rw [e] at h; exact h
theorem g44_16 (s d q a o e f w u r : Int) : ACalls Try.prog 44 [.agg [.v (.int .u16 s), .v (.int .u16 d), .v (.int .u32 q), .v (.int .u32 a), .v (.int .u8 o), .v (.int .u8 e), .v (.int .u8 f), .v (.int .u16 w), .v (.int .u16 u), .v (.int .u16 r)], .v (.int .u8 16)] [] (.v (.bool (bt f 16))) [] [] := by
  have h := f44 s d q a o e f w u r 16
  have e := (bt_eq f).2.2.2.1
  rw [e] at h; exact h
theorem g44_18 (s d q a o e f w u r : Int) : ACalls Try.prog 44 [.agg [.v (.int .u16 s), .v (.int .u16 d), .v (.int .u32 q), .v (.int .u32 a), .v (.int .u8 o), .v (.int .u8 e), .v (.int .u8 f), .v (.int .u16 w), .v (.int .u16 u), .v (.int .u16 r)], .v (.int .u8 18)] [] (.v (.bool (bt2 f))) [] [] := by
  have h := f44 s d q a o e f w u r 18
  have e := (bt_eq f).2.2.2.2
  rw [e] at h; exact h
theorem g31_1 (s d q a o e f w u r : Int) (hf : b8 f = true) : ACalls Try.prog 31 [.agg [.v (.int .u16 s), .v (.int .u16 d), .v (.int .u32 q), .v (.int .u32 a), .v (.int .u8 o), .v (.int .u8 e), .v (.int .u8 f), .v (.int .u16 w), .v (.int .u16 u), .v (.int .u16 r)], .v (.int .u8 1)] [] (.v (.bool (bt f 1))) [] [] := by
  have h := f31 s d q a o e f w u r 1 (by simp [nz])
  have e : f31r0 s d q a o e f w u r 1 = bt f 1 := (bt_r f hf).1
  rw [e] at h; exact h
theorem g31_2 (s d q a o e f w u r : Int) (hf : b8 f = true) : ACalls Try.prog 31 [.agg [.v (.int .u16 s), .v (.int .u16 d), .v (.int .u32 q), .v (.int .u32 a), .v (.int .u8 o), .v (.int .u8 e), .v (.int .u8 f), .v (.int .u16 w), .v (.int .u16 u), .v (.int .u16 r)], .v (.int .u8 2)] [] (.v (.bool (bt f 2))) [] [] := by
  have h := f31 s d q a o e f w u r 2 (by simp [nz])
  have e : f31r0 s d q a o e f w u r 2 = bt f 2 := (bt_r f hf).2.1
  rw [e] at h; exact h
theorem g31_4 (s d q a o e f w u r : Int) (hf : b8 f = true) : ACalls Try.prog 31 [.agg [.v (.int .u16 s), .v (.int .u16 d), .v (.int .u32 q), .v (.int .u32 a), .v (.int .u8 o), .v (.int .u8 e), .v (.int .u8 f), .v (.int .u16 w), .v (.int .u16 u), .v (.int .u16 r)], .v (.int .u8 4)] [] (.v (.bool (bt f 4))) [] [] := by
  have h := f31 s d q a o e f w u r 4 (by simp [nz])
  have e : f31r0 s d q a o e f w u r 4 = bt f 4 := (bt_r f hf).2.2.1
  rw [e] at h; exact h
theorem g31_16 (s d q a o e f w u r : Int) (hf : b8 f = true) : ACalls Try.prog 31 [.agg [.v (.int .u16 s), .v (.int .u16 d), .v (.int .u32 q), .v (.int .u32 a), .v (.int .u8 o), .v (.int .u8 e), .v (.int .u8 f), .v (.int .u16 w), .v (.int .u16 u), .v (.int .u16 r)], .v (.int .u8 16)] [] (.v (.bool (bt f 16))) [] [] := by
  have h := f31 s d q a o e f w u r 16 (by simp [nz])
  have e : f31r0 s d q a o e f w u r 16 = bt f 16 := (bt_r f hf).2.2.2
  rw [e] at h; exact h
/-- a flag, as the document asks for it -/
def rb (f m : Int) : Bool := ieq (irem (iquo .u8 f m) 2) 1
theorem q31 (s d q a o e f w u r m : Int) (h : nz m) : ACalls Try.prog 31 [.agg [.v (.int .u16 s), .v (.int .u16 d), .v (.int .u32 q), .v (.int .u32 a), .v (.int .u8 o), .v (.int .u8 e), .v (.int .u8 f), .v (.int .u16 w), .v (.int .u16 u), .v (.int .u16 r)], .v (.int .u8 m)] [] (.v (.bool (rb f m))) [] [] := f31 s d q a o e f w u r m h
@[reducible] def sH : List CK := [CK.int IntKind.u16, CK.int IntKind.u16, CK.int IntKind.u32, CK.int IntKind.u32, CK.int IntKind.u8, CK.int IntKind.u8, CK.int IntKind.u8, CK.int IntKind.u16, CK.int IntKind.u16, CK.int IntKind.u16]
@[reducible] def cC (t n i u x y m k p z l : Int) : AV := AV.agg [AV.v (Value.int .i64 t), AV.v (Value.int .i64 n), AV.v (Value.int .u32 i), AV.v (Value.int .u32 u), AV.v (Value.int .u32 x), AV.v (Value.int .u32 y), AV.v (Value.int .i64 m), AV.v (Value.int .i64 k), AV.v (Value.int .u8 p), AV.v (Value.int .i64 z), AV.v (Value.int .i64 l)]
@[reducible] def hH (s d q a o e f w g r : Int) : AV := AV.agg [AV.v (Value.int .u16 s), AV.v (Value.int .u16 d), AV.v (Value.int .u32 q), AV.v (Value.int .u32 a), AV.v (Value.int .u8 o), AV.v (Value.int .u8 e), AV.v (Value.int .u8 f), AV.v (Value.int .u16 w), AV.v (Value.int .u16 g), AV.v (Value.int .u16 r)]
@[reducible] def iI (x : Int) : AV := AV.v (Value.int .i64 x)
@[reducible] def iW (x : Int) : AV := AV.v (Value.int .u32 x)
@[reducible] def kK (s d q a o e f w g r j : Int) : Prop := ACalls Try.prog 31 [hH s d q a o e f w g r, AV.v (Value.int .u8 j)] [] (AV.v (Value.bool (rb f j))) [] []
theorem f40_1 (l : List (Int × Int × Int × Int × Int × Int × Int × Int × Int × Int))  : ACalls Try.prog 40 [AV.sw 0 10] [AObj.rows true [CK.int IntKind.u16, CK.int IntKind.u16, CK.int IntKind.u32, CK.int IntKind.u32, CK.int IntKind.u8, CK.int IntKind.u8, CK.int IntKind.u8, CK.int IntKind.u16, CK.int IntKind.u16, CK.int IntKind.u16] l] (AV.sw 0 10) [] [] :=
  ACalls.nb (res := AV.sw 0 10) (.of_out [] [0] [] Try.func40 (by kernel_rfl) (by kernel_rfl) .nil)
theorem f40 (l : List (Int × Int × Int × Int × Int × Int × Int × Int × Int × Int)) : ACalls Try.prog 40 [AV.sw 0 10] [AObj.rows true [CK.int IntKind.u16, CK.int IntKind.u16, CK.int IntKind.u32, CK.int IntKind.u32, CK.int IntKind.u8, CK.int IntKind.u8, CK.int IntKind.u8, CK.int IntKind.u16, CK.int IntKind.u16, CK.int IntKind.u16] l] (AV.sw 0 10) [] [] := (f40_1 l)
theorem f38_1 (t : Int) (n : Int) (i : Int) (u : Int) (x : Int) (y : Int) (m : Int) (k : Int) (p : Int) (z : Int) (l : Int)  : ACalls Try.prog 38 [AV.agg [AV.v (.int .i64 t), AV.v (.int .i64 n), AV.v (.int .u32 i), AV.v (.int .u32 u), AV.v (.int .u32 x), AV.v (.int .u32 y), AV.v (.int .i64 m), AV.v (.int .i64 k), AV.v (.int .u8 p), AV.v (.int .i64 z), AV.v (.int .i64 l)]] [] (AV.agg [AV.v (.int .u16 0), AV.v (.int .u16 0), AV.v (.int .u32 i), AV.v (.int .u32 y), AV.v (.int .u8 5), AV.v (.int .u8 p), AV.v (.int .u8 18), AV.v (.int .u16 0), AV.v (.int .u16 0), AV.v (.int .u16 0)]) [] [] :=
  ACalls.nb (res := AV.agg [AV.v (.int .u16 0), AV.v (.int .u16 0), AV.v (.int .u32 i), AV.v (.int .u32 y), AV.v (.int .u8 5), AV.v (.int .u8 p), AV.v (.int .u8 18), AV.v (.int .u16 0), AV.v (.int .u16 0), AV.v (.int .u16 0)]) (.of_out [] [] [] Try.func38 (by kernel_rfl) (by kernel_rfl) .nil)
theorem f38 (t : Int) (n : Int) (i : Int) (u : Int) (x : Int) (y : Int) (m : Int) (k : Int) (p : Int) (z : Int) (l : Int) : ACalls Try.prog 38 [AV.agg [AV.v (.int .i64 t), AV.v (.int .i64 n), AV.v (.int .u32 i), AV.v (.int .u32 u), AV.v (.int .u32 x), AV.v (.int .u32 y), AV.v (.int .i64 m), AV.v (.int .i64 k), AV.v (.int .u8 p), AV.v (.int .i64 z), AV.v (.int .i64 l)]] [] (AV.agg [AV.v (.int .u16 0), AV.v (.int .u16 0), AV.v (.int .u32 i), AV.v (.int .u32 y), AV.v (.int .u8 5), AV.v (.int .u8 p), AV.v (.int .u8 18), AV.v (.int .u16 0), AV.v (.int .u16 0), AV.v (.int .u16 0)]) [] [] := (f38_1 t n i u x y m k p z l)
theorem f36_1 (t : Int) (n : Int) (i : Int) (u : Int) (x : Int) (y : Int) (m : Int) (k : Int) (p : Int) (z : Int) (l : Int)  : ACalls Try.prog 36 [AV.agg [AV.v (.int .i64 t), AV.v (.int .i64 n), AV.v (.int .u32 i), AV.v (.int .u32 u), AV.v (.int .u32 x), AV.v (.int .u32 y), AV.v (.int .i64 m), AV.v (.int .i64 k), AV.v (.int .u8 p), AV.v (.int .i64 z), AV.v (.int .i64 l)]] [] (AV.agg [AV.v (.int .u16 0), AV.v (.int .u16 0), AV.v (.int .u32 (isub IntKind.u32 x 1)), AV.v (.int .u32 y), AV.v (.int .u8 5), AV.v (.int .u8 0), AV.v (.int .u8 17), AV.v (.int .u16 0), AV.v (.int .u16 0), AV.v (.int .u16 0)]) [] [] :=
  ACalls.nb (res := AV.agg [AV.v (.int .u16 0), AV.v (.int .u16 0), AV.v (.int .u32 (isub IntKind.u32 x 1)), AV.v (.int .u32 y), AV.v (.int .u8 5), AV.v (.int .u8 0), AV.v (.int .u8 17), AV.v (.int .u16 0), AV.v (.int .u16 0), AV.v (.int .u16 0)]) (.of_out [] [] [] Try.func36 (by kernel_rfl) (by kernel_rfl) .nil)
theorem f36 (t : Int) (n : Int) (i : Int) (u : Int) (x : Int) (y : Int) (m : Int) (k : Int) (p : Int) (z : Int) (l : Int) : ACalls Try.prog 36 [AV.agg [AV.v (.int .i64 t), AV.v (.int .i64 n), AV.v (.int .u32 i), AV.v (.int .u32 u), AV.v (.int .u32 x), AV.v (.int .u32 y), AV.v (.int .i64 m), AV.v (.int .i64 k), AV.v (.int .u8 p), AV.v (.int .i64 z), AV.v (.int .i64 l)]] [] (AV.agg [AV.v (.int .u16 0), AV.v (.int .u16 0), AV.v (.int .u32 (isub IntKind.u32 x 1)), AV.v (.int .u32 y), AV.v (.int .u8 5), AV.v (.int .u8 0), AV.v (.int .u8 17), AV.v (.int .u16 0), AV.v (.int .u16 0), AV.v (.int .u16 0)]) [] [] := (f36_1 t n i u x y m k p z l)
def f37r0 (t : Int) (n : Int) (i : Int) (u : Int) (x : Int) (y : Int) (m : Int) (k : Int) (p : Int) (z : Int) (l : Int) : Int := bif ilt l 2 then askb n else 0
theorem f37_1 (t : Int) (n : Int) (i : Int) (u : Int) (x : Int) (y : Int) (m : Int) (k : Int) (p : Int) (z : Int) (l : Int)  (d0 : (ilt l 2) = true) : ACalls Try.prog 37 [AV.agg [AV.v (.int .i64 t), AV.v (.int .i64 n), AV.v (.int .u32 i), AV.v (.int .u32 u), AV.v (.int .u32 x), AV.v (.int .u32 y), AV.v (.int .i64 m), AV.v (.int .i64 k), AV.v (.int .u8 p), AV.v (.int .i64 z), AV.v (.int .i64 l)]] [] (AV.agg [AV.v (.int .u16 0), AV.v (.int .u16 0), AV.v (.int .u32 i), AV.v (.int .u32 0), AV.v (.int .u8 5), AV.v (.int .u8 (askb n)), AV.v (.int .u8 2), AV.v (.int .u16 0), AV.v (.int .u16 0), AV.v (.int .u16 0)]) [] [] :=
  ACalls.nb (res := AV.agg [AV.v (.int .u16 0), AV.v (.int .u16 0), AV.v (.int .u32 i), AV.v (.int .u32 0), AV.v (.int .u8 5), AV.v (.int .u8 (askb n)), AV.v (.int .u8 2), AV.v (.int .u16 0), AV.v (.int .u16 0), AV.v (.int .u16 0)]) (.of_out [Orc.br true, Orc.call [] (AV.v (.int .u8 (askb n))) [] []] [] [isB (ilt l 2) true, ACalls Try.prog 58 [AV.v (.int .i64 n)] [] (AV.v (.int .u8 (askb n))) [] []] Try.func37 (by kernel_rfl) (by kernel_rfl) (.cons d0 (.cons (by apply g58) .nil)))
theorem f37_2 (t : Int) (n : Int) (i : Int) (u : Int) (x : Int) (y : Int) (m : Int) (k : Int) (p : Int) (z : Int) (l : Int)  (d0 : (ilt l 2) = false) : ACalls Try.prog 37 [AV.agg [AV.v (.int .i64 t), AV.v (.int .i64 n), AV.v (.int .u32 i), AV.v (.int .u32 u), AV.v (.int .u32 x), AV.v (.int .u32 y), AV.v (.int .i64 m), AV.v (.int .i64 k), AV.v (.int .u8 p), AV.v (.int .i64 z), AV.v (.int .i64 l)]] [] (AV.agg [AV.v (.int .u16 0), AV.v (.int .u16 0), AV.v (.int .u32 i), AV.v (.int .u32 0), AV.v (.int .u8 5), AV.v (.int .u8 0), AV.v (.int .u8 2), AV.v (.int .u16 0), AV.v (.int .u16 0), AV.v (.int .u16 0)]) [] [] :=
  ACalls.nb (res := AV.agg [AV.v (.int .u16 0), AV.v (.int .u16 0), AV.v (.int .u32 i), AV.v (.int .u32 0), AV.v (.int .u8 5), AV.v (.int .u8 0), AV.v (.int .u8 2), AV.v (.int .u16 0), AV.v (.int .u16 0), AV.v (.int .u16 0)]) (.of_out [Orc.br false] [] [isB (ilt l 2) false] Try.func37 (by kernel_rfl) (by kernel_rfl) (.cons d0 .nil))
theorem f37 (t : Int) (n : Int) (i : Int) (u : Int) (x : Int) (y : Int) (m : Int) (k : Int) (p : Int) (z : Int) (l : Int) : ACalls Try.prog 37 [AV.agg [AV.v (.int .i64 t), AV.v (.int .i64 n), AV.v (.int .u32 i), AV.v (.int .u32 u), AV.v (.int .u32 x), AV.v (.int .u32 y), AV.v (.int .i64 m), AV.v (.int .i64 k), AV.v (.int .u8 p), AV.v (.int .i64 z), AV.v (.int .i64 l)]] [] (AV.agg [AV.v (.int .u16 0), AV.v (.int .u16 0), AV.v (.int .u32 i), AV.v (.int .u32 0), AV.v (.int .u8 5), AV.v (.int .u8 (f37r0 t n i u x y m k p z l)), AV.v (.int .u8 2), AV.v (.int .u16 0), AV.v (.int .u16 0), AV.v (.int .u16 0)]) [] [] := by
  have h := (ACalls.cond (ilt l 2) (fun d0 => (f37_1 t n i u x y m k p z l d0)) (fun d0 => (f37_2 t n i u x y m k p z l d0)))
  simp only [c_int, c_bool, c_str, c_agg, c_tup, c_fn, c_ifc, c_sl, c_pe, c_ptr, c_rows, c_siter, c_consA, c_consU, c_consO, c_cells, c_ints, c_bools, c_strs, c_same] at h
  exact h
theorem f39_1 (t : Int) (n : Int) (i : Int) (u : Int) (x : Int) (y : Int) (m : Int) (k : Int) (p : Int) (z : Int) (l : Int)  : ACalls Try.prog 39 [AV.agg [AV.v (.int .i64 t), AV.v (.int .i64 n), AV.v (.int .u32 i), AV.v (.int .u32 u), AV.v (.int .u32 x), AV.v (.int .u32 y), AV.v (.int .i64 m), AV.v (.int .i64 k), AV.v (.int .u8 p), AV.v (.int .i64 z), AV.v (.int .i64 l)]] [] (AV.agg [AV.v (.int .u16 0), AV.v (.int .u16 0), AV.v (.int .u32 x), AV.v (.int .u32 y), AV.v (.int .u8 5), AV.v (.int .u8 0), AV.v (.int .u8 16), AV.v (.int .u16 0), AV.v (.int .u16 0), AV.v (.int .u16 0)]) [] [] :=
  ACalls.nb (res := AV.agg [AV.v (.int .u16 0), AV.v (.int .u16 0), AV.v (.int .u32 x), AV.v (.int .u32 y), AV.v (.int .u8 5), AV.v (.int .u8 0), AV.v (.int .u8 16), AV.v (.int .u16 0), AV.v (.int .u16 0), AV.v (.int .u16 0)]) (.of_out [] [] [] Try.func39 (by kernel_rfl) (by kernel_rfl) .nil)
theorem f39 (t : Int) (n : Int) (i : Int) (u : Int) (x : Int) (y : Int) (m : Int) (k : Int) (p : Int) (z : Int) (l : Int) : ACalls Try.prog 39 [AV.agg [AV.v (.int .i64 t), AV.v (.int .i64 n), AV.v (.int .u32 i), AV.v (.int .u32 u), AV.v (.int .u32 x), AV.v (.int .u32 y), AV.v (.int .i64 m), AV.v (.int .i64 k), AV.v (.int .u8 p), AV.v (.int .i64 z), AV.v (.int .i64 l)]] [] (AV.agg [AV.v (.int .u16 0), AV.v (.int .u16 0), AV.v (.int .u32 x), AV.v (.int .u32 y), AV.v (.int .u8 5), AV.v (.int .u8 0), AV.v (.int .u8 16), AV.v (.int .u16 0), AV.v (.int .u16 0), AV.v (.int .u16 0)]) [] [] := (f39_1 t n i u x y m k p z l)
theorem f45_1 (q : Int)  : ACalls Try.prog 45 [AV.v (.int .u32 q)] [] (AV.agg [AV.v (.int .u16 0), AV.v (.int .u16 0), AV.v (.int .u32 q), AV.v (.int .u32 0), AV.v (.int .u8 5), AV.v (.int .u8 0), AV.v (.int .u8 4), AV.v (.int .u16 0), AV.v (.int .u16 0), AV.v (.int .u16 0)]) [] [] :=
  ACalls.nb (res := AV.agg [AV.v (.int .u16 0), AV.v (.int .u16 0), AV.v (.int .u32 q), AV.v (.int .u32 0), AV.v (.int .u8 5), AV.v (.int .u8 0), AV.v (.int .u8 4), AV.v (.int .u16 0), AV.v (.int .u16 0), AV.v (.int .u16 0)]) (.of_out [] [] [] Try.func45 (by kernel_rfl) (by kernel_rfl) .nil)
theorem f45 (q : Int) : ACalls Try.prog 45 [AV.v (.int .u32 q)] [] (AV.agg [AV.v (.int .u16 0), AV.v (.int .u16 0), AV.v (.int .u32 q), AV.v (.int .u32 0), AV.v (.int .u8 5), AV.v (.int .u8 0), AV.v (.int .u8 4), AV.v (.int .u16 0), AV.v (.int .u16 0), AV.v (.int .u16 0)]) [] [] := (f45_1 q)
end Go.Proofs.Yteagpmfnhjhlfaa.Con
