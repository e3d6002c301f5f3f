import Derived.Test.YtmaalibjfjokeaaAbsO
import Derived.Test.YtmaalibjfjokeaaSerFb
set_option maxRecDepth 100000
set_option maxHeartbeats 4000000
set_option linter.unusedSimpArgs false
set_option linter.unusedVariables false
namespace Go.Proofs.Ytmaalibjfjokeaa.Ace
open Go.Abs Go.Proofs.Ytmaalibjfjokeaa.Ser
def f35r0 (last : Int) (bits : Int) : Int := icv .i64 (cut (isub .u64 (icv .u64 bits) (icv .u64 last)) 3)
theorem f35_1 (last : Int) (bits : Int)  : ACalls Try.prog 35 [AV.v (.int .i64 last), AV.v (.int .u8 bits)] [] (AV.v (.int .i64 (icv .i64 (cut (isub .u64 (icv .u64 bits) (icv .u64 last)) 3)))) [] [] :=
  ACalls.nb (res := AV.v (.int .i64 (icv .i64 (cut (isub .u64 (icv .u64 bits) (icv .u64 last)) 3)))) (.of_out [Orc.call [] (AV.v (.int .u64 (cut (isub .u64 (icv .u64 bits) (icv .u64 last)) 3))) [] []] [] [ACalls Try.prog 41 [AV.v (.int .u64 (isub .u64 (icv .u64 bits) (icv .u64 last))), AV.v (.int .i64 3)] [] (AV.v (.int .u64 (cut (isub .u64 (icv .u64 bits) (icv .u64 last)) 3))) [] []] Try.func35 (by kernel_rfl) (by kernel_rfl) (.cons (by apply Go.Proofs.Ytmaalibjfjokeaa.Sr.f41) .nil))
theorem f35 (last : Int) (bits : Int) : ACalls Try.prog 35 [AV.v (.int .i64 last), AV.v (.int .u8 bits)] [] (AV.v (.int .i64 (f35r0 last bits))) [] [] := (f35_1 last bits)
def L27S (bits : Int) (x5 : Int) (x6 : Int) : Tm := (tg [(1, AV.v (.int .u8 bits)), (2, AV.v (.int .i64 0)), (0, AV.v (.int .i64 x5)), (0, AV.v (.int .i64 x6))] 19)
def L27H (bits : Int) (x5 : Int) (x6 : Int) : List AObj := []
def L27T0 (bits : Int) (o0 : Int) : Tm := (tg [(4, AV.v (.int .i64 o0))] 21)
def L27U0 (bits : Int) (o0 : Int) : List AObj := []
def L27T1 (bits : Int) : Tm := (tg [(4, AV.v (.int .i64 0))] 21)
def L27U1 (bits : Int) : List AObj := []
theorem L27_1 (bits : Int) (x5 : Int) (x6 : Int)  (d0 : (ilt x6 8) = true) (d1 : (ieq (irem (iadd .i64 x5 x6) 8) (icv .i64 (irem bits 8))) = true) : ARun Try.prog 0 (.loop (lp Try.f27 0)) (L27S bits  x5 x6) (L27H bits  x5 x6) (AExit.ret) (L27T0 bits  (x6)) (L27U0 bits  (x6)) :=
  .lastRet [Orc.br true, Orc.br true] [4] [] [isB (ilt x6 8) true, nz 8, nz 8, isB (ieq (irem (iadd .i64 x5 x6) 8) (icv .i64 (irem bits 8))) true] (by kernel_rfl) (.cons d0 (.cons (by first | decide | simp [nz, nn, inB, ltN, leN, eqN, eqZ, inC, zOk, growN, fitN]) (.cons (by first | decide | simp [nz, nn, inB, ltN, leN, eqN, eqZ, inC, zOk, growN, fitN]) (.cons d1 .nil))))
theorem L27_2 (bits : Int) (x5 : Int) (x6 : Int)  (d0 : (ilt x6 8) = true) (d1 : (ieq (irem (iadd .i64 x5 x6) 8) (icv .i64 (irem bits 8))) = false) {e : AExit} {tm2 : Tm} {h2 : List AObj} (b : ARun Try.prog 0 (.loop (lp Try.f27 0)) (L27S bits  (x5) (iadd .i64 x6 1)) (L27H bits  (x5) (iadd .i64 x6 1)) e tm2 h2) : ARun Try.prog 0 (.loop (lp Try.f27 0)) (L27S bits  x5 x6) (L27H bits  x5 x6) e tm2 h2 :=
  .round [Orc.br true, Orc.br false] [1, 4, 5, 6] [] [isB (ilt x6 8) true, nz 8, nz 8, isB (ieq (irem (iadd .i64 x5 x6) 8) (icv .i64 (irem bits 8))) false] (by kernel_rfl) (.cons d0 (.cons (by first | decide | simp [nz, nn, inB, ltN, leN, eqN, eqZ, inC, zOk, growN, fitN]) (.cons (by first | decide | simp [nz, nn, inB, ltN, leN, eqN, eqZ, inC, zOk, growN, fitN]) (.cons d1 .nil)))) b
theorem L27_3 (bits : Int) (x5 : Int) (x6 : Int)  (d0 : (ilt x6 8) = false) : ARun Try.prog 0 (.loop (lp Try.f27 0)) (L27S bits  x5 x6) (L27H bits  x5 x6) (AExit.exit 0) (L27T1 bits ) (L27U1 bits ) :=
  .last [Orc.br false] [4] [] [isB (ilt x6 8) false] (by kernel_rfl) (.cons d0 .nil)
def L27L (bits : Int) : Nat → Int → Int → Option (Nat × Int)
  | 0, _, _ => none
  | fuel + 1, x5, x6 => (bif ilt x6 8 then (bif ieq (irem (iadd .i64 x5 x6) 8) (icv .i64 (irem bits 8)) then some (0, x6) else L27L bits  fuel (x5) (iadd .i64 x6 1)) else some (1, 0))
theorem L270 (bits : Int) : ∀ (fuel : Nat) (x5 : Int) (x6 : Int) (o0 : Int) (_ : L27L bits  fuel  x5 x6 = some (0, o0)), ARun Try.prog 0 (.loop (lp Try.f27 0)) (L27S bits  x5 x6) (L27H bits  x5 x6) (AExit.ret) (L27T0 bits  o0) (L27U0 bits  o0)
  | 0, _, _, _, h => by simp [L27L] at h
  | fuel + 1, x5, x6, o0, h => by
    simp only [L27L] at h
    exact (splitB h (fun d0 h => (splitB h (fun d1 h => ((by cases h; exact L27_1 bits  x5 x6 d0 d1))) (fun d1 h => (L27_2 bits  x5 x6 d0 d1 (L270 bits  fuel (x5) (iadd .i64 x6 1) o0 h))))) (fun d0 h => ((by simp at h))))
theorem L271 (bits : Int) : ∀ (fuel : Nat) (x5 : Int) (x6 : Int) (_ : L27L bits  fuel  x5 x6 = some (1, 0)), ARun Try.prog 0 (.loop (lp Try.f27 0)) (L27S bits  x5 x6) (L27H bits  x5 x6) (AExit.exit 0) (L27T1 bits ) (L27U1 bits )
  | 0, _, _, h => by simp [L27L] at h
  | fuel + 1, x5, x6, h => by
    simp only [L27L] at h
    exact (splitB h (fun d0 h => (splitB h (fun d1 h => ((by simp at h))) (fun d1 h => (L27_2 bits  x5 x6 d0 d1 (L271 bits  fuel (x5) (iadd .i64 x6 1)  h))))) (fun d0 h => ((by cases h; exact L27_3 bits  x5 x6 d0))))
def g27r0 (last : Int) (bits : Int) (L270_0_c : Nat) (L270_0_fuel : Nat) (L270_0_o0 : Int) (L270_0_fuel1 : Nat) (L270_1_c : Nat) (L270_1_fuel : Nat) (L270_1_o0 : Int) (L270_1_fuel1 : Nat) : Int := bif ilt (irem last 8) 0 then bif L270_0_c.beq 0 then L270_0_o0 else 0 else bif L270_1_c.beq 0 then L270_1_o0 else 0
theorem g27_1 (last : Int) (bits : Int) (L270_0_c : Nat) (L270_0_fuel : Nat) (L270_0_o0 : Int)  (d0 : (ilt (irem last 8) 0) = true) (d1 : (L270_0_c.beq 0) = true) (L270_0_h0 : ((ilt (irem last 8) 0) = true) → ((L270_0_c.beq 0) = true) → L27L bits L270_0_fuel (iadd .i64 (irem last 8) 8) 0 = some (0, L270_0_o0)) : ACalls Try.prog 27 [AV.v (.int .i64 last), AV.v (.int .u8 bits)] [] (AV.v (.int .i64 L270_0_o0)) [] [] :=
  ACalls.nb (res := AV.v (.int .i64 L270_0_o0)) (.of_out [Orc.br true, Orc.loop [1, 4, 5, 6] [] AExit.ret (tg [(4, AV.v (.int .i64 L270_0_o0))] 21) []] [] [nz 8, isB (ilt (irem last 8) 0) true, _] Try.func27 (by kernel_rfl) (by kernel_rfl) (.cons (by first | decide | simp [nz, nn, inB, ltN, leN, eqN, eqZ, inC, zOk, growN, fitN]) (.cons d0 (.cons (L270 _ _ _ _ _ (L270_0_h0 d0 d1)) .nil))))
theorem g27_2 (last : Int) (bits : Int) (L270_0_c : Nat) (L270_0_fuel1 : Nat)  (d0 : (ilt (irem last 8) 0) = true) (d1 : (L270_0_c.beq 0) = false) (L270_0_h1 : ((ilt (irem last 8) 0) = true) → ((L270_0_c.beq 0) = false) → L27L bits L270_0_fuel1 (iadd .i64 (irem last 8) 8) 0 = some (1, 0)) : ACalls Try.prog 27 [AV.v (.int .i64 last), AV.v (.int .u8 bits)] [] (AV.v (.int .i64 0)) [] [] :=
  ACalls.nb (res := AV.v (.int .i64 0)) (.of_out [Orc.br true, Orc.loop [1, 4, 5, 6] [] (AExit.exit 0) (tg [(4, AV.v (.int .i64 0))] 21) []] [] [nz 8, isB (ilt (irem last 8) 0) true, _] Try.func27 (by kernel_rfl) (by kernel_rfl) (.cons (by first | decide | simp [nz, nn, inB, ltN, leN, eqN, eqZ, inC, zOk, growN, fitN]) (.cons d0 (.cons (L271 _ _ _ _ (L270_0_h1 d0 d1)) .nil))))
theorem g27_3 (last : Int) (bits : Int) (L270_1_c : Nat) (L270_1_fuel : Nat) (L270_1_o0 : Int)  (d0 : (ilt (irem last 8) 0) = false) (d1 : (L270_1_c.beq 0) = true) (L270_1_h0 : ((ilt (irem last 8) 0) = false) → ((L270_1_c.beq 0) = true) → L27L bits L270_1_fuel (irem last 8) 0 = some (0, L270_1_o0)) : ACalls Try.prog 27 [AV.v (.int .i64 last), AV.v (.int .u8 bits)] [] (AV.v (.int .i64 L270_1_o0)) [] [] :=
  ACalls.nb (res := AV.v (.int .i64 L270_1_o0)) (.of_out [Orc.br false, Orc.loop [1, 4, 5, 6] [] AExit.ret (tg [(4, AV.v (.int .i64 L270_1_o0))] 21) []] [] [nz 8, isB (ilt (irem last 8) 0) false, _] Try.func27 (by kernel_rfl) (by kernel_rfl) (.cons (by first | decide | simp [nz, nn, inB, ltN, leN, eqN, eqZ, inC, zOk, growN, fitN]) (.cons d0 (.cons (L270 _ _ _ _ _ (L270_1_h0 d0 d1)) .nil))))
theorem g27_4 (last : Int) (bits : Int) (L270_1_c : Nat) (L270_1_fuel1 : Nat)  (d0 : (ilt (irem last 8) 0) = false) (d1 : (L270_1_c.beq 0) = false) (L270_1_h1 : ((ilt (irem last 8) 0) = false) → ((L270_1_c.beq 0) = false) → L27L bits L270_1_fuel1 (irem last 8) 0 = some (1, 0)) : ACalls Try.prog 27 [AV.v (.int .i64 last), AV.v (.int .u8 bits)] [] (AV.v (.int .i64 0)) [] [] :=
  ACalls.nb (res := AV.v (.int .i64 0)) (.of_out [Orc.br false, Orc.loop [1, 4, 5, 6] [] (AExit.exit 0) (tg [(4, AV.v (.int .i64 0))] 21) []] [] [nz 8, isB (ilt (irem last 8) 0) false, _] Try.func27 (by kernel_rfl) (by kernel_rfl) (.cons (by first | decide | simp [nz, nn, inB, ltN, leN, eqN, eqZ, inC, zOk, growN, fitN]) (.cons d0 (.cons (L271 _ _ _ _ (L270_1_h1 d0 d1)) .nil))))
theorem g27 (last : Int) (bits : Int) (L270_0_c : Nat) (L270_0_fuel : Nat) (L270_0_o0 : Int) (L270_0_fuel1 : Nat) (L270_1_c : Nat) (L270_1_fuel : Nat) (L270_1_o0 : Int) (L270_1_fuel1 : Nat) (L270_0_h0 : ((ilt (irem last 8) 0) = true) → ((L270_0_c.beq 0) = true) → L27L bits L270_0_fuel (iadd .i64 (irem last 8) 8) 0 = some (0, L270_0_o0)) (L270_0_h1 : ((ilt (irem last 8) 0) = true) → ((L270_0_c.beq 0) = false) → L27L bits L270_0_fuel1 (iadd .i64 (irem last 8) 8) 0 = some (1, 0)) (L270_1_h0 : ((ilt (irem last 8) 0) = false) → ((L270_1_c.beq 0) = true) → L27L bits L270_1_fuel (irem last 8) 0 = some (0, L270_1_o0)) (L270_1_h1 : ((ilt (irem last 8) 0) = false) → ((L270_1_c.beq 0) = false) → L27L bits L270_1_fuel1 (irem last 8) 0 = some (1, 0)) : ACalls Try.prog 27 [AV.v (.int .i64 last), AV.v (.int .u8 bits)] [] (AV.v (.int .i64 (g27r0 last bits L270_0_c L270_0_fuel L270_0_o0 L270_0_fuel1 L270_1_c L270_1_fuel L270_1_o0 L270_1_fuel1))) [] [] := by
  have h := (ACalls.cond (ilt (irem last 8) 0) (fun d0 => (ACalls.cond (L270_0_c.beq 0) (fun d1 => (g27_1 last bits L270_0_c L270_0_fuel L270_0_o0 d0 d1 L270_0_h0)) (fun d1 => (g27_2 last bits L270_0_c L270_0_fuel1 d0 d1 L270_0_h1)))) (fun d0 => (ACalls.cond (L270_1_c.beq 0) (fun d1 => (g27_3 last bits L270_1_c L270_1_fuel L270_1_o0 d0 d1 L270_1_h0)) (fun d1 => (g27_4 last bits L270_1_c L270_1_fuel1 d0 d1 L270_1_h1)))))
  simp only [c_int, c_bool, c_str, c_agg, c_tup, c_fn, c_ifc, c_sl, c_pe, c_ptr, c_rows, c_siter, c_consA, c_consU, c_consO, c_cells, c_ints, c_bools, c_strs, c_same] at h
  exact h
theorem rd3 : rd 3 = 8 := rfl
/-- what three bits tell -/
def st8 (last bits : Int) : Int := (bits - last) % 8
theorem f35s (last bits : Int) (hb : 0 ≤ bits ∧ bits ≤ 255) : ACalls Try.prog 35 [.v (.int .i64 last), .v (.int .u8 bits)] [] (.v (.int .i64 (st8 last bits))) [] [] := by
  have h := f35 last bits
  have e : f35r0 last bits = st8 last bits := by
    unfold f35r0 st8
    have e1 : isub .u64 (icv .u64 bits) (icv .u64 last) = (bits - last) % 18446744073709551616 := by
      unfold isub icv; rw [w_u64, w_u64, w_u64]; omega
    rw [e1, cut_eq _ _ (by omega), rd3]
    unfold icv; rw [w_i64_in (by omega)]; omega
  rw [e] at h; exact h
theorem L27_eq (bits x5 : Int) (hb : 0 ≤ bits ∧ bits ≤ 255) (h5 : 0 ≤ x5 ∧ x5 < 8) (d : Nat) : ∀ (i : Int), 0 ≤ i → (bits - x5) % 8 - i = d → L27L bits (d + 1) x5 i = some (0, (bits - x5) % 8) := by
  induction d with
  | zero =>
    intro i h0 h1
    have a : ilt i 8 = true := decide_eq_true (by omega)
    have b : ieq (irem (iadd .i64 x5 i) 8) (icv .i64 (irem bits 8)) = true := by
      unfold irem iadd icv
      rw [w_i64_in (x := x5 + i) (by omega), Int.tmod_eq_emod_of_nonneg (by omega), Int.tmod_eq_emod_of_nonneg hb.1, w_i64_in (by omega), ieq_d]
      exact decide_eq_true (by omega)
    unfold L27L
    rw [a, b]
    simp only [cond_true]
    congr 2; omega
  | succ d ih =>
    intro i h0 h1
    have a : ilt i 8 = true := decide_eq_true (by omega)
    have b : ieq (irem (iadd .i64 x5 i) 8) (icv .i64 (irem bits 8)) = false := by
      unfold irem iadd icv
      rw [w_i64_in (x := x5 + i) (by omega), Int.tmod_eq_emod_of_nonneg (by omega), Int.tmod_eq_emod_of_nonneg hb.1, w_i64_in (by omega), ieq_d]
      exact decide_eq_false (by omega)
    have c : iadd .i64 i 1 = i + 1 := w_i64_in (by omega)
    unfold L27L
    rw [a, b, c]
    simp only [cond_true, cond_false]
    exact ih (i + 1) (by omega) (by omega)
theorem f27 (last bits : Int) (hb : 0 ≤ bits ∧ bits ≤ 255) : ACalls Try.prog 27 [.v (.int .i64 last), .v (.int .u8 bits)] [] (.v (.int .i64 (st8 last bits))) [] [] := by
  have hm := tmod_c (x := last) (c := 8) (by omega)
  have k1 : ilt (irem last 8) 0 = true → L27L bits (((bits - last) % 8).toNat + 1) (iadd .i64 (irem last 8) 8) 0 = some (0, (bits - last) % 8) := fun h => by
    have h' : irem last 8 < 0 := of_decide_eq_true h
    unfold irem at h' ⊢
    have e : iadd .i64 (last.tmod 8) 8 = last % 8 := by
      unfold iadd; rw [w_i64_in] <;> rw [hm] at * <;> split at * <;> omega
    rw [e]
    have := L27_eq bits (last % 8) hb (by omega) ((bits - last) % 8).toNat 0 (by omega) (by omega)
    rw [this]; congr 2; omega
  have k2 : ilt (irem last 8) 0 = false → L27L bits (((bits - last) % 8).toNat + 1) (irem last 8) 0 = some (0, (bits - last) % 8) := fun h => by
    have h' : ¬ irem last 8 < 0 := of_decide_eq_false h
    unfold irem at h' ⊢
    have e : last.tmod 8 = last % 8 := by rw [hm] at h' ⊢; split at * <;> omega
    rw [e]
    have := L27_eq bits (last % 8) hb (by omega) ((bits - last) % 8).toNat 0 (by omega) (by omega)
    rw [this]; congr 2; omega
  have h := g27 last bits 0 (((bits - last) % 8).toNat + 1) ((bits - last) % 8) 0 0 (((bits - last) % 8).toNat + 1) ((bits - last) % 8) 0 (fun h _ => k1 h) (fun _ h => by simp at h) (fun h _ => k2 h) (fun _ h => by simp at h)
  have e : g27r0 last bits 0 (((bits - last) % 8).toNat + 1) ((bits - last) % 8) 0 0 (((bits - last) % 8).toNat + 1) ((bits - last) % 8) 0 = (bits - last) % 8 := by
    unfold g27r0; cases ilt (irem last 8) 0 <;> rfl
  rw [e] at h
  exact h
def f39r0 (x : Int) (y : Int) : Int := bif ieq y 0 then 0 else bif ieq x (-9223372036854775808) then bif ieq y (-1) then 9223372036854775807 else bif ine (irem x y) 0 then bif notB (beqB (ilt x 0) (ilt y 0)) then isub .i64 (iquo .i64 x y) 1 else iquo .i64 x y else iquo .i64 x y else bif ine (irem x y) 0 then bif notB (beqB (ilt x 0) (ilt y 0)) then isub .i64 (iquo .i64 x y) 1 else iquo .i64 x y else iquo .i64 x y
theorem f39_1 (x : Int) (y : Int)  (d0 : (ieq y 0) = true) : ACalls Try.prog 39 [AV.v (.int .i64 x), AV.v (.int .i64 y)] [] (AV.v (.int .i64 0)) [] [] :=
  ACalls.nb (res := AV.v (.int .i64 0)) (.of_out [Orc.br true] [] [isB (ieq y 0) true] Try.func39 (by kernel_rfl) (by kernel_rfl) (.cons d0 .nil))
theorem f39_2 (x : Int) (y : Int)  (d0 : (ieq y 0) = false) (d1 : (ieq x (-9223372036854775808)) = true) (d2 : (ieq y (-1)) = true) : ACalls Try.prog 39 [AV.v (.int .i64 x), AV.v (.int .i64 y)] [] (AV.v (.int .i64 9223372036854775807)) [] [] :=
  ACalls.nb (res := AV.v (.int .i64 9223372036854775807)) (.of_out [Orc.br false, Orc.br true, Orc.br true] [] [isB (ieq y 0) false, isB (ieq x (-9223372036854775808)) true, isB (ieq y (-1)) true] Try.func39 (by kernel_rfl) (by kernel_rfl) (.cons d0 (.cons d1 (.cons d2 .nil))))
theorem f39_3 (x : Int) (y : Int)  (d0 : (ieq y 0) = false) (d1 : (ieq x (-9223372036854775808)) = true) (d2 : (ieq y (-1)) = false) (d3 : (ine (irem x y) 0) = true) (d4 : (notB (beqB (ilt x 0) (ilt y 0))) = true) (s0 : ((ieq y 0) = false) → ((ieq x (-9223372036854775808)) = true) → ((ieq y (-1)) = false) → nz y) : ACalls Try.prog 39 [AV.v (.int .i64 x), AV.v (.int .i64 y)] [] (AV.v (.int .i64 (isub .i64 (iquo .i64 x y) 1))) [] [] :=
  ACalls.nb (res := AV.v (.int .i64 (isub .i64 (iquo .i64 x y) 1))) (.of_out [Orc.br false, Orc.br true, Orc.br false, Orc.br true, Orc.br true] [] [isB (ieq y 0) false, isB (ieq x (-9223372036854775808)) true, isB (ieq y (-1)) false, nz y, nz y, isB (ine (irem x y) 0) true, isB (notB (beqB (ilt x 0) (ilt y 0))) true] Try.func39 (by kernel_rfl) (by kernel_rfl) (.cons d0 (.cons d1 (.cons d2 (.cons (s0 d0 d1 d2) (.cons (s0 d0 d1 d2) (.cons d3 (.cons d4 .nil))))))))
theorem f39_4 (x : Int) (y : Int)  (d0 : (ieq y 0) = false) (d1 : (ieq x (-9223372036854775808)) = true) (d2 : (ieq y (-1)) = false) (d3 : (ine (irem x y) 0) = true) (d4 : (notB (beqB (ilt x 0) (ilt y 0))) = false) (s0 : ((ieq y 0) = false) → ((ieq x (-9223372036854775808)) = true) → ((ieq y (-1)) = false) → nz y) : ACalls Try.prog 39 [AV.v (.int .i64 x), AV.v (.int .i64 y)] [] (AV.v (.int .i64 (iquo .i64 x y))) [] [] :=
  ACalls.nb (res := AV.v (.int .i64 (iquo .i64 x y))) (.of_out [Orc.br false, Orc.br true, Orc.br false, Orc.br true, Orc.br false] [] [isB (ieq y 0) false, isB (ieq x (-9223372036854775808)) true, isB (ieq y (-1)) false, nz y, nz y, isB (ine (irem x y) 0) true, isB (notB (beqB (ilt x 0) (ilt y 0))) false] Try.func39 (by kernel_rfl) (by kernel_rfl) (.cons d0 (.cons d1 (.cons d2 (.cons (s0 d0 d1 d2) (.cons (s0 d0 d1 d2) (.cons d3 (.cons d4 .nil))))))))
theorem f39_5 (x : Int) (y : Int)  (d0 : (ieq y 0) = false) (d1 : (ieq x (-9223372036854775808)) = true) (d2 : (ieq y (-1)) = false) (d3 : (ine (irem x y) 0) = false) (s0 : ((ieq y 0) = false) → ((ieq x (-9223372036854775808)) = true) → ((ieq y (-1)) = false) → nz y) : ACalls Try.prog 39 [AV.v (.int .i64 x), AV.v (.int .i64 y)] [] (AV.v (.int .i64 (iquo .i64 x y))) [] [] :=
  ACalls.nb (res := AV.v (.int .i64 (iquo .i64 x y))) (.of_out [Orc.br false, Orc.br true, Orc.br false, Orc.br false, Orc.br false] [] [isB (ieq y 0) false, isB (ieq x (-9223372036854775808)) true, isB (ieq y (-1)) false, nz y, nz y, isB (ine (irem x y) 0) false, isB false false] Try.func39 (by kernel_rfl) (by kernel_rfl) (.cons d0 (.cons d1 (.cons d2 (.cons (s0 d0 d1 d2) (.cons (s0 d0 d1 d2) (.cons d3 (.cons (by show _ = _; kernel_rfl) .nil))))))))
theorem f39_6 (x : Int) (y : Int)  (d0 : (ieq y 0) = false) (d1 : (ieq x (-9223372036854775808)) = false) (d2 : (ine (irem x y) 0) = true) (d3 : (notB (beqB (ilt x 0) (ilt y 0))) = true) (s1 : ((ieq y 0) = false) → ((ieq x (-9223372036854775808)) = false) → nz y) : ACalls Try.prog 39 [AV.v (.int .i64 x), AV.v (.int .i64 y)] [] (AV.v (.int .i64 (isub .i64 (iquo .i64 x y) 1))) [] [] :=
  ACalls.nb (res := AV.v (.int .i64 (isub .i64 (iquo .i64 x y) 1))) (.of_out [Orc.br false, Orc.br false, Orc.br false, Orc.br true, Orc.br true] [] [isB (ieq y 0) false, isB (ieq x (-9223372036854775808)) false, isB false false, nz y, nz y, isB (ine (irem x y) 0) true, isB (notB (beqB (ilt x 0) (ilt y 0))) true] Try.func39 (by kernel_rfl) (by kernel_rfl) (.cons d0 (.cons d1 (.cons (by show _ = _; kernel_rfl) (.cons (s1 d0 d1) (.cons (s1 d0 d1) (.cons d2 (.cons d3 .nil))))))))
theorem f39_7 (x : Int) (y : Int)  (d0 : (ieq y 0) = false) (d1 : (ieq x (-9223372036854775808)) = false) (d2 : (ine (irem x y) 0) = true) (d3 : (notB (beqB (ilt x 0) (ilt y 0))) = false) (s1 : ((ieq y 0) = false) → ((ieq x (-9223372036854775808)) = false) → nz y) : ACalls Try.prog 39 [AV.v (.int .i64 x), AV.v (.int .i64 y)] [] (AV.v (.int .i64 (iquo .i64 x y))) [] [] :=
  ACalls.nb (res := AV.v (.int .i64 (iquo .i64 x y))) (.of_out [Orc.br false, Orc.br false, Orc.br false, Orc.br true, Orc.br false] [] [isB (ieq y 0) false, isB (ieq x (-9223372036854775808)) false, isB false false, nz y, nz y, isB (ine (irem x y) 0) true, isB (notB (beqB (ilt x 0) (ilt y 0))) false] Try.func39 (by kernel_rfl) (by kernel_rfl) (.cons d0 (.cons d1 (.cons (by show _ = _; kernel_rfl) (.cons (s1 d0 d1) (.cons (s1 d0 d1) (.cons d2 (.cons d3 .nil))))))))
theorem f39_8 (x : Int) (y : Int)  (d0 : (ieq y 0) = false) (d1 : (ieq x (-9223372036854775808)) = false) (d2 : (ine (irem x y) 0) = false) (s1 : ((ieq y 0) = false) → ((ieq x (-9223372036854775808)) = false) → nz y) : ACalls Try.prog 39 [AV.v (.int .i64 x), AV.v (.int .i64 y)] [] (AV.v (.int .i64 (iquo .i64 x y))) [] [] :=
  ACalls.nb (res := AV.v (.int .i64 (iquo .i64 x y))) (.of_out [Orc.br false, Orc.br false, Orc.br false, Orc.br false, Orc.br false] [] [isB (ieq y 0) false, isB (ieq x (-9223372036854775808)) false, isB false false, nz y, nz y, isB (ine (irem x y) 0) false, isB false false] Try.func39 (by kernel_rfl) (by kernel_rfl) (.cons d0 (.cons d1 (.cons (by show _ = _; kernel_rfl) (.cons (s1 d0 d1) (.cons (s1 d0 d1) (.cons d2 (.cons (by show _ = _; kernel_rfl) .nil))))))))
theorem f39 (x : Int) (y : Int) (s0 : ((ieq y 0) = false) → ((ieq x (-9223372036854775808)) = true) → ((ieq y (-1)) = false) → nz y) (s1 : ((ieq y 0) = false) → ((ieq x (-9223372036854775808)) = false) → nz y) : ACalls Try.prog 39 [AV.v (.int .i64 x), AV.v (.int .i64 y)] [] (AV.v (.int .i64 (f39r0 x y))) [] [] := by
  have h := (ACalls.cond (ieq y 0) (fun d0 => (f39_1 x y d0)) (fun d0 => (ACalls.cond (ieq x (-9223372036854775808)) (fun d1 => (ACalls.cond (ieq y (-1)) (fun d2 => (f39_2 x y d0 d1 d2)) (fun d2 => (ACalls.cond (ine (irem x y) 0) (fun d3 => (ACalls.cond (notB (beqB (ilt x 0) (ilt y 0))) (fun d4 => (f39_3 x y d0 d1 d2 d3 d4 s0)) (fun d4 => (f39_4 x y d0 d1 d2 d3 d4 s0)))) (fun d3 => (f39_5 x y d0 d1 d2 d3 s0)))))) (fun d1 => (ACalls.cond (ine (irem x y) 0) (fun d2 => (ACalls.cond (notB (beqB (ilt x 0) (ilt y 0))) (fun d3 => (f39_6 x y d0 d1 d2 d3 s1)) (fun d3 => (f39_7 x y d0 d1 d2 d3 s1)))) (fun d2 => (f39_8 x y d0 d1 d2 s1)))))))
  simp only [c_int, c_bool, c_str, c_agg, c_tup, c_fn, c_ifc, c_sl, c_pe, c_ptr, c_rows, c_siter, c_consA, c_consU, c_consO, c_cells, c_ints, c_bools, c_strs, c_same] at h
  exact h
def f40r0 (n : Int) (s : Int) : Int := iadd .i64 n (icv .i64 (cut (icv .u64 (isub .i64 s n)) 3))
theorem f40_1 (n : Int) (s : Int)  : ACalls Try.prog 40 [AV.v (.int .i64 n), AV.ptr 0 0] [AObj.cells 0 true [AV.v (.int .i64 s)]] (AV.v (.int .i64 (iadd .i64 n (icv .i64 (cut (icv .u64 (isub .i64 s n)) 3))))) [] [] :=
  ACalls.nb (res := AV.v (.int .i64 (iadd .i64 n (icv .i64 (cut (icv .u64 (isub .i64 s n)) 3))))) (.of_out [Orc.call [] (AV.v (.int .u64 (cut (icv .u64 (isub .i64 s n)) 3))) [] []] [0] [ACalls Try.prog 41 [AV.v (.int .u64 (icv .u64 (isub .i64 s n))), AV.v (.int .i64 3)] [] (AV.v (.int .u64 (cut (icv .u64 (isub .i64 s n)) 3))) [] []] Try.func40 (by kernel_rfl) (by kernel_rfl) (.cons (by apply Go.Proofs.Ytmaalibjfjokeaa.Sr.f41) .nil))
theorem f40 (n : Int) (s : Int) : ACalls Try.prog 40 [AV.v (.int .i64 n), AV.ptr 0 0] [AObj.cells 0 true [AV.v (.int .i64 s)]] (AV.v (.int .i64 (f40r0 n s))) [] [] := (f40_1 n s)
def f33r0 (last : Int) (bits : Int) (bytes : Int) (mss : Int) : Int := bif ile bytes 0 then st8 last bits else bif ile mss 0 then st8 last bits else f40r0 (isub .i64 0 (f39r0 (isub .i64 0 (imin bytes 1099511627776)) mss)) (st8 last bits)
theorem f33_1 (last : Int) (bits : Int) (bytes : Int) (mss : Int)  (d0 : (ile bytes 0) = true) (s0 : 0 ≤ bits ∧ bits ≤ 255) : ACalls Try.prog 33 [AV.v (.int .i64 last), AV.v (.int .u8 bits), AV.v (.int .i64 bytes), AV.v (.int .i64 mss)] [] (AV.v (.int .i64 (st8 last bits))) [] [] :=
  ACalls.nb (res := AV.v (.int .i64 (st8 last bits))) (.of_out [Orc.call [] (AV.v (.int .i64 (st8 last bits))) [] [], Orc.br true, Orc.br true] [] [ACalls Try.prog 35 [AV.v (.int .i64 last), AV.v (.int .u8 bits)] [] (AV.v (.int .i64 (st8 last bits))) [] [], isB (ile bytes 0) true, isB true true] Try.func33 (by kernel_rfl) (by kernel_rfl) (.cons (by apply f35s <;> (first | exact (s0))) (.cons d0 (.cons (by show _ = _; kernel_rfl) .nil))))
theorem f33_2 (last : Int) (bits : Int) (bytes : Int) (mss : Int)  (d0 : (ile bytes 0) = false) (d1 : (ile mss 0) = true) (s0 : 0 ≤ bits ∧ bits ≤ 255) : ACalls Try.prog 33 [AV.v (.int .i64 last), AV.v (.int .u8 bits), AV.v (.int .i64 bytes), AV.v (.int .i64 mss)] [] (AV.v (.int .i64 (st8 last bits))) [] [] :=
  ACalls.nb (res := AV.v (.int .i64 (st8 last bits))) (.of_out [Orc.call [] (AV.v (.int .i64 (st8 last bits))) [] [], Orc.br false, Orc.br true] [] [ACalls Try.prog 35 [AV.v (.int .i64 last), AV.v (.int .u8 bits)] [] (AV.v (.int .i64 (st8 last bits))) [] [], isB (ile bytes 0) false, isB (ile mss 0) true] Try.func33 (by kernel_rfl) (by kernel_rfl) (.cons (by apply f35s <;> (first | exact (s0))) (.cons d0 (.cons d1 .nil))))
theorem f33_3 (last : Int) (bits : Int) (bytes : Int) (mss : Int)  (d0 : (ile bytes 0) = false) (d1 : (ile mss 0) = false) (s0 : 0 ≤ bits ∧ bits ≤ 255) (s1 : ((ile bytes 0) = false) → ((ile mss 0) = false) → ieq mss 0 = false → ieq (isub .i64 0 (imin bytes 1099511627776)) (-9223372036854775808) = true → ieq mss (-1) = false → nz mss) (s2 : ((ile bytes 0) = false) → ((ile mss 0) = false) → ieq mss 0 = false → ieq (isub .i64 0 (imin bytes 1099511627776)) (-9223372036854775808) = false → nz mss) : ACalls Try.prog 33 [AV.v (.int .i64 last), AV.v (.int .u8 bits), AV.v (.int .i64 bytes), AV.v (.int .i64 mss)] [] (AV.v (.int .i64 (f40r0 (isub .i64 0 (f39r0 (isub .i64 0 (imin bytes 1099511627776)) mss)) (st8 last bits)))) [] [] :=
  ACalls.nb (res := AV.v (.int .i64 (f40r0 (isub .i64 0 (f39r0 (isub .i64 0 (imin bytes 1099511627776)) mss)) (st8 last bits)))) (.of_out [Orc.call [] (AV.v (.int .i64 (st8 last bits))) [] [], Orc.br false, Orc.br false, Orc.call [] (AV.v (.int .i64 (f39r0 (isub .i64 0 (imin bytes 1099511627776)) mss))) [] [], Orc.call [0] (AV.v (.int .i64 (f40r0 (isub .i64 0 (f39r0 (isub .i64 0 (imin bytes 1099511627776)) mss)) (st8 last bits)))) [] []] [] [ACalls Try.prog 35 [AV.v (.int .i64 last), AV.v (.int .u8 bits)] [] (AV.v (.int .i64 (st8 last bits))) [] [], isB (ile bytes 0) false, isB (ile mss 0) false, ACalls Try.prog 39 [AV.v (.int .i64 (isub .i64 0 (imin bytes 1099511627776))), AV.v (.int .i64 mss)] [] (AV.v (.int .i64 (f39r0 (isub .i64 0 (imin bytes 1099511627776)) mss))) [] [], ACalls Try.prog 40 [AV.v (.int .i64 (isub .i64 0 (f39r0 (isub .i64 0 (imin bytes 1099511627776)) mss))), AV.ptr 0 0] [AObj.cells 0 true [AV.v (.int .i64 (st8 last bits))]] (AV.v (.int .i64 (f40r0 (isub .i64 0 (f39r0 (isub .i64 0 (imin bytes 1099511627776)) mss)) (st8 last bits)))) [] []] Try.func33 (by kernel_rfl) (by kernel_rfl) (.cons (by apply f35s <;> (first | exact (s0))) (.cons d0 (.cons d1 (.cons (by apply f39 <;> (first | exact (s1 d0 d1) | exact (s2 d0 d1))) (.cons (by apply f40) .nil))))))
theorem f33 (last : Int) (bits : Int) (bytes : Int) (mss : Int) (s0 : 0 ≤ bits ∧ bits ≤ 255) (s1 : ((ile bytes 0) = false) → ((ile mss 0) = false) → ieq mss 0 = false → ieq (isub .i64 0 (imin bytes 1099511627776)) (-9223372036854775808) = true → ieq mss (-1) = false → nz mss) (s2 : ((ile bytes 0) = false) → ((ile mss 0) = false) → ieq mss 0 = false → ieq (isub .i64 0 (imin bytes 1099511627776)) (-9223372036854775808) = false → nz mss) : ACalls Try.prog 33 [AV.v (.int .i64 last), AV.v (.int .u8 bits), AV.v (.int .i64 bytes), AV.v (.int .i64 mss)] [] (AV.v (.int .i64 (f33r0 last bits bytes mss))) [] [] := by
  have h := (ACalls.cond (ile bytes 0) (fun d0 => (f33_1 last bits bytes mss d0 s0)) (fun d0 => (ACalls.cond (ile mss 0) (fun d1 => (f33_2 last bits bytes mss d0 d1 s0)) (fun d1 => (f33_3 last bits bytes mss d0 d1 s0 s1 s2)))))
  simp only [c_int, c_bool, c_str, c_agg, c_tup, c_fn, c_ifc, c_sl, c_pe, c_ptr, c_rows, c_siter, c_consA, c_consU, c_consO, c_cells, c_ints, c_bools, c_strs, c_same] at h
  exact h
def L28S (x9 : Int) (x11 : Int) : Tm := (tg [(8, AV.v (.int .i64 0)), (0, AV.v (.int .i64 x9)), (1, AV.v (.int .i64 x11))] 29)
def L28H (x9 : Int) (x11 : Int) : List AObj := []
def L28T (o0 : Int) : Tm := (tg [(8, AV.v (.int .i64 0)), (2, AV.v (.int .i64 o0))] 29)
def L28U (o0 : Int) : List AObj := []
theorem L28_1 (x9 : Int) (x11 : Int)  (d0 : (ine (irem x11 8) x9) = true) {e : AExit} {tm2 : Tm} {h2 : List AObj} (b : ARun Try.prog 0 (.loop (lp Try.f28 0)) (L28S  (x9) (iadd .i64 x11 1)) (L28H  (x9) (iadd .i64 x11 1)) e tm2 h2) : ARun Try.prog 0 (.loop (lp Try.f28 0)) (L28S  x9 x11) (L28H  x9 x11) e tm2 h2 :=
  .round [Orc.br true] [8, 9, 11] [] [nz 8, isB (ine (irem x11 8) x9) true] (by kernel_rfl) (.cons (by first | decide | simp [nz, nn, inB, ltN, leN, eqN, eqZ, inC, zOk, growN, fitN]) (.cons d0 .nil)) b
theorem L28_2 (x9 : Int) (x11 : Int)  (d0 : (ine (irem x11 8) x9) = false) : ARun Try.prog 0 (.loop (lp Try.f28 0)) (L28S  x9 x11) (L28H  x9 x11) (AExit.exit 0) (L28T  (x11)) (L28U  (x11)) :=
  .last [Orc.br false] [8, 11] [] [nz 8, isB (ine (irem x11 8) x9) false] (by kernel_rfl) (.cons (by first | decide | simp [nz, nn, inB, ltN, leN, eqN, eqZ, inC, zOk, growN, fitN]) (.cons d0 .nil))
def L28L : Nat → Int → Int → Option (Int)
  | 0, _, _ => none
  | fuel + 1, x9, x11 => (bif ine (irem x11 8) x9 then L28L  fuel (x9) (iadd .i64 x11 1) else some (x11))
theorem L28 : ∀ (fuel : Nat) (x9 : Int) (x11 : Int) (o0 : Int) (_ : L28L  fuel  x9 x11 = some (o0)), ARun Try.prog 0 (.loop (lp Try.f28 0)) (L28S  x9 x11) (L28H  x9 x11) (AExit.exit 0) (L28T  o0) (L28U  o0)
  | 0, _, _, _, h => by simp [L28L] at h
  | fuel + 1, x9, x11, o0, h => by
    simp only [L28L] at h
    exact (splitB h (fun d0 h => (L28_1  x9 x11 d0 (L28  fuel (x9) (iadd .i64 x11 1) o0 h))) (fun d0 h => ((by cases h; exact L28_2  x9 x11 d0))))
def g28r0 (last : Int) (bits : Int) (bytes : Int) (mss : Int) (L28_0_fuel : Nat) (L28_0_o0 : Int) (L28_1_fuel : Nat) (L28_1_o0 : Int) : Int := bif ile bytes 0 then st8 last bits else bif ile mss 0 then st8 last bits else bif ilt (imul .i64 (iquo .i64 (imin bytes 1099511627776) mss) mss) (imin bytes 1099511627776) then L28_0_o0 else L28_1_o0
theorem g28_1 (last : Int) (bits : Int) (bytes : Int) (mss : Int)  (d0 : (ile bytes 0) = true) (s0 : 0 ≤ bits ∧ bits ≤ 255) : ACalls Try.prog 28 [AV.v (.int .i64 last), AV.v (.int .u8 bits), AV.v (.int .i64 bytes), AV.v (.int .i64 mss)] [] (AV.v (.int .i64 (st8 last bits))) [] [] :=
  ACalls.nb (res := AV.v (.int .i64 (st8 last bits))) (.of_out [Orc.call [] (AV.v (.int .i64 (st8 last bits))) [] [], Orc.br true, Orc.br true] [] [ACalls Try.prog 27 [AV.v (.int .i64 last), AV.v (.int .u8 bits)] [] (AV.v (.int .i64 (st8 last bits))) [] [], isB (ile bytes 0) true, isB true true] Try.func28 (by kernel_rfl) (by kernel_rfl) (.cons (by apply f27 <;> (first | exact (s0))) (.cons d0 (.cons (by show _ = _; kernel_rfl) .nil))))
theorem g28_2 (last : Int) (bits : Int) (bytes : Int) (mss : Int)  (d0 : (ile bytes 0) = false) (d1 : (ile mss 0) = true) (s0 : 0 ≤ bits ∧ bits ≤ 255) : ACalls Try.prog 28 [AV.v (.int .i64 last), AV.v (.int .u8 bits), AV.v (.int .i64 bytes), AV.v (.int .i64 mss)] [] (AV.v (.int .i64 (st8 last bits))) [] [] :=
  ACalls.nb (res := AV.v (.int .i64 (st8 last bits))) (.of_out [Orc.call [] (AV.v (.int .i64 (st8 last bits))) [] [], Orc.br false, Orc.br true] [] [ACalls Try.prog 27 [AV.v (.int .i64 last), AV.v (.int .u8 bits)] [] (AV.v (.int .i64 (st8 last bits))) [] [], isB (ile bytes 0) false, isB (ile mss 0) true] Try.func28 (by kernel_rfl) (by kernel_rfl) (.cons (by apply f27 <;> (first | exact (s0))) (.cons d0 (.cons d1 .nil))))
theorem g28_3 (last : Int) (bits : Int) (bytes : Int) (mss : Int) (L28_0_fuel : Nat) (L28_0_o0 : Int)  (d0 : (ile bytes 0) = false) (d1 : (ile mss 0) = false) (d2 : (ilt (imul .i64 (iquo .i64 (imin bytes 1099511627776) mss) mss) (imin bytes 1099511627776)) = true) (L28_0_h0 : ((ile bytes 0) = false) → ((ile mss 0) = false) → ((ilt (imul .i64 (iquo .i64 (imin bytes 1099511627776) mss) mss) (imin bytes 1099511627776)) = true) → L28L L28_0_fuel (st8 last bits) (iadd .i64 (iquo .i64 (imin bytes 1099511627776) mss) 1) = some L28_0_o0) (s0 : 0 ≤ bits ∧ bits ≤ 255) (s1 : ((ile bytes 0) = false) → ((ile mss 0) = false) → nz mss) : ACalls Try.prog 28 [AV.v (.int .i64 last), AV.v (.int .u8 bits), AV.v (.int .i64 bytes), AV.v (.int .i64 mss)] [] (AV.v (.int .i64 L28_0_o0)) [] [] :=
  ACalls.nb (res := AV.v (.int .i64 L28_0_o0)) (.of_out [Orc.call [] (AV.v (.int .i64 (st8 last bits))) [] [], Orc.br false, Orc.br false, Orc.br true, Orc.loop [8, 9, 11] [] (AExit.exit 0) (tg [(8, AV.v (.int .i64 0)), (2, AV.v (.int .i64 L28_0_o0))] 29) []] [] [ACalls Try.prog 27 [AV.v (.int .i64 last), AV.v (.int .u8 bits)] [] (AV.v (.int .i64 (st8 last bits))) [] [], isB (ile bytes 0) false, isB (ile mss 0) false, nz mss, isB (ilt (imul .i64 (iquo .i64 (imin bytes 1099511627776) mss) mss) (imin bytes 1099511627776)) true, _] Try.func28 (by kernel_rfl) (by kernel_rfl) (.cons (by apply f27 <;> (first | exact (s0))) (.cons d0 (.cons d1 (.cons (s1 d0 d1) (.cons d2 (.cons (L28 _ _ _ _ (L28_0_h0 d0 d1 d2)) .nil)))))))
theorem g28_4 (last : Int) (bits : Int) (bytes : Int) (mss : Int) (L28_1_fuel : Nat) (L28_1_o0 : Int)  (d0 : (ile bytes 0) = false) (d1 : (ile mss 0) = false) (d2 : (ilt (imul .i64 (iquo .i64 (imin bytes 1099511627776) mss) mss) (imin bytes 1099511627776)) = false) (L28_1_h0 : ((ile bytes 0) = false) → ((ile mss 0) = false) → ((ilt (imul .i64 (iquo .i64 (imin bytes 1099511627776) mss) mss) (imin bytes 1099511627776)) = false) → L28L L28_1_fuel (st8 last bits) (iquo .i64 (imin bytes 1099511627776) mss) = some L28_1_o0) (s0 : 0 ≤ bits ∧ bits ≤ 255) (s1 : ((ile bytes 0) = false) → ((ile mss 0) = false) → nz mss) : ACalls Try.prog 28 [AV.v (.int .i64 last), AV.v (.int .u8 bits), AV.v (.int .i64 bytes), AV.v (.int .i64 mss)] [] (AV.v (.int .i64 L28_1_o0)) [] [] :=
  ACalls.nb (res := AV.v (.int .i64 L28_1_o0)) (.of_out [Orc.call [] (AV.v (.int .i64 (st8 last bits))) [] [], Orc.br false, Orc.br false, Orc.br false, Orc.loop [8, 9, 11] [] (AExit.exit 0) (tg [(8, AV.v (.int .i64 0)), (2, AV.v (.int .i64 L28_1_o0))] 29) []] [] [ACalls Try.prog 27 [AV.v (.int .i64 last), AV.v (.int .u8 bits)] [] (AV.v (.int .i64 (st8 last bits))) [] [], isB (ile bytes 0) false, isB (ile mss 0) false, nz mss, isB (ilt (imul .i64 (iquo .i64 (imin bytes 1099511627776) mss) mss) (imin bytes 1099511627776)) false, _] Try.func28 (by kernel_rfl) (by kernel_rfl) (.cons (by apply f27 <;> (first | exact (s0))) (.cons d0 (.cons d1 (.cons (s1 d0 d1) (.cons d2 (.cons (L28 _ _ _ _ (L28_1_h0 d0 d1 d2)) .nil)))))))
theorem g28 (last : Int) (bits : Int) (bytes : Int) (mss : Int) (L28_0_fuel : Nat) (L28_0_o0 : Int) (L28_1_fuel : Nat) (L28_1_o0 : Int) (L28_0_h0 : ((ile bytes 0) = false) → ((ile mss 0) = false) → ((ilt (imul .i64 (iquo .i64 (imin bytes 1099511627776) mss) mss) (imin bytes 1099511627776)) = true) → L28L L28_0_fuel (st8 last bits) (iadd .i64 (iquo .i64 (imin bytes 1099511627776) mss) 1) = some L28_0_o0) (L28_1_h0 : ((ile bytes 0) = false) → ((ile mss 0) = false) → ((ilt (imul .i64 (iquo .i64 (imin bytes 1099511627776) mss) mss) (imin bytes 1099511627776)) = false) → L28L L28_1_fuel (st8 last bits) (iquo .i64 (imin bytes 1099511627776) mss) = some L28_1_o0) (s0 : 0 ≤ bits ∧ bits ≤ 255) (s1 : ((ile bytes 0) = false) → ((ile mss 0) = false) → nz mss) : ACalls Try.prog 28 [AV.v (.int .i64 last), AV.v (.int .u8 bits), AV.v (.int .i64 bytes), AV.v (.int .i64 mss)] [] (AV.v (.int .i64 (g28r0 last bits bytes mss L28_0_fuel L28_0_o0 L28_1_fuel L28_1_o0))) [] [] := by
  have h := (ACalls.cond (ile bytes 0) (fun d0 => (g28_1 last bits bytes mss d0 s0)) (fun d0 => (ACalls.cond (ile mss 0) (fun d1 => (g28_2 last bits bytes mss d0 d1 s0)) (fun d1 => (ACalls.cond (ilt (imul .i64 (iquo .i64 (imin bytes 1099511627776) mss) mss) (imin bytes 1099511627776)) (fun d2 => (g28_3 last bits bytes mss L28_0_fuel L28_0_o0 d0 d1 d2 L28_0_h0 s0 s1)) (fun d2 => (g28_4 last bits bytes mss L28_1_fuel L28_1_o0 d0 d1 d2 L28_1_h0 s0 s1)))))))
  simp only [c_int, c_bool, c_str, c_agg, c_tup, c_fn, c_ifc, c_sl, c_pe, c_ptr, c_rows, c_siter, c_consA, c_consU, c_consO, c_cells, c_ints, c_bools, c_strs, c_same] at h
  exact h
def up8 (s n : Int) : Int := n + (s - n) % 8
/-- the least number of packets that bits and bytes let be -/
def gue (last bits bytes mss : Int) : Int := if bytes ≤ 0 ∨ mss ≤ 0 then st8 last bits else up8 (st8 last bits) (-((-(min bytes 1099511627776)) / mss))
theorem L28_eq (s : Int) (hs : 0 ≤ s ∧ s < 8) (d : Nat) : ∀ (n : Int), 0 ≤ n → n ≤ 1099511627776 + 8 - d → (s - n) % 8 = d → L28L (d + 1) s n = some (up8 s n) := by
  induction d with
  | zero =>
    intro n h0 h1 h2
    have a : ine (irem n 8) s = false := by
      unfold irem; rw [ine_d, Int.tmod_eq_emod_of_nonneg h0]; exact decide_eq_false (by omega)
    unfold L28L up8
    rw [a]; simp only [cond_false]; congr 1; omega
  | succ d ih =>
    intro n h0 h1 h2
    have a : ine (irem n 8) s = true := by
      unfold irem; rw [ine_d, Int.tmod_eq_emod_of_nonneg h0]; exact decide_eq_true (by omega)
    have c : iadd .i64 n 1 = n + 1 := w_i64_in (by omega)
    unfold L28L
    rw [a, c]; simp only [cond_true]
    rw [ih (n + 1) (by omega) (by omega) (by omega)]
    unfold up8; congr 1; omega
theorem ceil_bd {b m : Int} (hb : 0 < b) (hm : 0 < m) : 0 ≤ -((-b) / m) ∧ -((-b) / m) ≤ b := by
  have h1 : (-b) / m ≤ 0 := by have := Int.ediv_neg_of_neg_of_pos (a := -b) (b := m) (by omega) hm; omega
  have h2 : -b ≤ (-b) / m := by
    rw [Int.le_ediv_iff_mul_le hm]
    have : b * 1 ≤ b * m := Int.mul_le_mul_of_nonneg_left (by omega) (by omega)
    rw [Int.neg_mul]; omega
  omega
/-- rounding up, as the reference does it -/
theorem ceil_ref {b m : Int} (hb : 0 < b) (hm : 0 < m) : -((-b) / m) = if b / m * m < b then b / m + 1 else b / m := by
  have h1 := Int.emod_add_mul_ediv b m
  have h2 := Int.emod_nonneg b (show m ≠ 0 by omega)
  have h3 := Int.emod_lt_of_pos b hm
  have hc : m * (b / m) = b / m * m := Int.mul_comm _ _
  by_cases hz : b % m = 0
  · rw [if_neg (by omega)]
    have : -b = -(b / m) * m := by rw [Int.neg_mul]; omega
    rw [this, Int.mul_ediv_cancel _ (by omega)]; omega
  · rw [if_pos (by omega)]
    have e : -b = (m - b % m) + (-(b / m) - 1) * m := by rw [Int.sub_mul, Int.neg_mul]; omega
    rw [e, Int.add_mul_ediv_right _ _ (by omega), Int.ediv_eq_zero_of_lt (by omega) (by omega)]; omega
theorem f28 (last bits bytes mss : Int) (hb : 0 ≤ bits ∧ bits ≤ 255) (hy : -9223372036854775808 ≤ bytes ∧ bytes ≤ 9223372036854775807) (hm : -9223372036854775808 ≤ mss ∧ mss ≤ 9223372036854775807) :
    ACalls Try.prog 28 [.v (.int .i64 last), .v (.int .u8 bits), .v (.int .i64 bytes), .v (.int .i64 mss)] [] (.v (.int .i64 (gue last bits bytes mss))) [] [] := by
  have hs : 0 ≤ st8 last bits ∧ st8 last bits < 8 := by unfold st8; omega
  generalize hN : -((-(min bytes 1099511627776)) / mss) = N
  have key : ile bytes 0 = false → ile mss 0 = false → 0 ≤ N ∧ N ≤ 1099511627776 ∧ (ilt (imul .i64 (iquo .i64 (imin bytes 1099511627776) mss) mss) (imin bytes 1099511627776) = true → iadd .i64 (iquo .i64 (imin bytes 1099511627776) mss) 1 = N) ∧ (ilt (imul .i64 (iquo .i64 (imin bytes 1099511627776) mss) mss) (imin bytes 1099511627776) = false → iquo .i64 (imin bytes 1099511627776) mss = N) := by
    intro h1 h2
    have h1 : ¬ bytes ≤ 0 := of_decide_eq_false h1
    have h2 : ¬ mss ≤ 0 := of_decide_eq_false h2
    obtain ⟨b, hbe, hb0, hb1⟩ : ∃ b, min bytes 1099511627776 = b ∧ 0 < b ∧ b ≤ 1099511627776 := ⟨_, rfl, by omega, by omega⟩
    have hbd := ceil_bd (b := b) (m := mss) hb0 (by omega)
    have hre := ceil_ref (b := b) (m := mss) hb0 (by omega)
    unfold imin; rw [hbe] at hN ⊢
    rw [hN] at hbd hre
    have d1 := Int.emod_add_mul_ediv b mss
    have d2 := Int.emod_nonneg b (show mss ≠ 0 by omega)
    have hc : mss * (b / mss) = b / mss * mss := Int.mul_comm _ _
    have q0 : 0 ≤ b / mss := Int.ediv_nonneg (by omega) (by omega)
    have q3 : 0 ≤ b / mss * mss := Int.mul_nonneg q0 (by omega)
    have q4 : b / mss ≤ b / mss * mss := by
      have : b / mss * 1 ≤ b / mss * mss := Int.mul_le_mul_of_nonneg_left (by omega) q0
      omega
    have q1 : iquo .i64 b mss = b / mss := by
      unfold iquo; rw [Int.tdiv_eq_ediv_of_nonneg (by omega), w_i64_in (by omega)]
    have q2 : imul .i64 (b / mss) mss = b / mss * mss := by unfold imul; rw [w_i64_in (by omega)]
    rw [q1, q2]
    refine ⟨by omega, by omega, fun h => ?_, fun h => ?_⟩
    · have h : b / mss * mss < b := of_decide_eq_true h
      rw [if_pos h] at hre
      unfold iadd; rw [w_i64_in (by omega)]; omega
    · have h : ¬ b / mss * mss < b := of_decide_eq_false h
      rw [if_neg h] at hre; omega
  have h := g28 last bits bytes mss (((st8 last bits - N) % 8).toNat + 1) (up8 (st8 last bits) N) (((st8 last bits - N) % 8).toNat + 1) (up8 (st8 last bits) N)
    (fun h1 h2 h3 => by
      obtain ⟨k1, k2, k3, -⟩ := key h1 h2
      rw [k3 h3]; exact L28_eq _ hs _ N k1 (by omega) (by omega))
    (fun h1 h2 h3 => by
      obtain ⟨k1, k2, -, k4⟩ := key h1 h2
      rw [k4 h3]; exact L28_eq _ hs _ N k1 (by omega) (by omega)) hb
    (fun _ h => by have h : ¬ mss ≤ 0 := of_decide_eq_false h; unfold nz; omega)
  have e : g28r0 last bits bytes mss (((st8 last bits - N) % 8).toNat + 1) (up8 (st8 last bits) N) (((st8 last bits - N) % 8).toNat + 1) (up8 (st8 last bits) N) = gue last bits bytes mss := by
    unfold g28r0 gue
    rw [hN]
    simp only [ile_d, cond_if, decide_eq_true_eq]
    by_cases h1 : bytes ≤ 0
    · simp [h1]
    · by_cases h2 : mss ≤ 0
      · simp [h2]
      · simp [h1, h2]
  rw [e] at h; exact h
theorem fdiv_eq (x y : Int) (hx : -1099511627776 ≤ x ∧ x < 0) (hy : 0 < y) : f39r0 x y = x / y := by
  have q := ceil_bd (b := -x) (m := y) (by omega) hy
  rw [Int.neg_neg] at q
  have q1 : iquo .i64 x y = -((-x) / y) := by
    have h0 : 0 ≤ (-x) / y := Int.ediv_nonneg (by omega) (by omega)
    have h1 : (-x) / y ≤ -x := Int.ediv_le_self _ (by omega)
    unfold iquo; rw [tdiv_c hy, if_neg (by omega), w_i64_in (by omega)]
  have q2 : irem x y = -((-x) % y) := by unfold irem; rw [tmod_c hy, if_neg (by omega)]
  have hre := ceil_ref (b := -x) (m := y) (by omega) hy
  rw [Int.neg_neg] at hre
  have d1 := Int.emod_add_mul_ediv (-x) y
  have hc : y * (-x / y) = -x / y * y := Int.mul_comm _ _
  have h0 : 0 ≤ (-x) / y := Int.ediv_nonneg (by omega) (by omega)
  have h1 : (-x) / y ≤ -x := Int.ediv_le_self _ (by omega)
  have q3 : isub .i64 (-(-x / y)) 1 = -(-x / y) - 1 := by unfold isub; rw [w_i64_in (by omega)]
  have d2 := Int.emod_nonneg (-x) (show y ≠ 0 by omega)
  unfold f39r0
  rw [q1, q2, q3]
  have t1 : ieq y 0 = false := by rw [ieq_d]; exact decide_eq_false (by omega)
  have t2 : ieq x (-9223372036854775808) = false := by rw [ieq_d]; exact decide_eq_false (by omega)
  have t3 : ilt x 0 = true := decide_eq_true hx.2
  have t4 : ilt y 0 = false := decide_eq_false (by omega)
  rw [t1, t2, t3, t4]
  simp only [cond_false, cond_true]
  by_cases hz : (-x) % y = 0
  · have t5 : ine (-(-x % y)) 0 = false := by rw [ine_d, hz]; rfl
    rw [t5]; simp only [cond_false]
    rw [if_neg (by omega)] at hre; omega
  · have t5 : ine (-(-x % y)) 0 = true := by rw [ine_d]; exact decide_eq_true (by omega)
    rw [t5]
    have t6 : notB (beqB true false) = true := rfl
    rw [t6]; simp only [cond_true]
    rw [if_pos (by omega)] at hre; omega
theorem f33s (last bits bytes mss : Int) (hb : 0 ≤ bits ∧ bits ≤ 255) (hy : -9223372036854775808 ≤ bytes ∧ bytes ≤ 9223372036854775807) (hm : -9223372036854775808 ≤ mss ∧ mss ≤ 9223372036854775807) :
    ACalls Try.prog 33 [.v (.int .i64 last), .v (.int .u8 bits), .v (.int .i64 bytes), .v (.int .i64 mss)] [] (.v (.int .i64 (gue last bits bytes mss))) [] [] := by
  have h := f33 last bits bytes mss hb (fun _ h _ _ _ => by have h : ¬ mss ≤ 0 := of_decide_eq_false h; unfold nz; omega) (fun _ h _ _ => by have h : ¬ mss ≤ 0 := of_decide_eq_false h; unfold nz; omega)
  have e : f33r0 last bits bytes mss = gue last bits bytes mss := by
    unfold f33r0 gue
    simp only [ile_d, cond_if, decide_eq_true_eq]
    by_cases h1 : bytes ≤ 0
    · simp [h1]
    · by_cases h2 : mss ≤ 0
      · simp [h2]
      · rw [if_neg h1, if_neg h2, if_neg (by omega)]
        obtain ⟨b, hbe, hb0, hb1⟩ : ∃ b, min bytes 1099511627776 = b ∧ 0 < b ∧ b ≤ 1099511627776 := ⟨_, rfl, by omega, by omega⟩
        unfold imin; rw [hbe]
        have q1 : isub .i64 0 b = -b := by unfold isub; rw [w_i64_in (by omega)]; omega
        have hbd := ceil_bd (b := b) (m := mss) hb0 (by omega)
        rw [q1, fdiv_eq (-b) mss (by omega) (by omega)]
        have q2 : isub .i64 0 (-b / mss) = -(-b / mss) := by unfold isub; rw [w_i64_in (by omega)]; omega
        rw [q2]
        generalize -(-b / mss) = N at *
        have hs : 0 ≤ st8 last bits ∧ st8 last bits < 8 := by unfold st8; omega
        generalize st8 last bits = s at *
        unfold f40r0 up8
        have q3 : icv .u64 (isub .i64 s N) = (s - N) % 18446744073709551616 := by
          unfold icv isub; rw [w_i64_in (by omega), w_u64]
        rw [q3, cut_eq _ _ (by omega), rd3]
        have q4 : (s - N) % 18446744073709551616 % 8 = (s - N) % 8 := by omega
        rw [q4]
        unfold iadd icv; rw [w_i64_in (x := (s - N) % 8) (by omega), w_i64_in (by omega)]
  rw [e] at h; exact h
end Go.Proofs.Ytmaalibjfjokeaa.Ace
