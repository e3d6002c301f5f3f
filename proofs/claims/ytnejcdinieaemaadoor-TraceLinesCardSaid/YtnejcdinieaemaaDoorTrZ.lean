import Derived.Test.YtnejcdinieaemaaDoorTrY
/- A number's text (leatref41): its digits by recursion are strconv's. -/
set_option linter.all false
namespace Go.Proofs.YtnejcdinieaemaaDoor.Tr
open Go.Abs
theorem dP_1 {n : Int} (h : dP n = true) : -9223372036854775808 ≤ n ∧ n ≤ 0 := of_decide_eq_true h
theorem smX_1 {n : Int} (h : smX n = true) : -9223372036854775808 ≤ n ∧ n ≤ 9223372036854775807 := of_decide_eq_true h
theorem iquo10 {x : Int} (h : dP x = true) : iquo .i64 x 10 = -(((x.natAbs / 10 : Nat)) : Int) := by
  have := dP_1 h
  unfold iquo
  rw [tdiv_c (by decide)]
  split
  · have : x = 0 := by omega
    subst this; rfl
  · rw [w_i64_in (by omega)]; omega
theorem last_digit {x : Int} (h : dP x = true) : strI [icv IntKind.u8 (isub .i64 48 (irem x 10))] = ⟨#[UInt8.ofNat (48 + x.natAbs % 10)]⟩ := by
  have h0 := dP_1 h
  have e : irem x 10 = -((x.natAbs % 10 : Nat) : Int) := by
    unfold irem
    rw [tmod_c (by decide)]
    split <;> omega
  have e2 : icv IntKind.u8 (isub .i64 48 (irem x 10)) = ((48 + x.natAbs % 10 : Nat) : Int) := by
    unfold icv isub
    rw [e, w_i64_in (by omega), w_u8]; omega
  rw [e2]
  unfold strI strOfNums
  rw [List.map_cons, List.map_nil, Int.toNat_natCast]
theorem dS_small {x : Int} (h : dP x = true) (h1 : ilt (-10) x = true) : strI [icv IntKind.u8 (isub .i64 48 (irem x 10))] = dS x := by
  rw [ilt_d, decide_eq_true_eq] at h1
  have := dP_1 h
  rw [last_digit h]
  unfold dS
  rw [Lib.decDigits_one (by omega)]
  have : x.natAbs % 10 = x.natAbs := by omega
  rw [this]
theorem dS_big {x : Int} (h : dP x = true) (h1 : ilt (-10) x = false) : sadd (dS (iquo .i64 x 10)) (strI [icv IntKind.u8 (isub .i64 48 (irem x 10))]) = dS x := by
  rw [ilt_d, decide_eq_false_iff_not] at h1
  have := dP_1 h
  rw [last_digit h, iquo10 h]
  unfold dS sadd
  have e : (-(((x.natAbs / 10 : Nat)) : Int)).natAbs = x.natAbs / 10 := by omega
  rw [e, Lib.decDigits.eq_def x.natAbs, dif_neg (by omega)]
  apply ByteArray.ext
  simp
theorem dS_size {x : Int} (h : dP x = true) : (dS x).size ≤ 20 := by
  have := dP_1 h
  show (Array.size _) ≤ 20
  simp only [dS, List.size_toArray, Lib.decDigits_length]
  exact Lib.nDigits_le20 _ (by omega)
theorem g55 (x : Int) (h : dP x = true) : ACalls Tryd.prog 55 [.v (.int .i64 x)] [] (.v (.string (dS x))) [] [] := by
  generalize hn : x.natAbs = n
  induction n using Nat.strongRecOn generalizing x with
  | _ n ih =>
    have h0 := dP_1 h
    cases hd : ilt (-10) x with
    | true =>
      have := f55_1 x hd
      rw [dS_small h hd] at this; exact this
    | false =>
      have h1 := hd
      rw [ilt_d, decide_eq_false_iff_not] at h1
      have hp : dP (iquo .i64 x 10) = true := by rw [iquo10 h]; exact decide_eq_true (by omega)
      have hc := ih (x.natAbs / 10) (by omega) (iquo .i64 x 10) hp (by rw [iquo10 h]; omega)
      have := f55_2 x hc hd (fun _ => hp) (fun _ => by
        have := dS_size hp
        rw [last_digit h]; unfold sfit; show _ + 1 ≤ _; omega)
      rw [dS_big h hd] at this; exact this
end Go.Proofs.YtnejcdinieaemaaDoor.Tr
