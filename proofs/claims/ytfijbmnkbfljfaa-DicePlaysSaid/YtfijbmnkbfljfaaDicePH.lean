import Derived.Test.YtfijbmnkbfljfaaDiceH
import Derived.Test.YtfijbmnkbfljfaaAbsWs
set_option linter.unusedVariables false
set_option linter.unusedSimpArgs false
set_option maxRecDepth 100000
namespace Go.Proofs.Ytfijbmnkbfljfaa.Dice
open Go.Abs
def rng (l : List Int) : Prop := ∀ y ∈ l, 0 ≤ y ∧ y < 4294967296
theorem rdraw_in {l : List Int} (h : rng l) (n : Int) : 0 ≤ rdraw l n ∧ rdraw l n < 4294967296 := by
  unfold rdraw
  split
  · decide
  · rename_i hl
    have hp := List.length_pos_iff.2 hl
    have hm := Nat.mod_lt n.toNat hp
    rw [List.getD_eq_getElem?_getD, List.getElem?_eq_getElem hm, Option.getD_some]
    exact h _ (List.getElem_mem hm)
/-- the place of the draw at i -/
def plc (l : List Int) (i : Nat) : Int := if l = [] then 0 else ((i % l.length : Nat) : Int)
theorem plc_ok (l : List Int) (i : Nat) : okD l (plc l i) = true := by
  unfold okD plc
  by_cases h : l = []
  · subst h; simp
  · have hp := List.length_pos_iff.2 h
    have hm := Nat.mod_lt i hp
    rw [if_neg h]
    simp only [Bool.and_eq_true, Bool.or_eq_true, decide_eq_true_eq]
    omega
theorem draw_at (l : List Int) (i : Nat) : f49r0 l (plc l i) = rdraw l i := by
  unfold f49r0 rdraw plc
  by_cases h : l = []
  · subst h; simp [ieq, nlen, lenI]
  · have hp := List.length_pos_iff.2 h
    have e : ieq (nlen (lenI l)) 0 = false := by simp [ieq, nlen, lenI, h]
    rw [e, if_neg h, if_neg h]
    rw [cond_false]
    unfold getI idxN
    rw [Int.toNat_natCast, Nat.zero_add]; rfl
theorem draw_next (l : List Int) (i : Nat) (hl : l.length ≤ 50) : f49r1 l (plc l i) = plc l (i + 1) := by
  unfold f49r1 plc
  by_cases h : l = []
  · subst h; simp [ieq, nlen, lenI]
  · have hp := List.length_pos_iff.2 h
    have e : ieq (nlen (lenI l)) 0 = false := by simp [ieq, nlen, lenI, h]
    rw [e, if_neg h, if_neg h]
    have hm := Nat.mod_lt i hp
    have e1 : iadd .i64 ((i % l.length : Nat) : Int) 1 = (((i % l.length + 1 : Nat)) : Int) := by unfold iadd; rw [w_i64_in (by omega)]; omega
    simp only [cond_false, e1, irem, nlen, lenI]
    rw [Int.tmod_eq_emod_of_nonneg (by omega), ← Int.natCast_emod]
    congr 1
    rw [Nat.add_mod, Nat.mod_mod, ← Nat.add_mod]
theorem plays_loop (l s : List Int) (d : List Int) (hd : rng d) (hl : d.length ≤ 50) : ∀ (k i : Nat), i + k = 60 → L5L l s (k + 1) d d i i (plc d i) = some 1 := by
  intro k
  induction k with
  | zero =>
    intro i hi
    obtain rfl : i = 60 := by omega
    simp only [L5L]
    rw [show ilt ((60 : Nat) : Int) 60 = false from rfl]
    simp
  | succ k ih =>
    intro i hi
    have hn := ih (i + 1) (by omega)
    rw [L5L]
    have a1 : iadd .i64 (i : Int) 1 = ((i + 1 : Nat) : Int) := by unfold iadd; rw [w_i64_in (by omega)]; omega
    have c1 : ilt (i : Int) 60 = true := by simp only [ilt_d, decide_eq_true_eq]; omega
    have c2 : ine (f49r0 d (plc d i)) (rdraw d i) = false := by rw [draw_at]; simp [ine]
    have c3 : ine (iadd .i64 (i : Int) 1) (iadd .i64 (i : Int) 1) = false := by simp [ine]
    have c4 : ∀ z, notB (beqB (f23r0 d (plc d i) i z) (f24r0 (rdraw d i) z)) = false := fun z => by
      have : f23r0 d (plc d i) i z = f24r0 (rdraw d i) z := by
        unfold f23r0; rw [draw_at]; exact hit_eq _ z (rdraw_in hd i).1 (rdraw_in hd i).2
      rw [this, notB_d, beqB_d]; simp
    rw [c1, c2, c3, c4, draw_next d i hl, a1]
    have k1 : okD d (plc d i) = true := plc_ok d i
    have k2 : (0 : Int) ≤ i := by omega
    cases hs : ilt (i : Int) (nlen (lenI s)) with
    | false => simp
    | true =>
      have hs' : (i : Int) < s.length := by simpa [ilt_d, nlen, lenI] using hs
      have k3 : inB (i : Int) (lenI s) := ⟨k2, by unfold lenI; exact hs'⟩
      have k4 : ltN (idxN 0 (i : Int)) (lenI s) := by unfold ltN idxN lenI; omega
      simp only [k1, k2, k3, k4, decide_true, cond_true, cond_false, hn]
      cases ieq (irem (i : Int) 2) 0 <;> rfl
theorem dice_plays (l s : List Int) (hl : ∀ y ∈ l, 0 ≤ y ∧ y < 4294967296) : ACalls Try.prog 5 [AV.sw 0 1, AV.sw 1 1] [AObj.ints 0 false .u32 l, AObj.ints 0 false .i64 s] (AV.v (Value.bool true)) [] [] := by
  have e0 : imin (nlen (lenI l)) 50 = ((min l.length 50 : Nat) : Int) := by unfold imin nlen lenI; omega
  have hd : rng (subI l 0 (subN (imin (nlen (lenI l)) 50) 0)) := fun y hy => by
    unfold subI at hy
    exact hl y (List.mem_of_mem_drop (List.mem_of_mem_take hy))
  have hle : (subI l 0 (subN (imin (nlen (lenI l)) 50) 0)).length ≤ 50 := by
    rw [e0]; unfold subI subN; simp; omega
  have hc := plays_loop l s _ hd hle 60 0 rfl
  have p0 : ∀ d : List Int, plc d 0 = 0 := fun d => by unfold plc; split <;> simp
  rw [p0] at hc
  exact f5 l s 1 61 61 (fun h => by simp at h) (fun _ => hc) (by rw [e0]; unfold inC nlen lenI; omega) (by rw [e0]; unfold leN subN lenI; simp; omega)
    (by unfold fitN; have : lenI (subI l 0 (subN (imin (nlen (lenI l)) 50) 0)) ≤ 50 := hle; omega)
theorem law_plays (l : List (El (Go.Abs.PS.int .u32).ck)) (s : List (El (Go.Abs.PS.int .i64).ck)) (w0 : ∀ y ∈ l, El.ok (Go.Abs.PS.int .u32).ck y) (w1 : ∀ y ∈ s, El.ok (Go.Abs.PS.int .i64).ck y) :
    ACalls Try.prog 5 [AV.sw 0 1, AV.sw 1 1] [rowO (Go.Abs.PS.int .u32).ck l, rowO (Go.Abs.PS.int .i64).ck s] (AV.v (Value.bool true)) [] [] :=
  dice_plays l s (fun y hy => by have := wf_u32' (w0 y hy); omega)
end Go.Proofs.Ytfijbmnkbfljfaa.Dice
