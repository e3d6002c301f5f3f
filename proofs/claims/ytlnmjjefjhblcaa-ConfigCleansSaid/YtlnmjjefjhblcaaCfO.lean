import Derived.Test.YtlnmjjefjhblcaaCfM
import Derived.Test.YtlnmjjefjhblcaaCfN
import Derived.Test.YtlnmjjefjhblcaaCfK
set_option maxRecDepth 100000
set_option linter.all false
set_option maxHeartbeats 4000000
namespace Go.Proofs.Ytlnmjjefjhblcaa.Cf
open Go.Abs
theorem cN_le (j0 : List (El FF)) : cN j0 ≤ 256 := by unfold cN; omega
theorem cPl_le (l : List Int) : (cPl l).length ≤ 4096 := by unfold cPl; simp; omega
theorem cDr_le (l : List Int) : (cDr l).length ≤ 4096 := by unfold cDr; simp; omega
theorem sz0 (j0 : List (El FF)) : decide (lenR FF (cFl j0) ≤ 1000000) = true := decide_eq_true (by unfold lenR; rw [cFl_len]; have := cN_le j0; omega)
theorem sz1 (j0 : List (El FF)) (j1 : List Int) : decide (lenI (cBs j0 j1) ≤ 1000000) = true := decide_eq_true (by unfold lenI; rw [cBs_len]; have := cN_le j0; omega)
theorem sz2 (l : List Int) : decide (lenI (cPl l) ≤ 1000000) = true := decide_eq_true (by unfold lenI; have := cPl_le l; omega)
theorem sz3 (l : List Int) : decide (lenI (cDr l) ≤ 1000000) = true := decide_eq_true (by unfold lenI; have := cDr_le l; omega)
theorem sA_clean (r a0 a1 a2 a3 a4 a5 a6 a7 y z : Int) : sA (kp a0 1 1073741824) (kp a1 0 67108864) (kp a2 1 1125899906842624) (kp a3 0 17179869184) (kp a4 0 17179869184) (kp a5 0 65536) (kp a6 0 67108864) (kp a7 0 67108864) = true := by
  simp only [sA, andB]
  rw [ieq_kp (x := (kp a0 1 1073741824)) (show (1 : Int) ≤ 1073741824 by decide), (kp_wt (x := (kp a0 1 1073741824)) (show (1 : Int) ≤ 1073741824 by decide)).1 (kp_kp a0 (by decide)), ieq_kp (x := (kp a1 0 67108864)) (show (0 : Int) ≤ 67108864 by decide), (kp_wt (x := (kp a1 0 67108864)) (show (0 : Int) ≤ 67108864 by decide)).1 (kp_kp a1 (by decide)), ieq_kp (x := (kp a2 1 1125899906842624)) (show (1 : Int) ≤ 1125899906842624 by decide), (kp_wt (x := (kp a2 1 1125899906842624)) (show (1 : Int) ≤ 1125899906842624 by decide)).1 (kp_kp a2 (by decide)), ieq_kp (x := (kp a3 0 17179869184)) (show (0 : Int) ≤ 17179869184 by decide), (kp_wt (x := (kp a3 0 17179869184)) (show (0 : Int) ≤ 17179869184 by decide)).1 (kp_kp a3 (by decide)), ieq_kp (x := (kp a4 0 17179869184)) (show (0 : Int) ≤ 17179869184 by decide), (kp_wt (x := (kp a4 0 17179869184)) (show (0 : Int) ≤ 17179869184 by decide)).1 (kp_kp a4 (by decide)), ieq_kp (x := (kp a5 0 65536)) (show (0 : Int) ≤ 65536 by decide), (kp_wt (x := (kp a5 0 65536)) (show (0 : Int) ≤ 65536 by decide)).1 (kp_kp a5 (by decide)), ieq_kp (x := (kp a6 0 67108864)) (show (0 : Int) ≤ 67108864 by decide), (kp_wt (x := (kp a6 0 67108864)) (show (0 : Int) ≤ 67108864 by decide)).1 (kp_kp a6 (by decide)), ieq_kp (x := (kp a7 0 67108864)) (show (0 : Int) ≤ 67108864 by decide), (kp_wt (x := (kp a7 0 67108864)) (show (0 : Int) ≤ 67108864 by decide)).1 (kp_kp a7 (by decide))]
  rfl
theorem ck_clean (j0 : List (El FF)) (j1 j2 j3 : List Int) (r a0 a1 a2 a3 a4 a5 a6 a7 y z : Int) : ckE (kp r 1 1099511627776) (kp a0 1 1073741824) (kp a1 0 67108864) (kp a2 1 1125899906842624) (kp a3 0 17179869184) (kp a4 0 17179869184) (kp a5 0 65536) (kp a6 0 67108864) (kp a7 0 67108864) (kp y 0 1000) (kp z 0 1099511627776) (lenR FF (cFl j0)) (lenI (cBs j0 j1)) (lenI (cPl j2)) (lenI (cDr j3)) (fb (cFl j0) (cBs j0 j1)) (pix (cPl j2)) = 0 := by
  refine (ckE_iff (kp r 1 1099511627776) (kp a0 1 1073741824) (kp a1 0 67108864) (kp a2 1 1125899906842624) (kp a3 0 17179869184) (kp a4 0 17179869184) (kp a5 0 65536) (kp a6 0 67108864) (kp a7 0 67108864) (kp y 0 1000) (kp z 0 1099511627776) _ _ _ _ _ _).2 ⟨?_, ?_, ?_, fb_clean _ _, (kp_wt (by decide)).1 (kp_kp _ (by decide)), sA_clean r a0 a1 a2 a3 a4 a5 a6 a7 y z, ?_, pix_clean _, ?_, (kp_wt (by decide)).1 (kp_kp _ (by decide)), (kp_wt (by decide)).1 (kp_kp _ (by decide))⟩
  · unfold lenR; rw [cFl_len]; unfold cN; omega
  · unfold lenR; rw [cFl_len]; exact cN_le _
  · unfold lenR lenI; rw [cFl_len, cBs_len]
  · exact cPl_le _
  · exact cDr_le _
theorem q8c (j0 : List (El FF)) (j1 j2 j3 : List Int) (r a0 a1 a2 a3 a4 a5 a6 a7 y z : Int) : ACalls Try.prog 8 [cC (kp r 1 1099511627776) (kp a0 1 1073741824) (kp a1 0 67108864) (kp a2 1 1125899906842624) (kp a3 0 17179869184) (kp a4 0 17179869184) (kp a5 0 65536) (kp a6 0 67108864) (kp a7 0 67108864) (kp y 0 1000) (kp z 0 1099511627776)] (hH (cFl j0) (cBs j0 j1) (cPl j2) (cDr j3)) (AV.tup [iI 0, iI 0]) [] [] := by
  have h := g8 (cFl j0) (cBs j0 j1) (cPl j2) (cDr j3) (kp r 1 1099511627776) (kp a0 1 1073741824) (kp a1 0 67108864) (kp a2 1 1125899906842624) (kp a3 0 17179869184) (kp a4 0 17179869184) (kp a5 0 65536) (kp a6 0 67108864) (kp a7 0 67108864) (kp y 0 1000) (kp z 0 1099511627776)
  rw [ckK_0 (kp r 1 1099511627776) (kp a0 1 1073741824) (kp a1 0 67108864) (kp a2 1 1125899906842624) (kp a3 0 17179869184) (kp a4 0 17179869184) (kp a5 0 65536) (kp a6 0 67108864) (kp a7 0 67108864) (kp y 0 1000) (kp z 0 1099511627776) _ _ _ _ _ _ (ck_clean j0 j1 j2 j3 r a0 a1 a2 a3 a4 a5 a6 a7 y z), ck_clean j0 j1 j2 j3 r a0 a1 a2 a3 a4 a5 a6 a7 y z] at h
  exact h
theorem q10c (j0 : List (El FF)) (j1 j2 j3 : List Int) (r a0 a1 a2 a3 a4 a5 a6 a7 y z : Int) : ACalls Try.prog 10 [cC (kp r 1 1099511627776) (kp a0 1 1073741824) (kp a1 0 67108864) (kp a2 1 1125899906842624) (kp a3 0 17179869184) (kp a4 0 17179869184) (kp a5 0 65536) (kp a6 0 67108864) (kp a7 0 67108864) (kp y 0 1000) (kp z 0 1099511627776)] (hH (cFl j0) (cBs j0 j1) (cPl j2) (cDr j3)) (AV.agg [AV.sw 4 10, AV.sw 5 1, iI (kp r 1 1099511627776), iI (kp a0 1 1073741824), iI (kp a1 0 67108864), iI (kp a2 1 1125899906842624), iI (kp a3 0 17179869184), iI (kp a4 0 17179869184), iI (kp a5 0 65536), iI (kp a6 0 67108864), iI (kp a7 0 67108864), AV.sw 6 1, AV.sw 7 1, iI (kp y 0 1000), iI (kp z 0 1099511627776)]) []
      [AObj.rows false FF (cFl j0), AObj.ints 0 false .i64 (cBs j0 j1), AObj.ints 0 false .i64 (cPl j2), AObj.ints 0 false .u32 (cDr j3)] := by
  have h := q10 (cFl j0) (cBs j0 j1) (cPl j2) (cDr j3) (kp r 1 1099511627776) (kp a0 1 1073741824) (kp a1 0 67108864) (kp a2 1 1125899906842624) (kp a3 0 17179869184) (kp a4 0 17179869184) (kp a5 0 65536) (kp a6 0 67108864) (kp a7 0 67108864) (kp y 0 1000) (kp z 0 1099511627776) (sz0 j0) (sz2 j2) (sz3 j3)
  rw [cFl_cFl, cBs_cBs, cPl_cPl, cDr_cDr, kp_kp r (show (1 : Int) ≤ 1099511627776 by decide), kp_kp a0 (show (1 : Int) ≤ 1073741824 by decide), kp_kp a1 (show (0 : Int) ≤ 67108864 by decide), kp_kp a2 (show (1 : Int) ≤ 1125899906842624 by decide), kp_kp a3 (show (0 : Int) ≤ 17179869184 by decide), kp_kp a4 (show (0 : Int) ≤ 17179869184 by decide), kp_kp a5 (show (0 : Int) ≤ 65536 by decide), kp_kp a6 (show (0 : Int) ≤ 67108864 by decide), kp_kp a7 (show (0 : Int) ≤ 67108864 by decide), kp_kp y (show (0 : Int) ≤ 1000 by decide), kp_kp z (show (0 : Int) ≤ 1099511627776 by decide)] at h
  exact h
theorem q11e (j0 : List (El FF)) (j1 j2 j3 : List Int) (r a0 a1 a2 a3 a4 a5 a6 a7 y z : Int) (h0 : decide (lenR FF j0 ≤ 1000000) = true) (h1 : decide (lenI j1 ≤ 1000000) = true) (h2 : decide (lenI j2 ≤ 1000000) = true) (h3 : decide (lenI j3 ≤ 1000000) = true) :
    ACalls Try.prog 11 [cC r a0 a1 a2 a3 a4 a5 a6 a7 y z, cD r a0 a1 a2 a3 a4 a5 a6 a7 y z] [AObj.rows false FF j0, AObj.ints 0 false .i64 j1, AObj.ints 0 false .i64 j2, AObj.ints 0 false .u32 j3, AObj.rows false FF j0, AObj.ints 0 false .i64 j1, AObj.ints 0 false .i64 j2, AObj.ints 0 false .u32 j3] (iB true) [] [] := by
  have h := g11 false false j0 j0 j1 j2 j3 j1 j2 j3 r a0 a1 a2 a3 a4 a5 a6 a7 y z r a0 a1 a2 a3 a4 a5 a6 a7 y z h0 h1 h2 h3
  rw [(smC_iff r a0 a1 a2 a3 a4 a5 a6 a7 y z r a0 a1 a2 a3 a4 a5 a6 a7 y z _ _ _ _).2 ⟨rfl, rfl, rfl, rfl, rfl, rfl, rfl, rfl, rfl, rfl, rfl, (eqF_iff _ _).2 rfl, (eqI_iff _ _).2 rfl, (eqI_iff _ _).2 rfl, (eqI_iff _ _).2 rfl⟩] at h
  exact h
theorem q12e (j0 : List (El FF)) (j1 j2 j3 : List Int) (r a0 a1 a2 a3 a4 a5 a6 a7 y z : Int) (h0 : decide (lenR FF j0 ≤ 1000000) = true) (h1 : decide (lenI j1 ≤ 1000000) = true) (h2 : decide (lenI j2 ≤ 1000000) = true) (h3 : decide (lenI j3 ≤ 1000000) = true) :
    ACalls Try.prog 12 [cC r a0 a1 a2 a3 a4 a5 a6 a7 y z, cD r a0 a1 a2 a3 a4 a5 a6 a7 y z] [AObj.rows false FF j0, AObj.ints 0 false .i64 j1, AObj.ints 0 false .i64 j2, AObj.ints 0 false .u32 j3, AObj.rows false FF j0, AObj.ints 0 false .i64 j1, AObj.ints 0 false .i64 j2, AObj.ints 0 false .u32 j3] (iB true) [] [] := by
  have h := g12 false false j0 j0 j1 j2 j3 j1 j2 j3 r a0 a1 a2 a3 a4 a5 a6 a7 y z r a0 a1 a2 a3 a4 a5 a6 a7 y z h0 h1 h2 h3
  rw [(smC_iff r a0 a1 a2 a3 a4 a5 a6 a7 y z r a0 a1 a2 a3 a4 a5 a6 a7 y z _ _ _ _).2 ⟨rfl, rfl, rfl, rfl, rfl, rfl, rfl, rfl, rfl, rfl, rfl, (eqF_iff _ _).2 rfl, (eqI_iff _ _).2 rfl, (eqI_iff _ _).2 rfl, (eqI_iff _ _).2 rfl⟩] at h
  exact h
/-- what is let be is as it is made -/
theorem keep_iff (j0 : List (El FF)) (j1 j2 j3 : List Int) (r a0 a1 a2 a3 a4 a5 a6 a7 y z : Int) : (ckE r a0 a1 a2 a3 a4 a5 a6 a7 y z (lenR FF j0) (lenI j1) (lenI j2) (lenI j3) (fb j0 j1) (pix j2) = 0) ↔ smC (kp r 1 1099511627776) (kp a0 1 1073741824) (kp a1 0 67108864) (kp a2 1 1125899906842624) (kp a3 0 17179869184) (kp a4 0 17179869184) (kp a5 0 65536) (kp a6 0 67108864) (kp a7 0 67108864) (kp y 0 1000) (kp z 0 1099511627776) r a0 a1 a2 a3 a4 a5 a6 a7 y z (eqF (cFl j0) j0) (eqI (cBs j0 j1) j1) (eqI (cPl j2) j2) (eqI (cDr j3) j3) = true := by
  rw [ckE_iff, smC_iff, eqF_iff, eqI_iff, eqI_iff, eqI_iff, kp_wt (show (1 : Int) ≤ 1099511627776 by decide), kp_wt (show (0 : Int) ≤ 1000 by decide), kp_wt (show (0 : Int) ≤ 1099511627776 by decide)]
  rw [kp_wt (x := a0) (show (1 : Int) ≤ 1073741824 by decide), kp_wt (x := a1) (show (0 : Int) ≤ 67108864 by decide), kp_wt (x := a2) (show (1 : Int) ≤ 1125899906842624 by decide), kp_wt (x := a3) (show (0 : Int) ≤ 17179869184 by decide), kp_wt (x := a4) (show (0 : Int) ≤ 17179869184 by decide), kp_wt (x := a5) (show (0 : Int) ≤ 65536 by decide), kp_wt (x := a6) (show (0 : Int) ≤ 67108864 by decide), kp_wt (x := a7) (show (0 : Int) ≤ 67108864 by decide)]
  have hA : sA a0 a1 a2 a3 a4 a5 a6 a7 = true ↔ (wt a0 1 1073741824 = true ∧ wt a1 0 67108864 = true ∧ wt a2 1 1125899906842624 = true ∧ wt a3 0 17179869184 = true ∧ wt a4 0 17179869184 = true ∧ wt a5 0 65536 = true ∧ wt a6 0 67108864 = true ∧ wt a7 0 67108864 = true) := by
    simp only [sA, andB]
    rw [ieq_kp (x := a0) (show (1 : Int) ≤ 1073741824 by decide), ieq_kp (x := a1) (show (0 : Int) ≤ 67108864 by decide), ieq_kp (x := a2) (show (1 : Int) ≤ 1125899906842624 by decide), ieq_kp (x := a3) (show (0 : Int) ≤ 17179869184 by decide), ieq_kp (x := a4) (show (0 : Int) ≤ 17179869184 by decide), ieq_kp (x := a5) (show (0 : Int) ≤ 65536 by decide), ieq_kp (x := a6) (show (0 : Int) ≤ 67108864 by decide), ieq_kp (x := a7) (show (0 : Int) ≤ 67108864 by decide)]
    simp only [Bool.and_eq_true]
  have hP : (lenI j2 ≤ 4096 ∧ pix j2 = -1) ↔ cPl j2 = j2 := by
    refine ⟨fun ⟨h1, h2⟩ => ?_, fun h => ⟨by have := cPl_le j2; rw [h] at this; exact this, by rw [← h]; exact pix_clean j2⟩⟩
    have h1' : j2.length ≤ 4096 := h1
    unfold cPl
    rw [List.take_of_length_le h1']
    refine List.ext_getElem (by simp) fun i hi hi2 => ?_
    rw [List.getElem_map]
    have := (pixr_iff j2 _ _).1 h2 i (Nat.zero_le _) (by omega)
    rw [getI_get hi2] at this
    exact (kp_wt (by decide)).2 this
  have hD : lenI j3 ≤ 4096 ↔ cDr j3 = j3 := by
    refine ⟨fun h => List.take_of_length_le h, fun h => by have := cDr_le j3; rw [h] at this; exact this⟩
  have hF : (lenR FF j0 ≠ 0 ∧ lenR FF j0 ≤ 256 ∧ lenI j1 = lenR FF j0 ∧ fb j0 j1 = 0) ↔ (cFl j0 = j0 ∧ cBs j0 j1 = j1) := by
    constructor
    · rintro ⟨h1, h2, h3, h4⟩
      have k1 : j0.length ≠ 0 := h1
      have k2 : j0.length ≤ 256 := h2
      have k3 : j1.length = j0.length := h3
      have kN : cN j0 = j0.length := by unfold cN; omega
      have hb := (bfr_iff j0 j1 _ _).1 h4
      refine ⟨List.ext_getElem (by rw [cFl_len, kN]) fun i hi hi2 => ?_, List.ext_getElem (by rw [cBs_len, kN, k3]) fun i hi hi2 => ?_⟩
      · rw [← getR_get hi, cFl_get (by omega), flAt, if_pos hi2, ((bad_f _ _ _).1 (hb i (Nat.zero_le _) (by omega))).1, getR_get hi2]
      · rw [← getI_get hi, cBs_get (by omega), bsAt, if_pos hi2, (kp_wt (by decide)).2 ((bad_f _ _ _).1 (hb i (Nat.zero_le _) (by omega))).2, getI_get hi2]
    · rintro ⟨h1, h2⟩
      have e1 : j0.length = cN j0 := by have := cFl_len j0; rw [h1] at this; exact this
      have e2 : j1.length = cN j0 := by have := cBs_len j0 j1; rw [h2] at this; exact this
      have e3 : 0 < cN j0 := by unfold cN; omega
      have e4 := cN_le j0
      refine ⟨by unfold lenR; omega, by unfold lenR; omega, by unfold lenR lenI; omega, ?_⟩
      have := fb_clean j0 j1
      rw [h1, h2] at this; exact this
  rw [hA]
  constructor
  · rintro ⟨p1, p2, p3, p4, p5, p6, p7, p8, p9, p10, p11⟩
    obtain ⟨f1, f2⟩ := hF.1 ⟨p1, p2, p3, p4⟩
    obtain ⟨b0, b1, b2, b3, b4, b5, b6, b7⟩ := p6
    exact ⟨p5, b0, b1, b2, b3, b4, b5, b6, b7, p10, p11, f1, f2, hP.1 ⟨p7, p8⟩, hD.1 p9⟩
  · rintro ⟨p5, b0, b1, b2, b3, b4, b5, b6, b7, p10, p11, f1, f2, f3, f4⟩
    obtain ⟨p1, p2, p3, p4⟩ := hF.2 ⟨f1, f2⟩
    obtain ⟨p7, p8⟩ := hP.2 f3
    exact ⟨p1, p2, p3, p4, p5, ⟨b0, b1, b2, b3, b4, b5, b6, b7⟩, p7, p8, hD.2 f4, p10, p11⟩
end Go.Proofs.Ytlnmjjefjhblcaa.Cf
