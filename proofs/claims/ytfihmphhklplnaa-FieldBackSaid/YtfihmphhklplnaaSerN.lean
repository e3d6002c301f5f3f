import Derived.Test.YtfihmphhklplnaaSerM
set_option linter.unusedVariables false
/- Layer 3: plain laws. -/
namespace Go.Proofs.Ytfihmphhklplnaa.Ser
open Go.Abs
theorem rd_nz (n : Int) : nz (rd n) ∧ nz (icv .u64 (rd n)) := by
  obtain ⟨-, -, -, h1, h2, -⟩ := rcut_eq 0 n (by omega)
  exact ⟨by show _ ≠ _; omega, by unfold icv; rw [w_u64_in (by omega)]; show _ ≠ _; omega⟩
theorem mask_eq (n : Int) : mask n = rd n - 1 := by
  obtain ⟨c, s, h1, h2, h3, h4, h5⟩ := pw n
  have hle := pow_le62 h2
  have hp := pow_pos' c
  have hm : min ((c : Nat) : Int).toNat (IntKind.bits .u64) = c := by simp [IntKind.bits]; omega
  unfold mask ishl isub
  rw [h4, hm, h5]
  rw [w_u64_in (x := 1 * 2 ^ c) (by omega), w_u64_in (by omega)]; omega
theorem cut_rcut (x n : Int) (hx : 0 ≤ x ∧ x < 18446744073709551616) : cut x n = rcut x n := by
  obtain ⟨c, s, h1, h2, h3, h4, h5⟩ := pw n
  rw [(rcut_eq x n hx.1).1]
  unfold cut iand
  rw [mask_eq, h5]
  exact bits_mask .u64 64 (by decide) (fun n h0 h1 => w_u64_in (by simp at h1; omega)) c (by omega) x hx.1 (by simpa using hx.2)
theorem rd_lit {n : Int} {N : Int} (h : (2 : Int) ^ (max 1 (min n 62)).toNat = N) : rd n = N := h
theorem cut_eq (x n : Int) (hx : 0 ≤ x ∧ x < 18446744073709551616) : cut x n = x % rd n := by
  rw [cut_rcut x n hx, (rcut_eq x n hx.1).1]
end Go.Proofs.Ytfihmphhklplnaa.Ser
