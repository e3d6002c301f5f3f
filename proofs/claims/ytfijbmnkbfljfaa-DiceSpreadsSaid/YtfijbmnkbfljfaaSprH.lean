import Derived.Test.YtfijbmnkbfljfaaSpr
import Derived.Test.YtfijbmnkbfljfaaAbsWs
set_option linter.unusedVariables false
set_option linter.unusedSimpArgs false
set_option maxRecDepth 100000
namespace Go.Proofs.Ytfijbmnkbfljfaa.Dice
open Go.Abs
theorem l7 (l : List Int) (hl : l.length ≤ 65536) : ∀ k i : Nat, i + k = l.length → L7L (k + 1) (nlen (lenI l)) l l (i : Int) = some 1
  | 0, i, h => by
    rw [L7L, show ilt (i : Int) (nlen (lenI l)) = false from by simp only [ilt_d, nlen, lenI, decide_eq_false_iff_not]; omega]
    rfl
  | k + 1, i, h => by
    have e1 : inB (i : Int) (lenI l) := ⟨by omega, by unfold lenI; omega⟩
    have e2 : ltN (idxN 0 (i : Int)) (lenI l) := by unfold ltN idxN lenI; omega
    have e3 : iadd .i64 (i : Int) 1 = ((i + 1 : Nat) : Int) := by unfold iadd; rw [w_i64_in (by omega)]; omega
    have e4 : ine (getI l (idxN 0 (i : Int))) (getI l (idxN 0 (i : Int))) = false := by simp [ine]
    rw [L7L, show ilt (i : Int) (nlen (lenI l)) = true from by simp only [ilt_d, nlen, lenI, decide_eq_true_eq]; omega, e4, decide_eq_true e1, decide_eq_true e2, e3]
    exact l7 l hl k (i + 1) (by omega)
theorem l7' (x : Int) (k : Nat) (hk : k ≤ 65536) : L7L (k + 1) (nlen (lenI (spr x k))) (spr x k) (spr x k) 0 = some 1 :=
  l7 (spr x k) (by rw [spr_len]; exact hk) k 0 (by rw [spr_len]; omega)
theorem law_spreads (x n : Int) (w0 : (Lit.int .u32 x).wf = true) (w1 : (Lit.int .i64 n).wf = true) :
    ACalls Try.prog 7 [AV.v (.int .u32 x), AV.v (.int .i64 n)] [] (AV.v (Value.bool true)) [] [] := by
  have hx : 0 ≤ x ∧ x < 4294967296 := by have := wf_u32' w0; omega
  have hm : many n ≤ 65536 := by unfold many; omega
  have h := f7 x n 1 0 301 1 0 (many n + 1) 1 0 (many n + 1) (fun _ _ h => by simp at h) (fun _ _ _ => l7' x 300 (by omega)) (fun _ _ _ _ h => by simp at h) (fun _ _ _ _ _ => l7' x _ hm) (fun _ _ _ h => by simp at h) (fun _ _ _ _ => l7' x _ hm)
    (fun _ _ => hx) (fun _ _ _ => hx) (fun _ _ _ => hx) (fun _ _ => hx) (fun _ _ => hx)
  have e1 : nlen (lenI (spr x (many n))) = (many n : Int) := by unfold nlen lenI; rw [spr_len]
  have e : f7r0 x n 1 0 301 1 0 (many n + 1) 1 0 (many n + 1) = true := by
    unfold f7r0
    rw [e1]
    simp only [ilt_d, ile_d, ieq_d, ine_d, cond_if, decide_eq_true_eq]
    have h3 : ∀ m : Int, 65536 ≤ m → (many m : Int) = 65536 := fun m hm => by unfold many; omega
    repeat' split
    all_goals first | rfl | (exfalso; rename_i hh; first | exact hh (h3 n (by omega)) | omega) | simp_all
  rw [e] at h; exact h
end Go.Proofs.Ytfijbmnkbfljfaa.Dice
