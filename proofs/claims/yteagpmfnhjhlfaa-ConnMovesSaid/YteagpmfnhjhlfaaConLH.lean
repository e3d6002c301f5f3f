import Derived.Test.YteagpmfnhjhlfaaConL
set_option linter.unusedVariables false
set_option linter.unusedSimpArgs false
set_option maxRecDepth 100000
namespace Go.Proofs.Yteagpmfnhjhlfaa.Con
open Go.Abs Go.Proofs.Yteagpmfnhjhlfaa.Ser
abbrev LH := List (Int × Int × Int × Int × Int × Int × Int × Int × Int × Int)
/-- a list of one segment at most -/
def one (A : LH) : Bool := decide (A.length ≤ 1)
theorem L9z (A : LH) (h : one A = true) : L9L A A 2 0 = some 1 := by
  unfold one at h
  match A, h with
  | [], _ => simp [L9L, lenR, nlen, ilt]
  | [z], _ => simp [L9L, lenR, nlen, ilt, getR, idxN, andB, ieq, notB, inB, ltN, iadd, w_i64]
  | _ :: _ :: _, h => simp at h
theorem g9 (A : LH) (h : one A = true) : ACalls Try.prog 9 [.sw 0 10, .sw 1 10] [.rows true [.int .u16, .int .u16, .int .u32, .int .u32, .int .u8, .int .u8, .int .u8, .int .u16, .int .u16, .int .u16] A, .rows true [.int .u16, .int .u16, .int .u32, .int .u32, .int .u8, .int .u8, .int .u8, .int .u16, .int .u16, .int .u16] A] (.v (.bool true)) [] [] := by
  have k := f9 A A 1 0 2 (by intros; simp at *) (fun _ _ => L9z A h)
  have e : f9r0 A A 1 0 2 = true := by unfold f9r0; simp [ine]; rfl
  rw [e] at k; exact k
end Go.Proofs.Yteagpmfnhjhlfaa.Con
