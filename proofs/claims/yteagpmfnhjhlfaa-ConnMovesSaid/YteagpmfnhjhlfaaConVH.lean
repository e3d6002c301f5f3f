import Derived.Test.YteagpmfnhjhlfaaConU
set_option linter.unusedVariables false
set_option linter.unusedSimpArgs false
namespace Go.Proofs.Yteagpmfnhjhlfaa.Con
open Go.Abs
theorem f5t (t n i u x y m k p z l v j : Int) : f5r0 t n i u x y m k p z l v j = true := by
  unfold f5r0 f20r0
  cases h : ieq t 0 <;> simp [andB, ieq]
theorem law_moves (t n i u x y m k p z l v j : Int) (w0 : (Lit.int .i64 t).wf = true) (w1 : (Lit.int .i64 n).wf = true) (w2 : (Lit.int .u32 i).wf = true) (w3 : (Lit.int .u32 u).wf = true) (w4 : (Lit.int .u32 x).wf = true) (w5 : (Lit.int .u32 y).wf = true) (w6 : (Lit.int .i64 m).wf = true) (w7 : (Lit.int .i64 k).wf = true) (w8 : (Lit.int .u8 p).wf = true) (w9 : (Lit.int .i64 z).wf = true) (w10 : (Lit.int .i64 l).wf = true) (w11 : (Lit.int .i64 v).wf = true) (w12 : (Lit.int .u32 j).wf = true) :
    ACalls Try.prog 5 [.agg [.v (.int .i64 t), .v (.int .i64 n), .v (.int .u32 i), .v (.int .u32 u), .v (.int .u32 x), .v (.int .u32 y), .v (.int .i64 m), .v (.int .i64 k), .v (.int .u8 p), .v (.int .i64 z), .v (.int .i64 l)], .v (.int .i64 v), .v (.int .u32 j)] [] (.v (.bool true)) [] [] := by
  have h := f5 t n i u x y m k p z l v j (fun _ => one15 t n i u x y m k p z l) (fun _ => one17 t n i u x y m k p z l) (fun _ => one12 t n i u x y m k p z l) (fun _ => one15 t n i u x y m k p z l) (fun _ => one17 t n i u x y m k p z l) (fun _ => one12 t n i u x y m k p z l)
  rw [f5t] at h; exact h
end Go.Proofs.Yteagpmfnhjhlfaa.Con
