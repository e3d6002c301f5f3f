import Derived.Test.YteagpmfnhjhlfaaConP
set_option linter.unusedVariables false
namespace Go.Proofs.Yteagpmfnhjhlfaa.Con
open Go.Abs
theorem b8_of {f : Int} (h : (Lit.int .u8 f).wf = true) : b8 f = true := by
  have := wf_u8' h; simp [b8]; omega
theorem w32_of {f : Int} (h : (Lit.int .u32 f).wf = true) : w32 f = true := by
  have := wf_u32' h; simp [w32]; omega
theorem law_takes (t n i u x y m k p z l s d q a o e f w g r b : Int) (w0 : (Lit.int .i64 t).wf = true) (w1 : (Lit.int .i64 n).wf = true) (w2 : (Lit.int .u32 i).wf = true) (w3 : (Lit.int .u32 u).wf = true) (w4 : (Lit.int .u32 x).wf = true) (w5 : (Lit.int .u32 y).wf = true) (w6 : (Lit.int .i64 m).wf = true) (w7 : (Lit.int .i64 k).wf = true) (w8 : (Lit.int .u8 p).wf = true) (w9 : (Lit.int .i64 z).wf = true) (w10 : (Lit.int .i64 l).wf = true) (w11 : (Lit.int .u16 s).wf = true) (w12 : (Lit.int .u16 d).wf = true) (w13 : (Lit.int .u32 q).wf = true) (w14 : (Lit.int .u32 a).wf = true) (w15 : (Lit.int .u8 o).wf = true) (w16 : (Lit.int .u8 e).wf = true) (w17 : (Lit.int .u8 f).wf = true) (w18 : (Lit.int .u16 w).wf = true) (w19 : (Lit.int .u16 g).wf = true) (w20 : (Lit.int .u16 r).wf = true) (w21 : (Lit.int .i64 b).wf = true) :
    ACalls Try.prog 3 [.agg [.v (.int .i64 t), .v (.int .i64 n), .v (.int .u32 i), .v (.int .u32 u), .v (.int .u32 x), .v (.int .u32 y), .v (.int .i64 m), .v (.int .i64 k), .v (.int .u8 p), .v (.int .i64 z), .v (.int .i64 l)], .agg [.v (.int .u16 s), .v (.int .u16 d), .v (.int .u32 q), .v (.int .u32 a), .v (.int .u8 o), .v (.int .u8 e), .v (.int .u8 f), .v (.int .u16 w), .v (.int .u16 g), .v (.int .u16 r)], .v (.int .i64 b)] [] (.v (.bool true)) [] [] :=
  f3 t n i u x y m k p z l s d q a o e f w g r b (b8_of w17) (w32_of w13) (w32_of w5) (oneL t n i u x y m k p z l s d q a o e f w g r b)
end Go.Proofs.Yteagpmfnhjhlfaa.Con
